/- Several texts in one: the functions that this law reaches, and their laws. -/
import Derived.Test.YtkgacclldpicnaaDoorZ3A
import Derived.Test.YtkgacclldpicnaaDoorZ3B
import Derived.ProofKit
import Derived.Carry
import Derived.HandedShaped
import Derived.Stop.Joined
import Derived.Lib.Repeat
import Derived.Laws.AppendOwn
import Derived.Sort.Row
import Derived.Sort.Grow
import Derived.Lib.Strings
import Derived.Lib.ItoaLen
import Derived.Lib.SplitLaws
import Derived.Lib.Join
import Derived.Lib.LaidTab
import Derived.Stop.LaidErr
import Derived.Laws.IdiomCopy
import Derived.Test.YtkgacclldpicnaaDoorRows
import Derived.KernelRfl
import Derived.Shelf.Vars
import Derived.Shelf.Strings.Builder1
import Derived.Shelf.Strings.Builder2
import Derived.Shelf.Strings.BuilderF
import Derived.Shelf.Strings.BuilderK
import Derived.Shelf.Strconv.Itoa0
import Derived.Shelf.Strconv.Itoa1
import Derived.Shelf.LaysM
import Derived.Shelf.Strconv.Itoa2
import Derived.Shelf.Strconv.Itoa3
import Derived.Shelf.Strconv.Itoa4
import Derived.Shelf.Strings.Search1
import Derived.Shelf.Strings.Search2
import Derived.Shelf.Strings.Search3
import Derived.Shelf.Strings.Count
import Derived.Shelf.Strings.Shaped
import Derived.Shelf.Strings.Prefix
import Derived.Shelf.Strings.Split
import Derived.Shelf.Bits.Mul64
import Derived.Shelf.Strings.Repeat
import Derived.Shelf.Unicode.DecodeSlow

/- The abstract machine, part 19: regions are sound. -/
namespace Go.Am
set_option linter.unusedVariables false
set_option linter.unusedSimpArgs false

section
variable {P : Program} {n : Nat} {q : Nat → Value} {K : Ctx} {G : Nat → Prop} {w0 w : World} {a : Act} {V : Nat → Value} {own : Nat → List Nat}

theorem getD_some {tm : Array Value} {t : Nat} {v : Value} (h : tm.getD t undef = v) (hv : v ≠ undef) : tm[t]? = some v := by
  rw [Array.getD_eq_getD_getElem?] at h
  cases h1 : tm[t]? with
  | none => rw [h1] at h; exact absurd h.symm hv
  | some u => rw [h1] at h; simpa using h

theorem yield_bool {ops : Array Oper} {j : Nat} {o : Oper} {t : Nat} {d : Bool} (ho : ops[j]? = some o) (hd : o.dst = some t) (ht : a.tmps.getD t undef = .bool d) : yielded ops a.tmps j = some d := by
  unfold yielded
  have := getD_some ht (by intro h; cases h)
  simp [ho, hd, this]

theorem yield_none {ops : Array Oper} {j : Nat} {o : Oper} {t : Nat} {x : Array Value} (ho : ops[j]? = some o) (hd : o.dst = some t) (ht : a.tmps.getD t undef = .tuple x) : yielded ops a.tmps j = none := by
  unfold yielded
  rw [Array.getD_eq_getD_getElem?] at ht
  cases h1 : a.tmps[t]? with
  | none => simp [ho, hd, h1]
  | some u => rw [h1] at ht; simp at ht; subst ht; simp [ho, hd, h1]

theorem guardS_spec {ops : Array Oper} {S S' : St} {o : Oper} {b : Bool} (hR : RelV n K w0 G w a S.E S.L V own) (hd : DecOk q a S) (h : guardS ops.toList S o.guard = some (b, S')) (hc : All S'.cs) :
    Region.wanted o (yielded ops a.tmps) = b ∧ S'.E = S.E ∧ S'.L = S.L ∧ DecOk q a S' ∧ All S.cs := by
  unfold guardS at h
  split at h
  · rename_i hg
    cases h
    exact ⟨by simp [Region.wanted, hg], rfl, rfl, hd, hc⟩
  · rename_i j want hg
    split at h
    · rename_i p hp
      rw [nthO_eq] at hp
      have hp' : ops[j]? = some p := by simpa using hp
      split at h
      · rename_i t ht
        split at h
        · rename_i x hx
          cases h
          have hv := hR.valEq (x := .tmp t) (v := .tuple x) (by simp only [opnd]; rw [hx])
          refine ⟨?_, rfl, rfl, hd, hc⟩
          simp [Region.wanted, hg, yield_none hp' ht hv.1]
        · split at h
          · rename_i d S1 hdec
            cases h
            obtain ⟨h1, h2, h3, h4, h5⟩ := decideS_spec hR hd hdec hc
            refine ⟨?_, h2, h3, h4, h5⟩
            simp only [Region.wanted, hg, yield_bool hp' ht h1]
            cases d <;> cases want <;> rfl
          · cases h
      · cases h
    · cases h

theorem putS_spec {S S' : St} {E : Env} {L : Heap} {cs : List Prop} {d : Option Nat} {pv : PV} {v : Value} {w' : World} {V' : Nat → Value} {own' : Nat → List Nat}
    (h : putS n S E L cs d pv = some S') (hR : RelV n K w0 G w' a E L V' own') (hd : DecOk q a S) (hv : RepP w0 G L V' pv v) :
    RelV n K w0 G w' (a.put d v) S'.E S'.L V' own' ∧ DecOk q (a.put d v) S' ∧ S'.cs = S.cs ++ cs := by
  cases d with
  | none =>
    cases h
    exact ⟨hR, hd, rfl⟩
  | some d =>
    simp only [putS] at h
    split at h
    · rename_i hlt
      cases h
      simp only [Bool.and_eq_true, Bool.not_eq_true'] at hlt
      exact ⟨hR.put (Nat.le_of_ble_eq_true hlt.1) hv, hd.put d v (fun hm => by rw [memB_iff.2 hm] at hlt; cases hlt.2) rfl rfl, rfl⟩
    · cases h

theorem putS_cs {S S' : St} {E : Env} {L : Heap} {cs : List Prop} {d : Option Nat} {pv : PV} (h : putS n S E L cs d pv = some S') : S'.cs = S.cs ++ cs := by
  cases d with
  | none => cases h; rfl
  | some d =>
    simp only [putS] at h
    split at h
    · cases h; rfl
    · cases h

theorem decideS_cs {S S' : St} {t : Nat} {d : Bool} (h : decideS S t = some (d, S')) (hc : All S'.cs) : All S.cs := by
  unfold decideS at h
  split at h
  · cases h; exact hc
  · split at h
    · cases h; exact (All.append.1 hc).1
    · cases h

theorem guardS_cs {all : List Oper} {S S' : St} {g : Option (Nat × Bool)} {b : Bool} (h : guardS all S g = some (b, S')) (hc : All S'.cs) : All S.cs := by
  unfold guardS at h
  split at h
  · cases h; exact hc
  · split at h
    · split at h
      · split at h
        · cases h; exact hc
        · split at h
          · rename_i hdec; cases h; exact decideS_cs hdec hc
          · cases h
      · cases h
    · cases h

theorem stepO_cs {tab : List TI} {ext : Ext} {wr q : Bool} {all : List Oper} {S S' : St} {o : Oper} (h : stepO tab ext wr n q all S o = some S') (hc : All S'.cs) : All S.cs := by
  unfold stepO at h
  split at h
  · cases h
  · rename_i S1 hg
    have := putS_cs h
    rw [this] at hc
    exact guardS_cs hg (All.append.1 hc).1
  · rename_i S1 hg
    refine guardS_cs hg ?_
    split at h
    · split at h
      · rename_i d S2 hdec
        have := putS_cs h
        rw [this] at hc
        exact decideS_cs hdec (All.append.1 hc).1
      · cases h
    · split at h
      · split at h
        · have := putS_cs h
          rw [this] at hc
          exact (All.append.1 hc).1
        · cases h
      · split at h
        · have := putS_cs h
          rw [this] at hc
          exact (All.append.1 hc).1
        · cases h

theorem stepsO_cs {tab : List TI} {ext : Ext} {wr q : Bool} {all : List Oper} : ∀ {l : List Oper} {S S' : St} (h : stepsO tab ext wr n q all l S = some S') (hc : All S'.cs), All S.cs
  | [], S, S', h, hc => by cases h; exact hc
  | o :: r, S, S', h, hc => by
    simp only [stepsO] at h
    split at h
    · rename_i S1 h1
      exact stepO_cs h1 (stepsO_cs h hc)
    · cases h

theorem pick_run {ρ : Operand → Value} {o : Oper} {c x y : Operand} {d : Bool} (ho : o.op = .pick c x y) (hc : ρ c = .bool d) (w : World) : (execOp ρ o).run P w = .ok (.value (if d then ρ x else ρ y)) w := by
  simp only [execOp, ho, hc]
  simp [asBool]

theorem cond_rep {L : Heap} {p q : PV} {u v : Value} {d : Bool} (hp : RepP w0 G L V p u) (hq : RepP w0 G L V q v) : RepP w0 G L V (cond d p q) (if d then u else v) := by
  cases d
  · exact hq
  · exact hp

theorem stepO_wp {tab : List TI} {ext : Ext} (hT : TabOk P tab) (hX : ExtOk P ext) {wr : Bool} {ops : Array Oper} {S S' : St} {o : Oper} (hR : RelV n K w0 G w a S.E S.L V own) (hd : DecOk q a S)
    (h : stepO tab ext wr n false ops.toList S o = some S') (hc : All S'.cs) {Kt : Act → World → Prop} {Q : Exit → Act → World → Prop}
    (hK : ∀ a' w0' G' w' V' own', RelV n K w0' G' w' a' S'.E S'.L V' own' → DecOk q a' S' → Kt a' w') :
    if Region.wanted o (yielded ops a.tmps) then o.wp P a w Kt Q else Kt (a.put o.dst undef) w := by
  unfold stepO at h
  split at h
  · cases h
  · rename_i S1 hg
    have hcs := putS_cs h
    rw [hcs] at hc
    obtain ⟨h1, h2, h3, h4, h5⟩ := guardS_spec hR hd hg (All.append.1 hc).1
    rw [h1, if_neg (by simp)]
    have hR1 : RelV n K w0 G w a S1.E S1.L V own := by rw [h2, h3]; exact hR
    obtain ⟨g1, g2, _⟩ := putS_spec (v := undef) h hR1 h4 ⟨rfl, trivial⟩
    exact hK _ _ _ _ _ _ g1 g2
  · rename_i S1 hg
    have hc1 : All S1.cs := by
      split at h
      · split at h
        · rename_i d S2 hdec
          have hcs := putS_cs h
          rw [hcs] at hc
          exact decideS_cs hdec (All.append.1 hc).1
        · cases h
      · dsimp only at h
        split at h
        · have hcs := putS_cs h
          rw [hcs] at hc
          exact (All.append.1 hc).1
        · cases h
    obtain ⟨h1, h2, h3, h4, h5⟩ := guardS_spec hR hd hg hc1
    rw [h1, if_pos rfl]
    have hR1 : RelV n K w0 G w a S1.E S1.L V own := by rw [h2, h3]; exact hR
    split at h
    · rename_i c x y ho
      split at h
      · rename_i d S2 hdec
        have hcs := putS_cs h
        rw [hcs] at hc
        obtain ⟨k1, k2, k3, k4, k5⟩ := decideS_spec hR1 h4 hdec (All.append.1 hc).1
        have hR2 : RelV n K w0 G w a S2.E S2.L V own := by rw [k2, k3]; exact hR1
        obtain ⟨g1, g2, _⟩ := putS_spec h hR2 k4 (cond_rep (d := d) (hR2.opnd x) (hR2.opnd y))
        exact wp_of_value (w' := w) (pick_run ho k1 w) (hK _ _ _ _ _ _ g1 g2)
      · cases h
    · dsimp only at h
      split at h
      · rename_i cs pv E L hop
        have hcs := putS_cs h
        rw [hcs] at hc
        refine opMF_spec hT hX hR1 hop (All.append.1 hc).2 fun v w0' G' w' V' own' hR' hv => ?_
        obtain ⟨g1, g2, _⟩ := putS_spec h hR' h4 hv
        exact hK _ _ _ _ _ _ g1 g2
      · cases h

theorem stepsO_wp {tab : List TI} {ext : Ext} (hT : TabOk P tab) (hX : ExtOk P ext) {wr : Bool} {ops : Array Oper} {Q : Exit → Act → World → Prop} : ∀ {w0 : World} {G : Nat → Prop} {l : List Oper} {S S' : St} {a : Act} {w : World} {V : Nat → Value} {own : Nat → List Nat} (hR : RelV n K w0 G w a S.E S.L V own) (hd : DecOk q a S)
    (h : stepsO tab ext wr n false ops.toList l S = some S') (hc : All S'.cs) (hK : ∀ a' w0' G' w' V' own', RelV n K w0' G' w' a' S'.E S'.L V' own' → DecOk q a' S' → Q .normal a' w'), wpList P ops Q l a w
  | w0, G, [], S, S', a, w, V, own, hR, hd, h, hc, hK => by
    cases h
    exact hK _ _ _ _ _ _ hR hd
  | w0, G, o :: r, S, S', a, w, V, own, hR, hd, h, hc, hK => by
    simp only [stepsO] at h
    split at h
    · rename_i S1 h1
      refine wpList_step fun K hKK => ?_
      exact stepO_wp hT hX hR hd h1 (stepsO_cs h hc) fun a' w0' G' w' V' own' hR' hd' => hKK _ _ (stepsO_wp hT hX hR' hd' h hc hK)
    · cases h

theorem stepO_quiet {tab : List TI} {ext : Ext} (hT : TabOk P tab) (hX : ExtOk P ext) {wr : Bool} {ops : Array Oper} {S S' : St} {o : Oper} (hR : RelV n K w0 G w a S.E S.L V own) (hd : DecOk q a S)
    (h : stepO tab ext wr n true ops.toList S o = some S') (hc : All S'.cs) :
    ∃ v, YieldsK P ops o v a w ∧ RelV n K w0 G w (a.put o.dst v) S'.E S'.L V own ∧ DecOk q (a.put o.dst v) S' := by
  unfold stepO at h
  split at h
  · cases h
  · rename_i S1 hg
    have hcs := putS_cs h
    rw [hcs] at hc
    obtain ⟨h1, h2, h3, h4, h5⟩ := guardS_spec hR hd hg (All.append.1 hc).1
    have hR1 : RelV n K w0 G w a S1.E S1.L V own := by rw [h2, h3]; exact hR
    obtain ⟨g1, g2, _⟩ := putS_spec (v := undef) h hR1 h4 ⟨rfl, trivial⟩
    exact ⟨undef, .inr ⟨h1, rfl⟩, g1, g2⟩
  · rename_i S1 hg
    have hc1 : All S1.cs := by
      split at h
      · split at h
        · rename_i d S2 hdec
          have hcs := putS_cs h
          rw [hcs] at hc
          exact decideS_cs hdec (All.append.1 hc).1
        · cases h
      · dsimp only at h
        split at h
        · have hcs := putS_cs h
          rw [hcs] at hc
          exact (All.append.1 hc).1
        · cases h
    obtain ⟨h1, h2, h3, h4, h5⟩ := guardS_spec hR hd hg hc1
    have hR1 : RelV n K w0 G w a S1.E S1.L V own := by rw [h2, h3]; exact hR
    split at h
    · rename_i c x y ho
      split at h
      · rename_i d S2 hdec
        have hcs := putS_cs h
        rw [hcs] at hc
        obtain ⟨k1, k2, k3, k4, k5⟩ := decideS_spec hR1 h4 hdec (All.append.1 hc).1
        have hR2 : RelV n K w0 G w a S2.E S2.L V own := by rw [k2, k3]; exact hR1
        obtain ⟨g1, g2, _⟩ := putS_spec h hR2 k4 (cond_rep (d := d) (hR2.opnd x) (hR2.opnd y))
        refine ⟨_, .inl ⟨h1, fun w' k => ?_⟩, g1, g2⟩
        unfold Oper.quietAt
        rw [pick_run ho k1 w']
        exact ⟨rfl, rfl⟩
      · cases h
    · dsimp only at h
      split at h
      · rename_i cs pv hop
        have hcs := putS_cs h
        rw [hcs] at hc
        obtain ⟨v, hv, hq⟩ := opQ_spec hT hX hR1 hop (All.append.1 hc).2
        obtain ⟨g1, g2, _⟩ := putS_spec h hR1 h4 hv
        exact ⟨v, .inl ⟨h1, hq⟩, g1, g2⟩
      · cases h

def decO1 (all : List Oper) (S : St) (o : Oper) : Option St :=
  match guardS all S o.guard with
  | none => none
  | some (false, S) => some S
  | some (true, S) => match o.op with
    | .pick (.tmp c) _ _ => match decideS S c with
      | some (_, S) => some S
      | none => none
    | _ => some S

def decOs (all : List Oper) : List Nat → St → Option St
  | [], S => some S
  | i :: r, S => match nthO all i with
    | some o => match decO1 all S o with
      | some S => decOs all r S
      | none => none
    | none => none

def firstQ (tab : List TI) (ext : Ext) (wr : Bool) (n : Nat) (ops : Array Oper) (listed : Array Bool) (S : St) : List Nat → Option (Nat × St)
  | [] => none
  | i :: r => match nthO ops.toList i, Region.free .any ops listed i with
    | some o, true => match stepO tab ext wr n true ops.toList S o with
      | some S' => some (i, S')
      | none => firstQ tab ext wr n ops listed S r
    | _, _ => firstQ tab ext wr n ops listed S r

def stepK (tab : List TI) (ext : Ext) (n : Nat) (all : List Oper) (S : St) (o : Oper) : Option St :=
  match guardS all S o.guard with
  | some (true, S) => match opK tab ext S.E S.L o.op with
    | some (cs, pv, L) => putS n S S.E L cs o.dst pv
    | none => none
  | _ => none

def frzS (S : St) (op : Op) : St := ⟨S.path, S.dec, (frzOp op (S.E, S.L)).1, (frzOp op (S.E, S.L)).2, S.cs, S.pins⟩

def stepB (tab : List TI) (ext : Ext) (wr : Bool) (n : Nat) (ops : Array Oper) (listed : Array Bool) (i : Nat) (S : St) (o : Oper) : Option St :=
  match stepK tab ext n ops.toList S o with
  | some S' => some S'
  | none => match barB ops listed i with
    | true => stepO tab ext wr n false ops.toList S o
    | false => match stepO tab ext wr n true ops.toList (frzS S o.op) o with
      | some S' => some S'
      | none => stepK tab ext n ops.toList (frzS S o.op) o

def schedS (tab : List TI) (ext : Ext) (wr : Bool) (n : Nat) (ops : Array Oper) : Nat → Array Bool → St → Option St
  | 0, listed, S => match Region.ready .any ops listed with
    | [] => some S
    | _ => none
  | m + 1, listed, S => match Region.ready .any ops listed with
    | [] => some S
    | i :: r => match decOs ops.toList (i :: r) S with
      | none => none
      | some S => match firstQ tab ext wr n ops listed S (i :: r) with
        | some (j, S') => schedS tab ext wr n ops m (listed.setIfInBounds j true) S'
        | none => match r, nthO ops.toList i with
          | [], some o => match stepB tab ext wr n ops listed i S o with
            | some S' => schedS tab ext wr n ops m (listed.setIfInBounds i true) S'
            | none => none
          | _, _ => none

theorem decO1_cs {all : List Oper} {S S' : St} {o : Oper} (h : decO1 all S o = some S') (hc : All S'.cs) : All S.cs := by
  unfold decO1 at h
  split at h
  · cases h
  · rename_i hg; cases h; exact guardS_cs hg hc
  · rename_i hg
    refine guardS_cs hg ?_
    split at h
    · split at h
      · rename_i hd; cases h; exact decideS_cs hd hc
      · cases h
    · cases h; exact hc

theorem decO1_spec {ops : Array Oper} {S S' : St} {o : Oper} (hR : RelV n K w0 G w a S.E S.L V own) (hd : DecOk q a S) (h : decO1 ops.toList S o = some S') (hc : All S'.cs) :
    S'.E = S.E ∧ S'.L = S.L ∧ DecOk q a S' := by
  unfold decO1 at h
  split at h
  · cases h
  · rename_i S1 hg
    cases h
    obtain ⟨_, h2, h3, h4, _⟩ := guardS_spec hR hd hg hc
    exact ⟨h2, h3, h4⟩
  · rename_i S1 hg
    split at h
    · split at h
      · rename_i hdec
        cases h
        obtain ⟨_, h2, h3, h4, _⟩ := guardS_spec hR hd hg (decideS_cs hdec hc)
        have hR1 : RelV n K w0 G w a S1.E S1.L V own := by rw [h2, h3]; exact hR
        obtain ⟨_, k2, k3, k4, _⟩ := decideS_spec hR1 h4 hdec hc
        exact ⟨k2.trans h2, k3.trans h3, k4⟩
      · cases h
    · cases h
      obtain ⟨_, h2, h3, h4, _⟩ := guardS_spec hR hd hg hc
      exact ⟨h2, h3, h4⟩

theorem decOs_cs {all : List Oper} : ∀ {is : List Nat} {S S' : St}, decOs all is S = some S' → All S'.cs → All S.cs
  | [], _, _, h, hc => by cases h; exact hc
  | i :: r, S, S', h, hc => by
    simp only [decOs] at h
    split at h
    · split at h
      · rename_i h1
        exact decO1_cs h1 (decOs_cs h hc)
      · cases h
    · cases h

theorem decOs_spec {ops : Array Oper} : ∀ {is : List Nat} {S S' : St}, RelV n K w0 G w a S.E S.L V own → DecOk q a S → decOs ops.toList is S = some S' → All S'.cs → S'.E = S.E ∧ S'.L = S.L ∧ DecOk q a S'
  | [], _, _, _, hd, h, hc => by cases h; exact ⟨rfl, rfl, hd⟩
  | i :: r, S, S', hR, hd, h, hc => by
    simp only [decOs] at h
    split at h
    · split at h
      · rename_i S1 h1
        obtain ⟨e1, e2, e3⟩ := decO1_spec hR hd h1 (decOs_cs h hc)
        obtain ⟨f1, f2, f3⟩ := decOs_spec (S := S1) (by rw [e1, e2]; exact hR) e3 h hc
        exact ⟨f1.trans e1, f2.trans e2, f3⟩
      · cases h
    · cases h

theorem firstQ_spec {tab : List TI} {ext : Ext} {wr : Bool} {ops : Array Oper} {listed : Array Bool} {S : St} {j : Nat} {S' : St} : ∀ {rs : List Nat}, firstQ tab ext wr n ops listed S rs = some (j, S') →
    j ∈ rs ∧ ∃ o, ops[j]? = some o ∧ Region.free .any ops listed j = true ∧ stepO tab ext wr n true ops.toList S o = some S'
  | [], h => by cases h
  | i :: r, h => by
    simp only [firstQ] at h
    have rest : firstQ tab ext wr n ops listed S r = some (j, S') → j ∈ i :: r ∧ ∃ o, ops[j]? = some o ∧ Region.free .any ops listed j = true ∧ stepO tab ext wr n true ops.toList S o = some S' := fun h => by
      obtain ⟨h1, h2⟩ := firstQ_spec h
      exact ⟨List.mem_cons_of_mem _ h1, h2⟩
    split at h
    · rename_i o ho hf
      split at h
      · rename_i S1 h1
        cases h
        rw [nthO_eq] at ho
        exact ⟨List.mem_cons_self .., o, by simpa using ho, hf, h1⟩
      · exact rest h
    · exact rest h

theorem stepK_cs {tab : List TI} {ext : Ext} {all : List Oper} {S S' : St} {o : Oper} (h : stepK tab ext n all S o = some S') (hc : All S'.cs) : All S.cs := by
  unfold stepK at h
  split at h
  · rename_i hg
    split at h
    · have := putS_cs h
      rw [this] at hc
      exact guardS_cs hg (All.append.1 hc).1
    · cases h
  · cases h

theorem stepB_cs {tab : List TI} {ext : Ext} {wr : Bool} {ops : Array Oper} {listed : Array Bool} {i : Nat} {S S' : St} {o : Oper} (h : stepB tab ext wr n ops listed i S o = some S') (hc : All S'.cs) : All S.cs := by
  unfold stepB at h
  split at h
  · rename_i h1; cases h; exact stepK_cs h1 hc
  · split at h
    · exact stepO_cs h hc
    · split at h
      · rename_i h1
        cases h
        have := stepO_cs h1 hc
        exact this
      · have := stepK_cs h hc
        exact this

theorem stepK_wp {tab : List TI} {ext : Ext} (hT : TabOk P tab) (hX : ExtOk P ext) {ops : Array Oper} {S S' : St} {o : Oper} (hR : RelV n K w0 G w a S.E S.L V own) (hd : DecOk q a S)
    (h : stepK tab ext n ops.toList S o = some S') (hc : All S'.cs) {Kt : Act → World → Prop} {Q : Exit → Act → World → Prop}
    (hK : ∀ a' w0' G' w' V' own', Kept [] w w' → RelV n K w0' G' w' a' S'.E S'.L V' own' → DecOk q a' S' → Kt a' w') :
    if Region.wanted o (yielded ops a.tmps) then o.wp P a w Kt Q else Kt (a.put o.dst undef) w := by
  unfold stepK at h
  split at h
  · rename_i S1 hg
    split at h
    · rename_i cs pv L hop
      have hcs := putS_cs h
      rw [hcs] at hc
      obtain ⟨h1, h2, h3, h4, h5⟩ := guardS_spec hR hd hg (All.append.1 hc).1
      rw [h1, if_pos rfl]
      have hR1 : RelV n K w0 G w a S1.E S1.L V own := by rw [h2, h3]; exact hR
      refine opK_spec hT hX hR1 hop (All.append.1 hc).2 fun v w0' G' w' V' own' k hR' hv => ?_
      obtain ⟨g1, g2, _⟩ := putS_spec h hR' h4 hv
      exact hK _ _ _ _ _ _ k g1 g2
    · cases h
  · cases h

theorem stepB_wp {tab : List TI} {ext : Ext} (hT : TabOk P tab) (hX : ExtOk P ext) {wr : Bool} {ops : Array Oper} {listed : Array Bool} {i : Nat} {S S' : St} {o : Oper} (hR : RelV n K w0 G w a S.E S.L V own) (hd : DecOk q a S)
    (h : stepB tab ext wr n ops listed i S o = some S') (hc : All S'.cs) {Kt : Act → World → Prop} {Q : Exit → Act → World → Prop}
    (hK : ∀ a' w0' G' w' V' own', (barB ops listed i = true ∨ Kept [] w w') → RelV n K w0' G' w' a' S'.E S'.L V' own' → DecOk q a' S' → Kt a' w') :
    if Region.wanted o (yielded ops a.tmps) then o.wp P a w Kt Q else Kt (a.put o.dst undef) w := by
  unfold stepB at h
  split at h
  · rename_i h1
    cases h
    exact stepK_wp hT hX hR hd h1 hc fun a' w0' G' w' V' own' k => hK a' w0' G' w' V' own' (.inr k)
  · split at h
    · rename_i hb
      exact stepO_wp hT hX hR hd h hc fun a' w0' G' w' V' own' => hK a' w0' G' w' V' own' (.inl hb)
    · obtain ⟨w1, G1, hR1⟩ := frzOp_spec hR o.op
      have hR1 : RelV n K w1 G1 w a (frzS S o.op).E (frzS S o.op).L V own := hR1
      have hd1 : DecOk q a (frzS S o.op) := hd
      split at h
      · rename_i h1
        cases h
        obtain ⟨v, hy, g1, g2⟩ := stepO_quiet hT hX hR1 hd1 h1 hc
        rcases hy with ⟨hw, hv⟩ | ⟨hw, rfl⟩
        · rw [hw, if_pos rfl]
          refine Oper.wp_of_quiet (C := Kept [] w) (K := fun a' => a' = a.put o.dst v) (Kept.refl _ _) (fun a' w' k e => by subst e; exact hK _ _ _ _ _ _ (.inr k) (g1.ext k) g2) ⟨v, fun w' k => ?_, rfl⟩
          have := hv w' k
          unfold Oper.quietAt at this ⊢
          generalize (execOp a.eval o).run P w' = r at *
          cases r with
          | ok nx w2 =>
            cases nx <;> simp only [Oper.quietUpon] at this ⊢
            case value u => exact this
            case skip => exact this
            case enter f args => exact ⟨this.1, this.2.mono fun e w3 hh => ⟨hh.1, k.trans hh.2⟩⟩
          | halt x w2 => simp only [Oper.quietUpon] at this
        · rw [hw]
          exact hK _ _ _ _ _ _ (.inr (Kept.refl _ _)) g1 g2
      · exact stepK_wp hT hX hR1 hd1 h hc fun a' w0' G' w' V' own' k => hK a' w0' G' w' V' own' (.inr k)

theorem schedS_cs {tab : List TI} {ext : Ext} {wr : Bool} {ops : Array Oper} {S' : St} : ∀ {m : Nat} {listed : Array Bool} {S : St}, schedS tab ext wr n ops m listed S = some S' → All S'.cs → All S.cs
  | 0, listed, S, h, hc => by
    simp only [schedS] at h
    split at h
    · cases h; exact hc
    · cases h
  | m + 1, listed, S, h, hc => by
    simp only [schedS] at h
    split at h
    · cases h; exact hc
    · split at h
      · cases h
      · rename_i S1 hdec
        refine decOs_cs hdec ?_
        split at h
        · rename_i j S2 hq
          obtain ⟨_, o, _, _, hst⟩ := firstQ_spec hq
          exact stepO_cs hst (schedS_cs h hc)
        · split at h
          · split at h
            · rename_i S2 hB
              exact stepB_cs hB (schedS_cs h hc)
            · cases h
          · cases h

theorem schedS_spec {tab : List TI} {ext : Ext} (hT : TabOk P tab) (hX : ExtOk P ext) {wr : Bool} {ops : Array Oper} {Q : Exit → Act → World → Prop} (hs : Region.noSelect ops = true) (hQ : ∀ c a w, ¬ Q (.panic c) a w) {S' : St}
    (hc : All S'.cs) (hK : ∀ a' w0' G' w' V' own', RelV n K w0' G' w' a' S'.E S'.L V' own' → DecOk q a' S' → Q .normal a' w') : ∀ {w0 : World} {G : Nat → Prop} {m : Nat} {listed : Array Bool} {S : St} {a : Act} {w : World} {V : Nat → Value} {own : Nat → List Nat},
    RelV n K w0 G w a S.E S.L V own → DecOk q a S → Down ops listed → schedS tab ext wr n ops m listed S = some S' → wpAnyK P ops Q m listed a w
  | w0, G, 0, listed, S, a, w, V, own, hR, hd, hD, h => by
    simp only [schedS] at h
    split at h
    · rename_i hr
      cases h
      exact fun w1 k => ⟨hr, hK _ _ _ _ _ _ (hR.ext k) hd⟩
    · cases h
  | w0, G, m + 1, listed, S, a, w, V, own, hR, hd, hD, h => by
    simp only [schedS] at h
    split at h
    · rename_i hr
      cases h
      exact fun w1 k => ⟨fun _ => hK _ _ _ _ _ _ (hR.ext k) hd, by rw [hr]; simp⟩
    · rename_i i r hr
      split at h
      · cases h
      · rename_i S1 hdec
        split at h
        · rename_i j S2 hq
          obtain ⟨hjr, o, ho, hf, hst⟩ := firstQ_spec hq
          rw [← hr] at hjr
          have hc2 : All S2.cs := schedS_cs h hc
          have hc1 : All S1.cs := stepO_cs hst hc2
          obtain ⟨e1, e2, e3⟩ := decOs_spec hR hd hdec hc1
          have hR1 : RelV n K w0 G w a S1.E S1.L V own := by rw [e1, e2]; exact hR
          obtain ⟨v, hy, g1, g2⟩ := stepO_quiet hT hX hR1 e3 hst hc2
          refine wpAnyK_first ho (Region.noSelect_spec hs) hQ m listed a w hD (Region.free_spec ho hf) hjr hy ?_
          exact schedS_spec hT hX hs hQ hc hK g1 g2 (hD.set hjr) h
        · split at h
          · rename_i o hno _
            rw [nthO_eq] at hno
            have ho : ops[i]? = some o := by simpa using hno
            split at h
            · rename_i S2 hB
              have hc2 : All S2.cs := schedS_cs h hc
              have hc1 : All S1.cs := stepB_cs hB hc2
              obtain ⟨e1, e2, e3⟩ := decOs_spec hR hd hdec hc1
              have hir : i ∈ Region.ready .any ops listed := by rw [hr]; simp
              refine fun w1 k => ⟨fun h0 => by (rw [hr] at h0; cases h0), fun j hj => ?_⟩
              have hji : j = i := by rw [hr] at hj; simpa using hj
              subst hji
              have hR1 : RelV n K w0 G w1 a S1.E S1.L V own := by rw [e1, e2]; exact hR.ext k
              unfold wpOp
              simp only [ho]
              have := stepB_wp (Kt := fun a' w' => (barB ops listed j = true ∨ Kept [] w1 w') ∧ wpAnyK P ops Q m (listed.setIfInBounds j true) a' w') (Q := Q) hT hX hR1 e3 hB hc2 (fun a' w0' G' w' V' own' hb hR' hd' => ⟨hb, schedS_spec hT hX hs hQ hc hK hR' hd' (hD.set hir) h⟩)
              split
              · rename_i hw; rw [if_pos hw] at this; exact .inl this
              · rename_i hw; rw [if_neg hw] at this; exact this
            · cases h
          · cases h


def bitsL : List Nat → Nat
  | [] => 0
  | d :: r => Nat.lor (Nat.shiftLeft 1 d) (bitsL r)

theorem one_shl_bit (x d : Nat) : (1 <<< x).testBit d = decide (x = d) := by
  rw [Nat.one_shiftLeft, Nat.testBit_two_pow]

theorem bitsL_mem : ∀ (l : List Nat) (d : Nat), (bitsL l).testBit d = decide (d ∈ l)
  | [], d => by simp [bitsL]
  | x :: r, d => by
    have e : bitsL (x :: r) = (1 <<< x) ||| bitsL r := rfl
    rw [e, Nat.testBit_or, bitsL_mem r d, one_shl_bit]
    by_cases hx : x = d
    · subst hx; simp
    · have : ¬ d = x := fun h => hx h.symm
      simp [hx, this]

structure OpI where
  looks : Nat
  dst : Nat
  pre : Nat
  loud : Bool

def loudOp : Op → Bool
  | .call { callee := .builtin .len, .. } => false
  | .call _ => true
  | .box _ _ => true
  | .alloc _ => true
  | .buildSlice _ _ _ => true
  | .makeSlice _ _ _ => true
  | .store _ _ _ => true
  | .convert _ _ _ => true
  | _ => false

def dstL (o : Oper) : List Nat := match o.dst with | some d => [d] | none => []
def preL (o : Oper) : List Nat := (o.after.toList.filter fun e => Region.binds .any e).map fun e => e.on

def opI (ops : Array Oper) (o : Oper) : OpI := ⟨bitsL (o.looksAt ops), bitsL (dstL o), bitsL (preL o), loudOp o.op⟩

def pairsB (y : OpI) (j : Nat) : Nat → List OpI → Bool
  | _, [] => true
  | k, x :: r => match Nat.beq k j with
    | true => true
    | false => match Nat.beq (Nat.land y.pre (Nat.shiftLeft 1 k)) 0 with
      | false => pairsB y j (k + 1) r
      | true => Nat.beq (Nat.land (Nat.lor y.looks y.dst) x.dst) 0 && (Nat.beq (Nat.land x.looks y.dst) 0 && pairsB y j (k + 1) r)

def onlyB (j : Nat) : List OpI → Bool
  | [] => true
  | x :: r => !Nat.beq (Nat.shiftRight x.pre j) 0 && onlyB j r

def seqB (all : List OpI) : Nat → List OpI → Bool
  | _, [] => true
  | j, y :: r => Nat.beq (Nat.shiftRight y.pre j) 0 && (pairsB y j 0 all && ((match y.loud with | true => onlyB j r | false => true) && seqB all (j + 1) r))

def seqOk (ops : Array Oper) : Bool := match ops.toList.map (opI ops) with
  | all => seqB all 0 all

def seqS (tab : List TI) (ext : Ext) (wr : Bool) (n : Nat) (ops : Array Oper) : Nat → Array Bool → List Oper → St → Option St
  | _, _, [], S => some S
  | j, listed, o :: r, S => match loudOp o.op with
    | false => match stepO tab ext wr n true ops.toList S o with
      | some S' => seqS tab ext wr n ops (j + 1) (listed.setIfInBounds j true) r S'
      | none => none
    | true => match stepO tab ext wr n true ops.toList S o with
      | some S' => seqS tab ext wr n ops (j + 1) (listed.setIfInBounds j true) r S'
      | none => match stepB tab ext wr n ops listed j S o with
        | some S' => seqS tab ext wr n ops (j + 1) (listed.setIfInBounds j true) r S'
        | none => none

theorem seqS_cs {tab : List TI} {ext : Ext} {wr : Bool} {ops : Array Oper} {S' : St} : ∀ {l : List Oper} {j : Nat} {listed : Array Bool} {S : St}, seqS tab ext wr n ops j listed l S = some S' → All S'.cs → All S.cs
  | [], j, listed, S, h, hc => by cases h; exact hc
  | o :: r, j, listed, S, h, hc => by
    simp only [seqS] at h
    split at h
    · split at h
      · rename_i h1; exact stepO_cs h1 (seqS_cs h hc)
      · cases h
    · split at h
      · rename_i h1; exact stepO_cs h1 (seqS_cs h hc)
      · split at h
        · rename_i h1; exact stepB_cs h1 (seqS_cs h hc)
        · cases h

theorem pairsB_spec {ops : Array Oper} {y : Oper} {j : Nat} : ∀ {l : List Oper} {k : Nat}, pairsB (opI ops y) j k (l.map (opI ops)) = true → ∀ (i : Nat) (x : Oper), l[i]? = some x → k + i < j →
    (∃ e ∈ y.after, Region.binds .any e = true ∧ e.on = k + i) ∨ x.apart ops y = true
  | [], k, _, i, x, hx, _ => by simp at hx
  | z :: r, k, h, i, x, hx, hi => by
    simp only [List.map_cons, pairsB] at h
    have hkj : Nat.beq k j = false := nbeq_false (by omega)
    rw [hkj] at h
    simp only at h
    have rest : pairsB (opI ops y) j (k + 1) (r.map (opI ops)) = true → ∀ i', i = i' + 1 → (∃ e ∈ y.after, Region.binds .any e = true ∧ e.on = k + i) ∨ x.apart ops y = true := by
      rintro h i' rfl
      have := pairsB_spec h i' x (by simpa using hx) (by omega)
      rw [show k + (i' + 1) = k + 1 + i' by omega]
      exact this
    split at h
    · rename_i hb
      cases i with
      | zero =>
        left
        have hb2 : (bitsL (preL y)).testBit k = true := by
          cases ht : (bitsL (preL y)).testBit k with
          | true => rfl
          | false =>
            exfalso
            have h0 : Nat.beq (Nat.land (bitsL (preL y)) (Nat.shiftLeft 1 k)) 0 = true := by
              have : (bitsL (preL y)) &&& (1 <<< k) = 0 := by
                apply Nat.eq_of_testBit_eq
                intro m
                rw [Nat.testBit_and, one_shl_bit]
                by_cases hm : k = m
                · subst hm; simp [ht]
                · simp [hm]
              have h1 : Nat.land (bitsL (preL y)) (Nat.shiftLeft 1 k) = 0 := this
              rw [h1]; rfl
            have h2 : Nat.beq (Nat.land (opI ops y).pre (Nat.shiftLeft 1 k)) 0 = true := h0
            rw [h2] at hb
            cases hb
        rw [bitsL_mem] at hb2
        have := of_decide_eq_true hb2
        obtain ⟨e, he, rfl⟩ := List.mem_map.1 this
        obtain ⟨he, hbe⟩ := List.mem_filter.1 he
        exact ⟨e, by simpa using he, hbe, by simp⟩
      | succ i' => exact rest h i' rfl
    · simp only [Bool.and_eq_true] at h
      obtain ⟨h1, h2, h3⟩ := h
      cases i with
      | zero =>
        right
        simp at hx
        subst hx
        have land0 : ∀ {a b d : Nat}, Nat.beq (Nat.land a b) 0 = true → b.testBit d = true → a.testBit d = false := by
          intro a b d h hb
          have h := Nat.eq_of_beq_eq_true h
          have h' : a &&& b = 0 := h
          have h3 : (a &&& b).testBit d = false := by rw [h']; simp
          rw [Nat.testBit_and, hb] at h3
          simpa using h3
        have hdst : ∀ (o : Oper) d, o.dst = some d → (opI ops o).dst.testBit d = true := by
          intro o d hd
          show (bitsL (dstL o)).testBit d = true
          rw [bitsL_mem]
          simp [dstL, hd]
        unfold Oper.apart
        rw [Bool.and_eq_true]
        constructor
        · split
          · rename_i d hd
            have h4 := land0 h1 (hdst _ d hd)
            have h4' : ((bitsL (y.looksAt ops)) ||| (bitsL (dstL y))).testBit d = false := h4
            rw [Nat.testBit_or, bitsL_mem, bitsL_mem, Bool.or_eq_false_iff] at h4'
            obtain ⟨g1, g2⟩ := h4'
            have g1 := of_decide_eq_false g1
            have g2 := of_decide_eq_false g2
            rw [Bool.and_eq_true]
            refine ⟨by simpa using g1, ?_⟩
            simp only [bne_iff_ne, ne_eq]
            intro hy
            exact g2 (by simp [dstL, hy])
          · rfl
        · split
          · rename_i d hd
            have h4 := land0 h2 (hdst _ d hd)
            have h4' : (bitsL (z.looksAt ops)).testBit d = false := h4
            rw [bitsL_mem] at h4'
            have g1 := of_decide_eq_false h4'
            simpa using g1
          · rfl
      | succ i' => exact rest h3 i' rfl

def FirstJ (ops : Array Oper) (listed : Array Bool) (j : Nat) : Prop := listed.size = ops.size ∧ ∀ k, k < ops.size → listed.getD k true = decide (k < j)

theorem FirstJ.false {ops : Array Oper} {listed : Array Bool} {j : Nat} (h : FirstJ ops listed j) {k : Nat} : listed.getD k false = decide (k < j ∧ k < ops.size) := by
  by_cases hk : k < ops.size
  · have := h.2 k hk
    rw [Array.getD_eq_getD_getElem?] at this ⊢
    rw [Array.getElem?_eq_getElem (by rw [h.1]; exact hk)] at this ⊢
    simp only [Option.getD_some] at this ⊢
    rw [this]
    simp [hk]
  · rw [Array.getD_eq_getD_getElem?, Array.getElem?_eq_none (by rw [h.1]; omega)]
    simp [hk]

theorem FirstJ.set {ops : Array Oper} {listed : Array Bool} {j : Nat} (h : FirstJ ops listed j) : FirstJ ops (listed.setIfInBounds j true) (j + 1) := by
  refine ⟨by simpa using h.1, fun k hk => ?_⟩
  by_cases hkj : j = k
  · subst hkj
    rw [Array.getD_eq_getD_getElem?, Array.getElem?_setIfInBounds_self_of_lt (by rw [h.1]; exact hk)]
    simp
  · rw [getD_set_ne true hkj, h.2 k hk]
    simp only [decide_eq_decide]
    omega

theorem pre_lt {ops : Array Oper} {o : Oper} {j : Nat} (h : Nat.beq (Nat.shiftRight (opI ops o).pre j) 0 = true) : ∀ e ∈ o.after, Region.binds .any e = true → e.on < j := by
  intro e he hb
  rcases Nat.lt_or_ge e.on j with h1 | h1
  · exact h1
  · exfalso
    have h := Nat.eq_of_beq_eq_true h
    have h' : (bitsL (preL o)) >>> j = 0 := h
    have h2 : ((bitsL (preL o)) >>> j).testBit (e.on - j) = true := by
      rw [Nat.testBit_shiftRight, bitsL_mem, show j + (e.on - j) = e.on by omega]
      refine decide_eq_true (List.mem_map.2 ⟨e, List.mem_filter.2 ⟨by simpa using he, hb⟩, rfl⟩)
    rw [h'] at h2
    simp at h2

theorem pre_ge {ops : Array Oper} {o : Oper} {j : Nat} (h : Nat.beq (Nat.shiftRight (opI ops o).pre j) 0 = false) : ∃ e ∈ o.after, Region.binds .any e = true ∧ j ≤ e.on := by
  apply Classical.byContradiction
  intro hn
  have h' : (bitsL (preL o)) >>> j = 0 := by
    apply Nat.eq_of_testBit_eq
    intro m
    rw [Nat.testBit_shiftRight, bitsL_mem, Nat.zero_testBit]
    refine decide_eq_false fun hm => hn ?_
    obtain ⟨e, he, h1⟩ := List.mem_map.1 hm
    obtain ⟨he, hb⟩ := List.mem_filter.1 he
    exact ⟨e, by simpa using he, hb, by omega⟩
  have h2 : Nat.shiftRight (opI ops o).pre j = 0 := h'
  rw [h2] at h
  cases h

theorem onlyB_spec {ops : Array Oper} {j : Nat} : ∀ (l : List Oper), onlyB j (l.map (opI ops)) = true → ∀ x ∈ l, ∃ e ∈ x.after, Region.binds .any e = true ∧ j ≤ e.on := by
  intro l
  induction l with
  | nil => intro _ x hx; cases hx
  | cons x r ih =>
    intro h y hy
    rw [List.map_cons, onlyB, Bool.and_eq_true, Bool.not_eq_true'] at h
    rcases List.mem_cons.1 hy with rfl | hy
    · exact pre_ge h.1
    · exact ih h.2 y hy

theorem seqB_tail {all : List OpI} : ∀ {l : List OpI} {j : Nat}, seqB all j l = true → ∀ i y, l[i]? = some y → Nat.beq (Nat.shiftRight y.pre (j + i)) 0 = true ∧ pairsB y (j + i) 0 all = true
  | x :: r, j, h, i, y, hy => by
    simp only [seqB, Bool.and_eq_true] at h
    obtain ⟨h1, h2, _, h4⟩ := h
    cases i with
    | zero => simp at hy; subst hy; exact ⟨h1, h2⟩
    | succ i =>
      have := seqB_tail h4 i y (by simpa using hy)
      rw [show j + (i + 1) = j + 1 + i by omega]
      exact this

theorem seqS_spec {tab : List TI} {ext : Ext} (hT : TabOk P tab) (hX : ExtOk P ext) {wr : Bool} {ops : Array Oper} {Q : Exit → Act → World → Prop} (hs : Region.noSelect ops = true) (hQ : ∀ c a w, ¬ Q (.panic c) a w) {S' : St}
    (hc : All S'.cs) (hK : ∀ a' w0' G' w' V' own', RelV n K w0' G' w' a' S'.E S'.L V' own' → DecOk q a' S' → Q .normal a' w')
    (hall : seqB (ops.toList.map (opI ops)) 0 (ops.toList.map (opI ops)) = true) : ∀ {l : List Oper} {w0 : World} {G : Nat → Prop} {j : Nat} {listed : Array Bool} {S : St} {a : Act} {w : World} {V : Nat → Value} {own : Nat → List Nat},
    RelV n K w0 G w a S.E S.L V own → DecOk q a S → Down ops listed → FirstJ ops listed j → ops.toList.drop j = l → seqB (ops.toList.map (opI ops)) j (l.map (opI ops)) = true → seqS tab ext wr n ops j listed l S = some S' → wpAnyK P ops Q l.length listed a w
  | [], w0, G, j, listed, S, a, w, V, own, hR, hd, hD, hF, hl, _, h => by
    cases h
    have hge : ops.size ≤ j := by
      have := congrArg List.length hl
      simp at this
      omega
    refine fun w1 k => ⟨?_, hK _ _ _ _ _ _ (hR.ext k) hd⟩
    apply List.eq_nil_iff_forall_not_mem.2
    intro i hi
    obtain ⟨h1, o, ho, _⟩ := mem_ready.1 hi
    have hlt := (Array.getElem?_eq_some_iff.1 ho).1
    rw [hF.2 i hlt] at h1
    have := of_decide_eq_false h1
    omega
  | o :: r, w0, G, j, listed, S, a, w, V, own, hR, hd, hD, hF, hl, hB, h => by
    have hlen := congrArg List.length hl
    simp only [List.length_drop, Array.length_toList, List.length_cons] at hlen
    have hj : j < ops.size := by omega
    have ho : ops[j]? = some o := by
      have := congrArg (fun l => l[0]?) hl
      simpa using this
    have hr : ops.toList.drop (j + 1) = r := by
      have := congrArg List.tail hl
      simpa using this
    simp only [List.map_cons, seqB, Bool.and_eq_true] at hB
    obtain ⟨b1, b2, b3, b4⟩ := hB
    have hready : j ∈ Region.ready .any ops listed := by
      refine mem_ready.2 ⟨by rw [hF.2 j hj]; simp, o, ho, fun e he hb => ?_⟩
      have := pre_lt b1 e he hb
      rw [hF.false]
      exact decide_eq_true ⟨this, by omega⟩
    have hfree : ∀ i oi, ops[i]? = some oi → i ≠ j → listed.getD i true = false → (∀ e ∈ oi.after, Region.binds .any e = true → e.on ≠ j) → o.apart ops oi = true := by
      intro i oi hi hij hun hno
      have hlt := (Array.getElem?_eq_some_iff.1 hi).1
      rw [hF.2 i hlt] at hun
      have hge := of_decide_eq_false hun
      have hy : (ops.toList.map (opI ops))[i]? = some (opI ops oi) := by simp [hi]
      obtain ⟨_, hp⟩ := seqB_tail hall i _ hy
      rw [Nat.zero_add] at hp
      rcases pairsB_spec hp j o (by simpa using ho) (by omega) with ⟨e, he, hb, he2⟩ | hap
      · exact absurd (by rw [he2]; simp) (hno e he hb)
      · exact hap
    have quiet : ∀ {S2 : St}, stepO tab ext wr n true ops.toList S o = some S2 → seqS tab ext wr n ops (j + 1) (listed.setIfInBounds j true) r S2 = some S' → wpAnyK P ops Q (o :: r).length listed a w := by
      intro S2 hst h
      obtain ⟨v, hy, g1, g2⟩ := stepO_quiet hT hX hR hd hst (seqS_cs h hc)
      exact wpAnyK_first ho (Region.noSelect_spec hs) hQ r.length listed a w hD hfree hready hy (seqS_spec hT hX hs hQ hc hK hall g1 g2 (hD.set hready) hF.set hr b4 h)
    simp only [seqS] at h
    split at h
    · split at h
      · rename_i S2 hst; exact quiet hst h
      · cases h
    · rename_i hloud
      split at h
      · rename_i S2 hst; exact quiet hst h
      · split at h
        · rename_i S2 hB
          have hlo : (opI ops o).loud = true := hloud
          rw [hlo] at b3
          simp only at b3
          have hc2 : All S2.cs := seqS_cs h hc
          refine fun w1 k => ⟨fun h0 => by (rw [h0] at hready; cases hready), fun i hi => ?_⟩
          have hji : i = j := by
            obtain ⟨h1, oi, hoi, hai⟩ := mem_ready.1 hi
            have hlt := (Array.getElem?_eq_some_iff.1 hoi).1
            rw [hF.2 i hlt] at h1
            have hge := of_decide_eq_false h1
            apply Classical.byContradiction
            intro hne
            have hmem : oi ∈ r := by
              rw [← hr]
              refine List.mem_of_getElem? (i := i - (j + 1)) ?_
              rw [List.getElem?_drop, show j + 1 + (i - (j + 1)) = i by omega]
              simpa using hoi
            obtain ⟨e, he, hb, hle⟩ := onlyB_spec _ b3 oi hmem
            have := hai e he hb
            rw [hF.false] at this
            have := (of_decide_eq_true this).1
            omega
          subst hji
          have hR1 : RelV n K w0 G w1 a S.E S.L V own := hR.ext k
          unfold wpOp
          simp only [ho]
          have := stepB_wp (Kt := fun a' w' => (barB ops listed i = true ∨ Kept [] w1 w') ∧ wpAnyK P ops Q r.length (listed.setIfInBounds i true) a' w') (Q := Q) hT hX hR1 hd hB hc2 (fun a' w0' G' w' V' own' hb hR' hd' => ⟨hb, seqS_spec hT hX hs hQ hc hK hall hR' hd' (hD.set hready) hF.set hr b4 h⟩)
          split
          · rename_i hw; rw [if_pos hw] at this; exact .inl this
          · rename_i hw; rw [if_neg hw] at this; exact this
        · cases h

def regionS (tab : List TI) (ext : Ext) (wr : Bool) (n : Nat) (ops : Array Oper) (draw : Bool) (S : St) : Option St :=
  match draw with
  | false => stepsO tab ext wr n false ops.toList ops.toList S
  | true => match Region.noSelect ops with
    | true => match seqOk ops with
      | true => seqS tab ext wr n ops 0 (Array.replicate ops.size false) ops.toList S
      | false => schedS tab ext wr n ops ops.size (Array.replicate ops.size false) S
    | false => none

theorem regionS_cs {tab : List TI} {ext : Ext} {wr : Bool} {ops : Array Oper} {draw : Bool} {S S' : St} (h : regionS tab ext wr n ops draw S = some S') (hc : All S'.cs) : All S.cs := by
  unfold regionS at h
  split at h
  · exact stepsO_cs h hc
  · split at h
    · split at h
      · exact seqS_cs h hc
      · exact schedS_cs h hc
    · cases h

theorem regionS_wp {tab : List TI} {ext : Ext} (hT : TabOk P tab) (hX : ExtOk P ext) (hm : P.follows .mixedOrders = true) {wr : Bool} {id : Nat} {ops : Array Oper} {draw : Bool} {Q : Exit → Act → World → Prop} (hQ : ∀ c a w, ¬ Q (.panic c) a w) {S S' : St}
    (hR : RelV n K w0 G w a S.E S.L V own) (hd : DecOk q a S)
    (h : regionS tab ext wr n ops draw S = some S') (hc : All S'.cs) (hK : ∀ a' w0' G' w' V' own', RelV n K w0' G' w' a' S'.E S'.L V' own' → DecOk q a' S' → Q .normal a' w') : (Code.region id ops draw).wp P Q a w := by
  unfold regionS at h
  split at h
  · exact wp_region_list (stepsO_wp hT hX hR hd h hc hK)
  · split at h
    · rename_i hs
      refine wp_region_any hm (wpAny_of_K _ _ _ _ ?_)
      split at h
      · rename_i hok
        have := seqS_spec hT hX hs hQ hc hK hok (hR.ext (Kept.refl _ _).drew) hd (Down.start ops ops.size) ⟨by simp, fun k hk => by rw [Array.getD_eq_getD_getElem?]; simp [hk]⟩ (by simp) hok h
        simpa using this
      · exact schedS_spec hT hX hs hQ hc hK (hR.ext (Kept.refl _ _).drew) hd (Down.start ops _) h
    · cases h
end
end Go.Am

/- The abstract machine, part 20: runs between cut points. -/
namespace Go.Am
set_option linter.unusedVariables false
set_option linter.unusedSimpArgs false

def RunK (P : Program) (f : FuncId) (R : Ending → World → Prop) (k : List Item) (a : Act) (w : World) : Prop :=
  ∀ (b : Frame) cs, b.fn = f → b.kind = .normal → ∃ e w' fr, R e w' ∧ Comes P (lone (b.at a k) cs w) (lone fr cs w') e ∧ fr.fn = f ∧ fr.leaving P w' e

section
variable {P : Program} {f : FuncId} {R : Ending → World → Prop} {k k' : List Item} {a a' : Act} {w w' : World}

theorem RunK.step (h : ∀ (b : Frame) cs, step P (lone (b.at a k) cs w) = .next (lone (b.at a' k') cs w')) (hr : RunK P f R k' a' w') : RunK P f R k a w := fun b cs hb hk => by
  obtain ⟨e, w2, fr, h1, h2, h3, h4⟩ := hr b cs hb hk
  exact ⟨e, w2, fr, h1, Comes.of_steps (.one (h b cs)) h2, h3, h4⟩

theorem RunK.of_wp {c : Code} (h : c.wp P (fun e a' w' => e = .normal ∧ RunK P f R k a' w') a w) : RunK P f R (.code c :: k) a w := fun b cs hb hk => by
  obtain ⟨e, a', w', ⟨rfl, hr⟩, harr⟩ := h b k cs
  obtain ⟨e, w2, fr, h1, h2, h3, h4⟩ := hr b cs hb hk
  exact ⟨e, w2, fr, h1, Comes.of_steps harr h2, h3, h4⟩

def FinK (P : Program) (f : FuncId) (R : Ending → World → Prop) (a : Act) (w : World) : Prop :=
  a.defers = [] ∧ ∃ fn v, P.funcs[f]? = some fn ∧ (results fn a.tmps).run P w = .ok v w ∧ R (.returned v) w

theorem RunK.nil (h : FinK P f R a w) : RunK P f R [] a w := fun b cs hb hk => by
  obtain ⟨hd, fn, v, hf, hr, hR⟩ := h
  exact ⟨.returned v, w, _, hR, Steps.one step_end, hb, rfl, hd, hk, fn, by rw [show (b.at a []).fn = f from hb]; exact hf, hr⟩

theorem RunK.ret (h : FinK P f R a w) : RunK P f R (.code .ret :: k) a w := fun b cs hb hk => by
  obtain ⟨hd, fn, v, hf, hr, hR⟩ := h
  exact ⟨.returned v, w, _, hR, Steps.one step_ret, hb, rfl, hd, hk, fn, by rw [show (b.at a (.code .ret :: k)).fn = f from hb]; exact hf, hr⟩

theorem calls_of_run {fn : Func} {c : Code} {args : Array Value} (hf : P.funcs[f]? = some fn) (hb : fn.body = some c)
    (h : RunK P f R [.code c] { tmps := args ++ Array.replicate (fn.ntmps - args.size) undef, defers := [] } w) : Calls P f args w R := by
  intro cs
  let b : Frame := { (default : Frame) with fn := f, kind := .normal }
  have henter : Frame.enter P f args .normal =
      b.at { tmps := args ++ Array.replicate (fn.ntmps - args.size) undef, defers := [] } [.code c] := by
    simp [Frame.enter, Frame.at, hf, hb, b]
  rw [henter]
  exact h b cs rfl rfl
end


inductive OutS where
  | stop (k : List Item) (S : St)
  | fin (S : St)

def OutS.st : OutS → St
  | .stop _ S => S
  | .fin S => S

def decideO (S : St) : Operand → Option (Bool × St)
  | .tmp t => decideS S t
  | .const (.bool b) => some (b, S)
  | _ => none

def runA (tab : List TI) (ext : Ext) (wr : Bool) (n : Nat) (stops : List Nat) : Nat → Bool → List Item → St → Option OutS
  | 0, _, _, _ => none
  | _ + 1, _, [], S => some (.fin S)
  | m + 1, first, .inBlock _ :: k, S => runA tab ext wr n stops m first k S
  | m + 1, first, .inLoop c :: k, S => some (.stop (.code c :: .inLoop c :: k) S)
  | m + 1, first, .code c :: k, S => match c with
    | .skip => runA tab ext wr n stops m first k S
    | .label _ => runA tab ext wr n stops m first k S
    | .seq x y => runA tab ext wr n stops m first (.code x :: .code y :: k) S
    | .block id c => runA tab ext wr n stops m first (.code c :: .inBlock id :: k) S
    | .loop c => some (.stop (.code c :: .inLoop c :: k) S)
    | .exit id => match exitTo id k with
      | some k' => runA tab ext wr n stops m first k' S
      | none => none
    | .ret => some (.fin S)
    | .cond c x y => match decideO S c with
      | some (d, S') => runA tab ext wr n stops m false (.code (cond d x y) :: k) S'
      | none => none
    | .region id ops draw => match !first && memB id stops with
      | true => some (.stop (.code (.region id ops draw) :: k) S)
      | false => match regionS tab ext wr n ops draw S with
        | some S' => runA tab ext wr n stops m false k S'
        | none => none
    | _ => none
  | _ + 1, _, _, _ => none

section
variable {P : Program} {n : Nat} {q : Nat → Value} {K : Ctx} {G : Nat → Prop} {w0 w : World} {a : Act} {V : Nat → Value} {own : Nat → List Nat} {f : FuncId} {R : Ending → World → Prop}

def AtV (P : Program) (f : FuncId) (R : Ending → World → Prop) (n : Nat) (K : Ctx) (q : Nat → Value) (ps : List Nat) (k : List Item) (E : Env) (L : Heap) : Prop :=
  ∀ a w w0 G V own, RelV n K w0 G w a E L V own → (∀ t ∈ ps, a.tmps.getD t undef = q t) → RunK P f R k a w

def FinV (P : Program) (f : FuncId) (R : Ending → World → Prop) (n : Nat) (K : Ctx) (q : Nat → Value) (ps : List Nat) (E : Env) (L : Heap) : Prop :=
  ∀ a w w0 G V own, RelV n K w0 G w a E L V own → (∀ t ∈ ps, a.tmps.getD t undef = q t) → FinK P f R a w

def OutOk (P : Program) (f : FuncId) (R : Ending → World → Prop) (n : Nat) (K : Ctx) (q : Nat → Value) : OutS → Prop
  | .stop k S => AtV P f R n K q S.pins k S.E S.L
  | .fin S => FinV P f R n K q S.pins S.E S.L

theorem decideO_spec {S S' : St} {x : Operand} {d : Bool} (hR : RelV n K w0 G w a S.E S.L V own) (hd : DecOk q a S) (h : decideO S x = some (d, S')) (hc : All S'.cs) :
    a.eval x = .bool d ∧ S'.E = S.E ∧ S'.L = S.L ∧ DecOk q a S' ∧ All S.cs := by
  unfold decideO at h
  split at h
  · exact decideS_spec hR hd h hc
  · cases h; exact ⟨rfl, rfl, rfl, hd, hc⟩
  · cases h

theorem decideO_cs {S S' : St} {x : Operand} {d : Bool} (h : decideO S x = some (d, S')) (hc : All S'.cs) : All S.cs := by
  unfold decideO at h
  split at h
  · exact decideS_cs h hc
  · cases h; exact hc
  · cases h

theorem runA_cs {tab : List TI} {ext : Ext} {wr : Bool} {stops : List Nat} : ∀ {m : Nat} {first : Bool} {k : List Item} {S : St} {out : OutS}, runA tab ext wr n stops m first k S = some out → All out.st.cs → All S.cs := by
  intro m
  induction m with
  | zero => intro first k S out h; cases h
  | succ m ih =>
    intro first k S out h hc
    match k, h with
    | [], h => cases h; exact hc
    | .inBlock _ :: k, h => simp only [runA] at h; exact ih h hc
    | .inLoop c :: k, h => cases h; exact hc
    | .code c :: k, h =>
      cases c with
      | skip => simp only [runA] at h; exact ih h hc
      | label _ => simp only [runA] at h; exact ih h hc
      | seq x y => simp only [runA] at h; exact ih h hc
      | block id c => simp only [runA] at h; exact ih h hc
      | loop c => cases h; exact hc
      | exit id =>
        simp only [runA] at h
        split at h
        · exact ih h hc
        · cases h
      | ret => cases h; exact hc
      | cond c x y =>
        simp only [runA] at h
        split at h
        · rename_i hd; exact decideO_cs hd (ih h hc)
        · cases h
      | region id ops draw =>
        simp only [runA] at h
        split at h
        · cases h; exact hc
        · split at h
          · rename_i hr; exact regionS_cs hr (ih h hc)
          · cases h
      | _ => cases h

theorem runA_run {tab : List TI} {ext : Ext} (hT : TabOk P tab) (hX : ExtOk P ext) (hm : P.follows .mixedOrders = true) {wr : Bool} {stops : List Nat} : ∀ {w0 : World} {G : Nat → Prop} {m : Nat} {first : Bool} {k : List Item} {S : St} {out : OutS} {a : Act} {w : World} {V : Nat → Value} {own : Nat → List Nat},
    runA tab ext wr n stops m first k S = some out → All out.st.cs → RelV n K w0 G w a S.E S.L V own → DecOk q a S → OutOk P f R n K q out → RunK P f R k a w := by
  intro w0 G m
  induction m generalizing w0 G with
  | zero => intro first k S out a w V own h; cases h
  | succ m ih =>
    intro first k S out a w V own h hc hR hd ho
    match k, h with
    | [], h => cases h; exact RunK.nil (ho _ _ _ _ _ _ hR hd.2)
    | .inBlock _ :: k, h => simp only [runA] at h; exact RunK.step (fun b cs => step_inBlock) (ih h hc hR hd ho)
    | .inLoop c :: k, h => cases h; exact RunK.step (fun b cs => step_inLoop) (ho _ _ _ _ _ _ hR hd.2)
    | .code c :: k, h =>
      cases c with
      | skip => simp only [runA] at h; exact RunK.step (fun b cs => step_skip) (ih h hc hR hd ho)
      | label _ => simp only [runA] at h; exact RunK.step (fun b cs => step_label) (ih h hc hR hd ho)
      | seq x y => simp only [runA] at h; exact RunK.step (fun b cs => step_seq) (ih h hc hR hd ho)
      | block id c => simp only [runA] at h; exact RunK.step (fun b cs => step_block) (ih h hc hR hd ho)
      | loop c => cases h; exact RunK.step (fun b cs => step_loop) (ho _ _ _ _ _ _ hR hd.2)
      | exit id =>
        simp only [runA] at h
        split at h
        · rename_i k' he; exact RunK.step (fun b cs => step_exit he) (ih h hc hR hd ho)
        · cases h
      | ret => cases h; exact RunK.ret (ho _ _ _ _ _ _ hR hd.2)
      | cond c x y =>
        simp only [runA] at h
        split at h
        · rename_i d S' hdec
          obtain ⟨h1, h2, h3, h4, h5⟩ := decideO_spec hR hd hdec (runA_cs h hc)
          refine RunK.step (fun b cs => step_cond h1) ?_
          have := ih h hc (by rw [h2, h3]; exact hR) h4 ho
          cases d <;> exact this
        · cases h
      | region id ops draw =>
        simp only [runA] at h
        split at h
        · cases h; exact ho _ _ _ _ _ _ hR hd.2
        · split at h
          · rename_i S' hr
            refine RunK.of_wp (regionS_wp hT hX hm (fun c a w hh => by cases hh.1) hR hd hr (runA_cs h hc) fun a' w0' G' w' V' own' hR' hd' => ⟨rfl, ih h hc hR' hd' ho⟩)
          · cases h
      | _ => cases h
end


def keepE (E : Env) : List Nat → Env
  | [] => []
  | i :: r => (i, E.get i) :: keepE E r

theorem get_keepE (E : Env) : ∀ (ks : List Nat) (i : Nat), (keepE E ks).get i = if memB i ks = true then E.get i else .a .junk
  | [], i => rfl
  | j :: r, i => by
    simp only [keepE, Env.get, memB]
    cases h : Nat.beq j i with
    | true =>
      obtain rfl := Nat.eq_of_beq_eq_true h
      simp
    | false =>
      have : Nat.beq i j = false := nbeq_false (fun e => by subst e; simp at h)
      simp [this, get_keepE E r i]

section
variable {P : Program} {n : Nat} {q : Nat → Value} {K : Ctx} {G : Nat → Prop} {w0 w : World} {a : Act} {V : Nat → Value} {own : Nat → List Nat} {f : FuncId} {R : Ending → World → Prop} {E : Env} {L : Heap}

theorem RelV.keepE (hR : RelV n K w0 G w a E L V own) (ks : List Nat) : RelV n K w0 G w a (Am.keepE E ks) L V own :=
  ⟨hR.glob, hR.kept, hR.size, hR.defers, hR.glt, hR.gref, hR.gsub, hR.gold, hR.gup, hR.heap, hR.good, hR.nodup, hR.apart, hR.boxs, hR.small, fun i => by
    rw [get_keepE]
    split
    · exact hR.env i
    · trivial⟩


def idxN (r : Nat) : List Nat → Nat
  | [] => 0
  | x :: l => cond (Nat.beq x r) 0 (idxN r l + 1)

def getN : List Nat → Nat → Nat
  | [], _ => 0
  | x :: _, 0 => x
  | _ :: l, n + 1 => getN l n

def renF (rs : List Nat) : Leaf → Leaf
  | .osl r rg => .osl (idxN r rs) rg
  | l => l

def renA (rs : List Nat) : Atom → Atom
  | .osl r rg => .osl (idxN r rs) rg
  | .optr r i p => .optr (idxN r rs) i p
  | .rcd t ls => .rcd t (ls.map (renF rs))
  | .bptr r o t => .bptr (idxN r rs) o t
  | A => A

def renR (rs : List Nat) (A : Arr) : Arr := match A.ls with
  | some ls => ⟨A.t, A.xs, A.bor, some (ls.map (renF rs)), A.sm⟩
  | none => A

def renP (rs : List Nat) : PV → PV
  | .a A => .a (renA rs A)
  | .tup xs => .tup (xs.map (renA rs))
  | .fn f xs => .fn f (xs.map (renA rs))

def renE (rs : List Nat) (E : Env) : Env := E.map fun q => (q.1, renP rs q.2)

def pickL (rs : List Nat) (L : Heap) : Heap := rs.map fun r => match hget L r with | some A => some (renR rs A) | none => none

def inAll (rs : List Nat) : List Nat → Bool
  | [] => true
  | r :: s => memB r rs && inAll rs s

def envIn (rs : List Nat) : Env → Bool
  | [] => true
  | (_, p) :: r => inAll rs (refsP p) && envIn rs r

def heapIn (rs : List Nat) (L : Heap) : List Nat → Bool
  | [] => true
  | r :: s => (match hget L r with
    | some A => match A.ls with
      | some ls => inAll rs (refLs ls)
      | none => true
    | none => true) && heapIn rs L s

theorem hget_pickL_aux (rs0 : List Nat) : ∀ (rs : List Nat) (L : Heap) (s : Nat) {A : Arr}, hget (rs.map fun r => match hget L r with | some A => some (renR rs0 A) | none => none) s = some A → s < rs.length ∧ ∃ B, hget L (getN rs s) = some B ∧ A = renR rs0 B
  | [], L, s, A, h => by cases s <;> cases h
  | r :: rs, L, 0, A, h => by
    simp only [List.map_cons, hget] at h
    cases hB : hget L r with
    | none => rw [hB] at h; cases h
    | some B => rw [hB] at h; cases h; exact ⟨by simp, B, hB, rfl⟩
  | r :: rs, L, s + 1, A, h => by
    obtain ⟨h1, h2⟩ := hget_pickL_aux rs0 rs L s h
    exact ⟨by simp; omega, h2⟩

theorem hget_pickL (rs : List Nat) (L : Heap) (s : Nat) {A : Arr} (h : hget (pickL rs L) s = some A) : s < rs.length ∧ ∃ B, hget L (getN rs s) = some B ∧ A = renR rs B := hget_pickL_aux rs rs L s h

theorem pick_idx_aux (rs0 : List Nat) : ∀ (rs : List Nat) (L : Heap) (r : Nat), memB r rs = true → hget (rs.map fun r => match hget L r with | some A => some (renR rs0 A) | none => none) (idxN r rs) = (hget L r).map (renR rs0) ∧ getN rs (idxN r rs) = r
  | [], L, r, h => by cases h
  | x :: rs, L, r, h => by
    simp only [memB, Bool.or_eq_true] at h
    simp only [idxN]
    cases hb : Nat.beq x r with
    | true =>
      obtain rfl := Nat.eq_of_beq_eq_true hb
      refine ⟨?_, rfl⟩
      simp only [List.map_cons, cond_true, hget]
      cases hget L x <;> rfl
    | false =>
      have : memB r rs = true := by
        rcases h with h | h
        · have := Nat.eq_of_beq_eq_true h
          subst this
          simp at hb
        · exact h
      exact pick_idx_aux rs0 rs L r this

theorem pick_idx (rs : List Nat) (L : Heap) (r : Nat) (h : memB r rs = true) : hget (pickL rs L) (idxN r rs) = (hget L r).map (renR rs) ∧ getN rs (idxN r rs) = r := pick_idx_aux rs rs L r h

theorem renR_t (rs : List Nat) (A : Arr) : (renR rs A).t = A.t := by unfold renR; split <;> rfl
theorem renR_sm (rs : List Nat) (A : Arr) : (renR rs A).sm = A.sm := by unfold renR; split <;> rfl
theorem renR_bor (rs : List Nat) (A : Arr) : (renR rs A).bor = A.bor := by unfold renR; split <;> rfl
theorem renR_len (rs : List Nat) (A : Arr) : (renR rs A).xs.length = A.xs.length := by unfold renR; split <;> rfl
theorem renR_ent {w0 w : World} {G : Nat → Prop} {rs : List Nat} {A : Arr} {v : Value} {bs : List Nat} : EntC w0 G w (renR rs A) v bs ↔ EntC w0 G w A v bs := by
  unfold renR
  split
  · exact Iff.rfl
  · exact Iff.rfl
theorem renR_ls {rs : List Nat} {A : Arr} : (∀ ls, A.ls = some ls → (renR rs A).ls = some (ls.map (renF rs))) ∧ ∀ ls', (renR rs A).ls = some ls' → ∃ ls, A.ls = some ls ∧ ls' = ls.map (renF rs) := by
  unfold renR
  split
  · rename_i ls h
    refine ⟨fun l hl => ?_, fun l hl => ?_⟩
    · rw [h] at hl; cases hl; rfl
    · cases hl; exact ⟨ls, h, rfl⟩
  · rename_i h
    refine ⟨fun l hl => ?_, fun l hl => ?_⟩
    · rw [h] at hl; cases hl
    · rw [h] at hl; cases hl

theorem heapIn_spec {rs : List Nat} {L : Heap} : ∀ {l : List Nat}, heapIn rs L l = true → ∀ r ∈ l, ∀ A ls, hget L r = some A → A.ls = some ls → inAll rs (refLs ls) = true
  | [], _, r, hr, _, _, _, _ => by cases hr
  | x :: l, h, r, hr, A, ls, hA, hls => by
    simp only [heapIn, Bool.and_eq_true] at h
    rcases List.mem_cons.1 hr with rfl | hr
    · have := h.1
      rw [hA] at this
      simp only [hls] at this
      exact this
    · exact heapIn_spec h.2 r hr A ls hA hls

theorem getN_mem : ∀ (rs : List Nat) (s : Nat), s < rs.length → getN rs s ∈ rs
  | [], s, h => by simp at h
  | x :: rs, 0, _ => by simp [getN]
  | x :: rs, s + 1, h => List.mem_cons_of_mem _ (getN_mem rs s (by simpa using h))

theorem getN_inj : ∀ (rs : List Nat), nodupB rs = true → ∀ s u, s < rs.length → u < rs.length → getN rs s = getN rs u → s = u
  | [], _, s, u, h, _, _ => by simp at h
  | x :: rs, hn, s, u, h1, h2, he => by
    simp only [nodupB, Bool.and_eq_true, Bool.not_eq_true'] at hn
    have hx : ∀ s, s < rs.length → getN rs s ≠ x := fun s hs e => by
      have := getN_mem rs s hs
      rw [e] at this
      have := memB_iff.2 this
      rw [hn.1] at this
      cases this
    cases s with
    | zero =>
      cases u with
      | zero => rfl
      | succ u => exact absurd he.symm (hx u (by simpa using h2))
    | succ s =>
      cases u with
      | zero => exact absurd he (hx s (by simpa using h1))
      | succ u => rw [getN_inj rs hn.2 s u (by simpa using h1) (by simpa using h2) he]

theorem inAll_spec {rs : List Nat} : ∀ {l : List Nat}, inAll rs l = true → ∀ r ∈ l, memB r rs = true
  | [], _, r, h => by cases h
  | a :: s, h, r, hr => by
    simp only [inAll, Bool.and_eq_true] at h
    rcases List.mem_cons.1 hr with rfl | hr
    · exact h.1
    · exact inAll_spec h.2 r hr

theorem envIn_spec {rs : List Nat} : ∀ {E : Env}, envIn rs E = true → ∀ i, ∀ r ∈ refsP (E.get i), memB r rs = true
  | [], _, i, r, h => by simp [Env.get, refsP, refA] at h
  | (j, p) :: E, h, i, r, hr => by
    simp only [envIn, Bool.and_eq_true] at h
    simp only [Env.get] at hr
    cases hj : Nat.beq j i with
    | true => rw [hj] at hr; exact inAll_spec h.1 r hr
    | false => rw [hj] at hr; exact envIn_spec h.2 i r hr

theorem get_renE (rs : List Nat) : ∀ (E : Env) (i : Nat), (renE rs E).get i = renP rs (E.get i)
  | [], i => rfl
  | (j, p) :: s, i => by
    simp only [renE, List.map_cons, Env.get]
    cases h : Nat.beq j i with
    | true => rfl
    | false => exact get_renE rs s i

theorem renO_rep {rs : List Nat} {r : Nat} {rg : Option (Nat × Nat)} {v : Value} (h : RepO L V r rg v) (hm : memB r rs = true) : RepO (pickL rs L) (fun s => V (getN rs s)) (idxN r rs) rg v := by
  obtain ⟨B, hB, h1, h2⟩ := h
  obtain ⟨e1, e2⟩ := pick_idx rs L r hm
  refine ⟨renR rs B, by rw [e1, hB]; rfl, fun hr => by show v = V (getN rs (idxN r rs)); rw [e2]; exact h1 hr, ?_⟩
  show SubSl _ _ (V (getN rs (idxN r rs))) _ _ _
  rw [e2, renR_len, renR_t]
  exact h2

theorem renLs_rep {w0 : World} {G : Nat → Prop} {rs : List Nat} : ∀ {ls : List Leaf} {cs : List Value}, RepLs w0 G L V ls cs → (∀ r ∈ refLs ls, memB r rs = true) → RepLs w0 G (pickL rs L) (fun s => V (getN rs s)) (ls.map (renF rs)) cs
  | [], _, h, _ => h
  | l :: ls, _, ⟨v, s, h, h1, h2⟩, hm => by
    refine ⟨v, s, h, ?_, renLs_rep h2 fun r hr => hm r (by simp [refLs, hr])⟩
    cases l with
    | osl r rg => exact renO_rep h1 (hm r (by simp [refLs, refL]))
    | _ => exact h1

theorem renA_rep {w0 : World} {G : Nat → Prop} {rs : List Nat} {A : Atom} {v : Value} (h : RepA w0 G L V A v) (hm : ∀ r ∈ refA A, memB r rs = true) : RepA w0 G (pickL rs L) (fun s => V (getN rs s)) (renA rs A) v := by
  cases A with
  | osl r rg => exact renO_rep h (hm r (by simp [refA]))
  | optr r i p =>
    obtain ⟨B, hB, h2⟩ := h
    obtain ⟨e1, e2⟩ := pick_idx rs L r (hm r (by simp [refA]))
    refine ⟨renR rs B, by rw [e1, hB]; rfl, ?_⟩
    show SubPt _ _ (V (getN rs (idxN r rs))) _ _ _
    rw [e2, renR_len, renR_t]
    exact h2
  | rcd t ls =>
    obtain ⟨cs, h1, h2, h3⟩ := h
    exact ⟨cs, h1, by simpa using h2, renLs_rep h3 hm⟩
  | bptr r o t =>
    obtain ⟨B, ls, b, off, hB, h1, h2, h3, h4⟩ := h
    obtain ⟨e1, e2⟩ := pick_idx rs L r (hm r (by simp [refA]))
    refine ⟨renR rs B, ls.map (renF rs), b, off, by rw [e1, hB]; rfl, renR_ls.1 ls h1, ?_, h3, by rw [renR_t]; exact h4⟩
    show V (getN rs (idxN r rs)) = _
    rw [e2]
    exact h2
  | _ => exact h

theorem renAs_rep {w0 : World} {G : Nat → Prop} {rs : List Nat} : ∀ {ats : List Atom} {vs : List Value}, RepAs w0 G L V ats vs → (∀ r ∈ ats.flatMap refA, memB r rs = true) → RepAs w0 G (pickL rs L) (fun s => V (getN rs s)) (ats.map (renA rs)) vs
  | [], _, h, _ => h
  | A :: s, vs, ⟨v, r, h, h1, h2⟩, ha => ⟨v, r, h, renA_rep h1 (fun r hr => ha r (by simp [hr])), renAs_rep h2 (fun r hr => ha r (by simp only [List.flatMap_cons, List.mem_append]; exact .inr hr))⟩

theorem RelV.renum (hR : RelV n K w0 G w a E L V own) {rs : List Nat} (hn : nodupB rs = true) (h : envIn rs E = true) (hh : heapIn rs L rs = true) : RelV n K w0 G w a (renE rs E) (pickL rs L) (fun s => V (getN rs s)) (fun s => own (getN rs s)) where
  glob := hR.glob
  kept := hR.kept
  size := hR.size
  defers := hR.defers
  glt := hR.glt
  gref := hR.gref
  gsub := hR.gsub
  gold := hR.gold
  gup := hR.gup
  heap := fun r A hr => by
    obtain ⟨_, B, hB, rfl⟩ := hget_pickL rs L r hr
    exact renR_ent.2 (hR.heap _ B hB)
  good := fun r A hr => by
    obtain ⟨_, B, hB, rfl⟩ := hget_pickL rs L r hr
    exact hR.good _ B hB
  nodup := fun r A hr => by
    obtain ⟨_, B, hB, rfl⟩ := hget_pickL rs L r hr
    exact hR.nodup _ B hB
  apart := fun r s A B hr hs hrs => by
    obtain ⟨l1, A', g1, rfl⟩ := hget_pickL rs L r hr
    obtain ⟨l2, B', g2, rfl⟩ := hget_pickL rs L s hs
    exact hR.apart _ _ A' B' g1 g2 fun e => hrs (getN_inj rs hn r s l1 l2 e)
  boxs := fun r A ls hr hls => by
    obtain ⟨l1, B, hB, rfl⟩ := hget_pickL rs L r hr
    obtain ⟨l0, h0, rfl⟩ := renR_ls.2 ls hls
    obtain ⟨b, off, cs, k1, k3, k4, k5, k6⟩ := hR.boxs _ B l0 hB h0
    rw [renR_t]
    exact ⟨b, off, cs, k1, k3, by simpa using k4, k5, renLs_rep k6 fun u hu => inAll_spec (heapIn_spec hh _ (getN_mem rs r l1) B l0 hB h0) u hu⟩
  small := fun r A q hr hq => by
    obtain ⟨_, B, hB, rfl⟩ := hget_pickL rs L r hr
    rw [renR_sm] at hq
    obtain ⟨g1, g2⟩ := hR.small _ B q hB hq
    exact ⟨g1, fun e => ⟨by rw [renR_bor]; exact (g2 e).1, renR_ent.2 (g2 e).2⟩⟩
  env := fun i => by
    rw [get_renE]
    have hi := hR.env i
    have hm := envIn_spec h i
    generalize E.get i = p at hi hm
    cases p with
    | a A => exact renA_rep hi hm
    | tup xs => obtain ⟨vs, hv, hr⟩ := hi; exact ⟨vs, hv, renAs_rep hr hm⟩
    | fn f xs => obtain ⟨vs, hv, hr⟩ := hi; exact ⟨vs, hv, renAs_rep hr hm⟩

end
end Go.Am

/- The abstract machine, part 21: how a function is entered and left. -/
namespace Go.Am
set_option linter.unusedVariables false
set_option linter.unusedSimpArgs false


def capsA : (caps : List (Bool × Ty)) → capsDen caps → List Atom
  | [], _ => []
  | (true, t) :: r, x => .ptr t x.1 :: capsA r x.2
  | (false, t) :: r, x => toAtom t x.1 :: capsA r x.2

def argA (k : Nat) : (a : AT) → a.den → PV × Heap
  | .v t, x => (.a (toAtom t x), [])
  | .p t, x => (.a (.ptr t x), [])
  | .own t, xs => (.a (.osl k none), [some ⟨t, xs, false, none, none⟩])
  | .pb t, x => (.a (.optr k 0 []), [some ⟨t, [x], true, none, some true⟩])
  | .po t, x => match expl k t x with
    | (ls, es) => (.a (.bptr (k + es.length) 0 t), es ++ [some ⟨t, [], false, some ls, none⟩])
  | .sv t, x => match expl k t x with
    | (ls, es) => (.a (.rcd t ls), es)
  | .fn f caps, x => (.fn f (capsA caps x), [])

def entE : Nat → Nat → (sig : List AT) → sigDen sig → Env
  | _, _, [], _ => []
  | i, k, a :: r, x => match argA k a x.1 with
    | (p, es) => (i, p) :: entE (i + 1) (k + es.length) r x.2

def entH : Nat → (sig : List AT) → sigDen sig → Heap
  | _, [], _ => []
  | k, a :: r, x => match argA k a x.1 with
    | (_, es) => es ++ entH (k + es.length) r x.2

def entL (sig : List AT) (x : sigDen sig) : Heap := entH 0 sig x

def pinsOf : Nat → List AT → List Nat
  | _, [] => []
  | i, a :: r => match isOwn a with
    | true => i :: pinsOf (i + 1) r
    | false => pinsOf (i + 1) r

def wfCaps : (caps : List (Bool × Ty)) → capsDen caps → Prop
  | [], _ => True
  | (_, t) :: r, x => Wf t x.1 ∧ wfCaps r x.2

def wfA : (a : AT) → a.den → Prop
  | .v t, x => Wf t x
  | .p t, x => Wf t x
  | .own t, xs => Wf (.sl t) xs
  | .pb t, x => Wf t x
  | .po t, x => Wf t x
  | .sv t, x => Wf t x
  | .fn _ caps, x => wfCaps caps x

def wfSig : (sig : List AT) → sigDen sig → Prop
  | [], _ => True
  | a :: r, x => wfA a x.1 ∧ wfSig r x.2

def noOwn : List AT → Bool
  | [] => true
  | a :: r => !isOwn a && noOwn r

section
variable {P : Program} {n : Nat} {K : Ctx} {G : Nat → Prop} {w0 w : World} {a : Act} {V : Nat → Value} {own : Nat → List Nat} {f : FuncId} {R : Ending → World → Prop} {E : Env} {L : Heap}

theorem repB_wf {G : Nat → Prop} {t : Ty} {x : t.den} {v : Value} (h : RepB w G (toAtom t x) v) : Wf t x := by
  cases t with
  | int k => exact h.2
  | bool => trivial
  | str => exact h.2
  | sl e => exact wf_slAt (fun _ _ => RepC.wf) h
  | unit => trivial
  | cons a b => obtain ⟨cs, _, h⟩ := h; exact h.wf

theorem ptr_wf {G : Nat → Prop} {t : Ty} {x : t.den} {v : Value} (h : PtrAt w G t x v) : Wf t x := by
  obtain ⟨_, _, _, _, _, _, h⟩ := h
  exact h.wf

theorem caps_wf {G : Nat → Prop} : ∀ {caps : List (Bool × Ty)} {x : capsDen caps} {vs : List Value}, CapsRep w G caps x vs → wfCaps caps x
  | [], _, _, _ => trivial
  | (true, t) :: r, x, vs, ⟨_, _, _, h, h2⟩ => ⟨ptr_wf h, caps_wf h2⟩
  | (false, t) :: r, x, vs, ⟨_, _, _, h, h2⟩ => ⟨repB_wf h, caps_wf h2⟩

theorem argsK_wf {G G0 : Nat → Prop} : ∀ {sig : List AT} {x : sigDen sig} {vs : List Value} {bss : List (List Nat)}, ArgsK w G G0 sig x vs bss → wfSig sig x
  | [], _, _, _, _ => trivial
  | a :: r, x, vs, bss, ⟨_, _, _, _, _, _, h, h2⟩ => by
    refine ⟨?_, argsK_wf h2⟩
    cases a with
    | v t => exact repB_wf h.2
    | p t => exact ptr_wf h.2
    | own t => exact OwnC.wf h
    | pb t => obtain ⟨b, off, _, h⟩ := h; exact (EntC.wf h).2 _ (List.mem_singleton.2 rfl)
    | po t => obtain ⟨b, off, _, h⟩ := h; exact (wf_ownSl (fun _ _ _ => OwnC.wf) h).2 _ (List.mem_singleton.2 rfl)
    | sv t => obtain ⟨cs, _, h⟩ := h; exact h.wf
    | fn g caps => obtain ⟨_, _, _, h⟩ := h; exact caps_wf h

theorem args_wf {G : Nat → Prop} {sig : List AT} {x : sigDen sig} {vs : List Value} {bss : List (List Nat)} (h : ArgsRep w G sig x vs bss) : wfSig sig x := argsK_wf h

theorem repA_ofB {t : Ty} {x : t.den} {v : Value} (h : RepB w0 G (toAtom t x) v) : RepA w0 G L V (toAtom t x) v := by
  cases t <;> exact h

theorem caps_rep : ∀ {caps : List (Bool × Ty)} {x : capsDen caps} {vs : List Value}, CapsRep w0 G caps x vs → RepAs w0 G L V (capsA caps x) vs
  | [], _, _, h => h
  | (true, t) :: r, x, vs, ⟨v, s, h1, h, h2⟩ => ⟨v, s, h1, h, caps_rep h2⟩
  | (false, t) :: r, x, vs, ⟨v, s, h1, h, h2⟩ => ⟨v, s, h1, repA_ofB h, caps_rep h2⟩

theorem arg_spec (hR : RelV n K w G w a E L V own) {o : AT} {x : o.den} {v : Value} {bs : List Nat} (h : ArgRep w G K.G0 o x v bs) (hn : bs.Nodup) (hg : ∀ b ∈ bs, Out K G b) (hd : ∀ r A, hget L r = some A → ∀ b ∈ own r, b ∉ bs) :
    ∃ V' own', RelV n K w G w a E (L ++ (argA L.length o x).2) V' own' ∧ Grown L (argA L.length o x).2 V V' own own' bs ∧ RepP w G (L ++ (argA L.length o x).2) V' (argA L.length o x).1 v := by
  cases o with
  | v t =>
    exact ⟨V, own, by simpa [argA] using hR, Grown.refl _ _ _, repA_ofB h.2⟩
  | p t =>
    exact ⟨V, own, by simpa [argA] using hR, Grown.refl _ _ _, h.2⟩
  | fn f caps =>
    obtain ⟨_, vs, hv, hh⟩ := h
    exact ⟨V, own, by simpa [argA] using hR, Grown.refl _ _ _, vs, hv, caps_rep hh⟩
  | own t =>
    have hE : EntC w G w ⟨t, x, false, none, none⟩ v bs := EntC.own.2 h
    obtain ⟨h1, h2⟩ := grow_one hR hE hn hg hd
    exact ⟨_, _, h1, h2, repA_new (w0 := w) (G := G) (u := w) (G' := G) hE⟩
  | pb t =>
    obtain ⟨b, off, rfl, hE0⟩ := h
    have hE : EntC w G w ⟨t, [x], true, none, some true⟩ (.slice (some ⟨b, off, none⟩) 1 1) bs := EntC.keepG (A := ⟨t, [x], true, none, none⟩) hR.gsub (fun _ _ => rfl) (fun _ _ => rfl) hE0
    obtain ⟨h1, h2⟩ := grow_one hR hE hn hg hd (hsm := fun q hq => ⟨⟨b, off, rfl⟩, fun _ => ⟨rfl, hE0⟩⟩)
    refine ⟨_, _, h1, h2, ⟨t, [x], true, none, some true⟩, hget_new _ _, by simp, b, off, 1, 1, 0, t, upd1_same _ _ _, rfl, by simp⟩
  | po t =>
    obtain ⟨b, off, rfl, hO⟩ := h
    rcases hO.2 with ⟨_, h1, _, _⟩ | ⟨b2, off2, cap, cur, ty, fz, bss, h1, h2, h3, h4, h5, h6, h7, h8, h9⟩
    · cases h1
    · simp only [Value.slice.injEq, Option.some.injEq, Addr.mk.injEq] at h1
      obtain ⟨⟨q1, q2, _⟩, _, q3⟩ := h1
      subst q1 q2 q3
      obtain ⟨bi, rfl⟩ : ∃ bi, bss = [bi] := by
        match bss, h7 with
        | [bi], _ => exact ⟨bi, rfl⟩
      obtain ⟨cs, g1, g2, g3⟩ := h9 0 x bi rfl rfl
      have hcells : CellsAt w b off cs := fun j c hj => by
        simp only [World.cell?, h5]
        have := g2 j c hj
        simpa using this
      have h8 : bs = b :: bi := by rw [h8]; simp
      subst h8
      obtain ⟨hb, hni⟩ := List.nodup_cons.1 hn
      obtain ⟨V1, own1, r1, k1, l1, n1⟩ := expl_spec hR g3 hni (fun c hc => hg c (List.mem_cons_of_mem _ hc)) (fun r A hA c hc hm => hd r A hA c hc (List.mem_cons_of_mem _ hm))
      have hE : EntC w G w ⟨t, [], false, some (expl L.length t x).1, none⟩ (.slice (some ⟨b, off, none⟩) 0 1) [b] :=
        ⟨by simp [maxLen], .inr ⟨b, off, 1, cur, ty, fz, [], rfl, Nat.zero_le _, h3, h4, h5, h6, rfl, rfl, fun i y bi hy => by simp at hy⟩⟩
      have hap := k1.apart (rest := [b]) (fun r A hA c hc hm => hd r A hA c hc (by rw [List.mem_singleton.1 hm]; exact List.mem_cons_self ..)) (fun c hc hm => hb (by rw [← List.mem_singleton.1 hm]; exact hc))
      obtain ⟨h10, h11⟩ := grow_one r1 hE (by simp) (fun c hc => by rw [List.mem_singleton.1 hc]; exact hg b (List.mem_cons_self ..)) hap (hbox := fun l hl => by cases hl; exact ⟨b, off, cs, rfl, g1, n1, hcells, l1⟩)
      have e2 : (argA L.length (.po t) x).2 = (expl L.length t x).2 ++ [some ⟨t, [], false, some (expl L.length t x).1, none⟩] := rfl
      have e1 : (argA L.length (.po t) x).1 = .a (.bptr (L.length + (expl L.length t x).2.length) 0 t) := rfl
      rw [e1, e2, ← List.append_assoc]
      have hlen : (L ++ (expl L.length t x).2).length = L.length + (expl L.length t x).2.length := by simp
      refine ⟨_, _, h10, k1.trans h11 (fun c hc => List.mem_cons_of_mem _ hc) (fun c hc => by rw [List.mem_singleton.1 hc]; exact List.mem_cons_self ..), ?_⟩
      rw [← hlen]
      exact ⟨_, _, b, off, hget_new _ _, rfl, upd1_same _ _ _, rfl, by simp⟩
  | sv t =>
    obtain ⟨cs, rfl, ho⟩ := h
    obtain ⟨V1, own1, r1, k1, l1, n1⟩ := expl_spec hR ho hn hg hd
    exact ⟨V1, own1, r1, k1, cs, rfl, n1, l1⟩

theorem ent_spec : ∀ {sig : List AT} {x : sigDen sig} {vs : List Value} {bss : List (List Nat)} {L : Heap} {V : Nat → Value} {own : Nat → List Nat} {i : Nat}, RelV n K w G w a E L V own → ArgsK w G K.G0 sig x vs bss → bss.flatten.Nodup → (∀ b ∈ bss.flatten, Out K G b) → (∀ r A, hget L r = some A → ∀ b ∈ own r, b ∉ bss.flatten) →
    (∀ j v, vs[j]? = some v → a.tmps.getD (i + j) undef = v) →
    ∃ V' own', RelV n K w G w a E (L ++ entH L.length sig x) V' own' ∧ (∀ r, (∃ B, hget L r = some B) → Agree L V (L ++ entH L.length sig x) V' r) ∧ ∀ j, RepP w G (L ++ entH L.length sig x) V' ((entE i L.length sig x).get j) (a.tmps.getD j undef)
  | [], x, vs, bss, L, V, own, i, hR, _, _, _, _, _ => ⟨V, own, by simpa [entH] using hR, fun r _ => Agree.of_same rfl (by simp [entH]), fun j => trivial⟩
  | o :: sig, x, vs, bss, L, V, own, i, hR, ⟨v, s, b, bs, h1, h2, h, h3⟩, hn, hg, hd, ht => by
    subst h1 h2
    obtain ⟨hn1, hn2, hn3⟩ := nodup_flatten_cons hn
    obtain ⟨V1, own1, r1, g1, p1⟩ := arg_spec hR h hn1 (fun c hc => hg c (by simp [hc])) (fun r A hA c hc hm => hd r A hA c hc (by simp [hm]))
    have hlen : (L ++ (argA L.length o x.1).2).length = L.length + (argA L.length o x.1).2.length := by simp
    obtain ⟨V2, own2, r2, a2, p2⟩ := ent_spec (i := i + 1) r1 h3 hn2 (fun c hc => hg c (by rw [List.flatten_cons]; exact List.mem_append_right _ hc)) (g1.apart (fun r A hA c hc hm => hd r A hA c hc (by rw [List.flatten_cons]; exact List.mem_append_right _ hm)) hn3) (fun j u hj => by
      have := ht (j + 1) u (by simpa using hj)
      rwa [show i + (j + 1) = i + 1 + j from by omega] at this)
    rw [hlen] at r2 a2 p2
    have e1 : entH L.length (o :: sig) x = (argA L.length o x.1).2 ++ entH (L.length + (argA L.length o x.1).2.length) sig x.2 := rfl
    have e2 : entE i L.length (o :: sig) x = (i, (argA L.length o x.1).1) :: entE (i + 1) (L.length + (argA L.length o x.1).2.length) sig x.2 := rfl
    rw [e1, e2, ← List.append_assoc]
    refine ⟨V2, own2, r2, fun r hr => ?_, fun j => ?_⟩
    · have a1 := g1.agree r hr
      obtain ⟨B, hB⟩ := hr
      obtain ⟨B', hB', _⟩ := a1.2 B hB
      exact a1.trans (a2 r ⟨B', hB'⟩)
    · simp only [Env.get]
      cases hij : Nat.beq i j with
      | true =>
        obtain rfl := Nat.eq_of_beq_eq_true hij
        simp only [cond_true]
        have := ht 0 v rfl
        rw [Nat.add_zero] at this
        rw [this]
        exact repP_agree p1 fun r hr => a2 r (repP_live p1 r hr)
      | false =>
        simp only [cond_false]
        exact p2 j

theorem own_vals {G G0 : Nat → Prop} : ∀ {sig : List AT} {x : sigDen sig} {vs : List Value} {bss : List (List Nat)} {i : Nat} {q : Nat → Value}, ArgsK w G G0 sig x vs bss → (∀ j v, vs[j]? = some v → q (i + j) = v) → ownVals sig vs = (pinsOf i sig).map q
  | [], x, vs, bss, i, q, h, _ => by obtain ⟨rfl, rfl⟩ := h; rfl
  | a :: r, x, vs, bss, i, q, ⟨v, s, b, bs, h1, h2, h, h3⟩, hq => by
    subst h1 h2
    have h0 : q i = v := by have := hq 0 v rfl; simpa using this
    have ih := own_vals (i := i + 1) (q := q) h3 (fun j u hj => by have := hq (j + 1) u (by simpa using hj); rw [show i + 1 + j = i + (j + 1) by omega]; exact this)
    cases a with
    | v t => exact ih
    | p t => exact ih
    | fn g caps => exact ih
    | own t => simp only [ownVals, pinsOf, isOwn, List.map_cons, h0, ih]
    | pb t => simp only [ownVals, pinsOf, isOwn, List.map_cons, h0, ih]
    | po t => simp only [ownVals, pinsOf, isOwn, List.map_cons, h0, ih]
    | sv t => simp only [ownVals, pinsOf, isOwn, List.map_cons, h0, ih]


def PostR (kds : List RK) (oks : List AT) (ds : List Dyn) (us : List (Option Lst)) (pins : List Nat) (q : Nat → Value) (K : Ctx) (e : Ending) (w' : World) : Prop :=
  PostC K.w0 K.O K.Ga K.G0 kds ds oks us (pins.map q) e w'

theorem contract_of {fn : Func} {c : Code} {S : Spec} (hf : P.funcs[f]? = some fn) (hb : fn.body = some c) (hl : S.sig.length ≤ fn.ntmps)
    (h : ∀ x, S.pre x → wfSig S.sig x → ∀ K q, AtV P f (PostR S.kds (owns S.sig) (S.res x) (S.upd x) (pinsOf 0 S.sig) q K) fn.ntmps K q (pinsOf 0 S.sig) [.code c] (entE 0 0 S.sig x) (entL S.sig x)) : Contract P f S := by
  intro w G G0 x vs bss hgo hG hG0 hpre hargs hnd
  have hlen := args_len hargs
  have hget0 : ∀ j v, vs[j]? = some v → (vs.toArray ++ Array.replicate (fn.ntmps - vs.toArray.size) undef).getD j undef = v := fun j v hj => by
    have hlt := (List.getElem?_eq_some_iff.1 hj).1
    rw [Array.getD_eq_getD_getElem?, Array.getElem?_append_left (by simpa using hlt)]
    simp [hj]
  let q : Nat → Value := fun i => (vs.toArray ++ Array.replicate (fn.ntmps - vs.toArray.size) undef).getD i undef
  let K : Ctx := ⟨w, bss.flatten, G0, G⟩
  let a0 : Act := { tmps := vs.toArray ++ Array.replicate (fn.ntmps - vs.toArray.size) undef, defers := [] }
  have hov : ownVals S.sig vs = (pinsOf 0 S.sig).map q := own_vals hargs (fun j v hj => by rw [Nat.zero_add]; exact hget0 j v hj)
  have h0 : RelV fn.ntmps K w G w a0 [] [] (fun _ => undef) (fun _ => []) := by
    refine ⟨hgo, Kept.refl _ _, ?_, rfl, fun b hb => (hG b hb).1, fun _ _ => rfl, hG0, fun b hb => hG b (hG0 b hb), fun b hb => .inl hb, (fun r A hr => by cases hr), (fun r A hr => by cases hr), (fun r A hr => by cases hr), (fun r s A B hr => by cases hr), (fun r A ls hr => by cases hr), (fun r A q hr => by cases hr), fun i => trivial⟩
    show (vs.toArray ++ Array.replicate (fn.ntmps - vs.toArray.size) undef).size = fn.ntmps
    simp [hlen]; omega
  obtain ⟨V, own, h1, _, h2⟩ := ent_spec (i := 0) h0 hargs hnd (fun b hb => ⟨fun h => h.2 hb, fun h => (hG b h).2 hb⟩) (fun r A hr => by cases hr) (fun j v hj => by rw [Nat.zero_add]; exact hget0 j v hj)
  have h3 : RelV fn.ntmps K w G w a0 (entE 0 0 S.sig x) (entL S.sig x) V own := { h1 with env := fun i => h2 i }
  refine (calls_of_run hf hb (h x hpre (argsK_wf hargs) K q a0 w w G V own h3 (fun t ht => rfl))).mono ?_
  intro e w' hp
  rw [hov]
  exact hp

def updOne (L : Heap) : AT → PV → Option (Lst × List Nat)
  | .own t, .a (.osl k none) => match hget L k with
    | some A => match A.bor with
      | false => some (⟨A.t, A.xs⟩, [k])
      | true => none
    | none => none
  | .pb t, .a (.optr k 0 []) => match hget L k with
    | some A => match A.sm with
      | some true => if h : A.t = t then (match one1 (castL h A.xs) with | some x => some (⟨t, [x]⟩, [k]) | none => none) else none
      | _ => none
    | none => none
  | .po t, .a A => match decPo L t A with
    | some (x, us) => some (⟨t, [x]⟩, us)
    | none => none
  | .sv t, .a A => match decSv L t A with
    | some (x, us) => some (⟨t, [x]⟩, us)
    | none => none
  | _, _ => none

def updO (E : Env) (L : Heap) (gone : List Nat) : List Nat → List AT → List (Option Lst) × List Nat
  | i :: r, o :: os => match updO E L gone r os with
    | (us, rs) => match updOne L o (E.get i) with
      | some (A, ks) => match disjB ks gone with
        | true => (some A :: us, ks ++ rs)
        | false => (none :: us, rs)
      | none => (none :: us, rs)
  | _ :: r, [] => (none :: (updO E L gone r []).1, [])
  | [], _ => ([], [])

theorem updOne_spec (hR : RelV n K w0 G w a E L V own) {o : AT} {p : PV} {A : Lst} {ks : List Nat} {v : Value} (hp : RepP w0 G L V p v) (h : updOne L o p = some (A, ks)) : UpdOne w K.G0 o A v (ks.map own).flatten ∧ ∀ r ∈ ks, ∃ B, hget L r = some B := by
  unfold updOne at h
  split at h
  · rename_i t k
    split at h
    · rename_i B hB
      split at h
      · rename_i hbor
        cases h
        obtain ⟨B', hB', h1, _⟩ := hp
        rw [hB] at hB'; cases hB'
        have hE := hR.heap k B hB
        obtain ⟨tB, xB, bB, lB, sB⟩ := B
        simp only at hbor
        subst hbor
        refine ⟨?_, fun r hr => by rw [List.mem_singleton.1 hr]; exact ⟨_, hB⟩⟩
        rw [h1 rfl]
        simp only [List.map_cons, List.map_nil, List.flatten_cons, List.flatten_nil, List.append_nil]
        exact EntC.own.1 hE
      · cases h
    · cases h
  · rename_i t k
    split at h
    · rename_i B hB
      split at h
      · rename_i hsm
        split at h
        · rename_i ht
          split at h
          · rename_i x hx
            cases h
            obtain ⟨B', hB', hi, b, off, m, cap, po, t', hv, hpp, rfl⟩ := hp
            rw [hB] at hB'; cases hB'
            simp only [pathOff, Option.some.injEq, Prod.mk.injEq] at hpp
            obtain ⟨rfl, rfl⟩ := hpp
            obtain ⟨⟨b1, off1, hv1⟩, hsm2⟩ := hR.small k B true hB hsm
            obtain ⟨hbor, hE⟩ := hsm2 rfl
            obtain ⟨tB, xB, bB, lB, sB⟩ := B
            simp only at hbor ht
            subst ht
            have hy : xB = [x] := one1_eq hx
            subst hbor hy
            rw [hv1] at hv hE
            cases hv
            refine ⟨⟨x, rfl, b, off, by simp, ?_⟩, fun r hr => by rw [List.mem_singleton.1 hr]; exact ⟨_, hB⟩⟩
            simp only [List.map_cons, List.map_nil, List.flatten_cons, List.flatten_nil, List.append_nil]
            exact EntC.keepG (A := ⟨tB, [x], true, none, none⟩) (fun _ h => h) (fun c hc => hR.gref c (hR.gsub c hc)) (fun _ _ => rfl) hE
          · cases h
        · cases h
      · cases h
    · cases h
  · rename_i t A1
    split at h
    · rename_i x us hpo
      cases h
      obtain ⟨h1, h2, _⟩ := decPo_rep hR (Kept.refl _ _) hp hpo
      exact ⟨⟨x, rfl, h1⟩, h2⟩
    · cases h
  · rename_i t A1
    split at h
    · rename_i x us hsv
      cases h
      obtain ⟨h1, h2⟩ := decSv_rep hR (Kept.refl _ _) hp hsv
      exact ⟨⟨x, rfl, h1⟩, h2⟩
    · cases h
  · cases h

theorem updO_spec {q : Nat → Value} {gone : List Nat} (hR : RelV n K w0 G w a E L V own) : ∀ {ps : List Nat} {os : List AT}, ps.length ≤ os.length → (∀ t ∈ ps, a.tmps.getD t undef = q t) →
    ∃ ubs, UpdK w K.G0 os (updO E L gone ps os).1 (ps.map q) ubs ∧ ubs.flatten = ((updO E L gone ps os).2.map own).flatten ∧ ∀ r ∈ (updO E L gone ps os).2, ∃ B, hget L r = some B
  | [], os, _, _ => ⟨[], by cases os <;> exact ⟨rfl, rfl⟩, by cases os <;> rfl, fun r hr => by cases os <;> cases hr⟩
  | i :: ps, [], hl, _ => by simp at hl
  | i :: ps, o :: os, hl, hq => by
    obtain ⟨ubs, h1, h2, h3⟩ := updO_spec hR (ps := ps) (os := os) (by simpa using hl) (fun t ht => hq t (List.mem_cons_of_mem _ ht))
    simp only [updO]
    have skip : ∃ ubs, UpdK w K.G0 (o :: os) (none :: (updO E L gone ps os).1) ((i :: ps).map q) ubs ∧ ubs.flatten = ((updO E L gone ps os).2.map own).flatten ∧ ∀ r ∈ (updO E L gone ps os).2, ∃ B, hget L r = some B :=
      ⟨[] :: ubs, ⟨_, _, _, rfl, rfl, h1⟩, by simpa using h2, h3⟩
    split
    · rename_i A ks hk
      split
      · have hv := hR.env i
        rw [hq i (List.mem_cons_self ..)] at hv
        obtain ⟨g1, g2⟩ := updOne_spec hR hv hk
        refine ⟨(ks.map own).flatten :: ubs, ⟨_, _, _, _, rfl, rfl, g1, h1⟩, by simp [h2], fun r hr => ?_⟩
        rcases List.mem_append.1 hr with hr | hr
        · exact g2 r hr
        · exact h3 r hr
      · exact skip
    · exact skip

def decO (L : Heap) : (t : Ty) → Atom → Option (t.den × List Nat)
  | .sl e, .osl r none => match hget L r with
    | some A => match A.bor with
      | true => none
      | false => if h : A.t = e then some (castL h A.xs, [r]) else none
    | none => none
  | .sl e, .osl r (some (lo, hi)) => match hget L r with
    | some A => match e.flat && !A.bor with
      | true => if h : A.t = e then some (rgL (some (lo, hi)) (castL h A.xs), [r]) else none
      | false => none
    | none => none
  | .sl e, .val (.slice none _ _) => some ([], [])
  | t, .rcd t' ls => match decide (t' = t), t.agg with
    | true, true => ownLs L t ls
    | _, _ => none
  | t, A => match t.flat with
    | true => match decB t A with
      | some x => some (x, [])
      | none => none
    | false => none

def decK (L : Heap) : RK → (t : Ty) → Atom → Option (t.den × List Nat)
  | .own, t, A => decO L t A
  | .frz, t, A => match decB t (stAtom A) with
    | some x => some (x, [])
    | none => none
  | .bx, t, A => match decPb L t A with
    | some (x, us) => some (x, us)
    | none => none

def cellA (tab : List TI) (L : Heap) (T : TypeId) (A : Atom) : Option Atom :=
  match (tabGet tab T).ty with
  | some t => loadA L t A
  | none => none

def finA (tab : List TI) (E : Env) (L : Heap) : List RK → List Ty → List ResultVar → Option (List Dyn × List Nat)
  | _, [], [] => some ([], [])
  | ks, t :: ts, .tmp i :: r => match E.get i with
    | .a A => match decK L (RK.hd ks) t A, finA tab E L ks.tail ts r with
      | some (x, us), some (ds, vs) => some (⟨t, x⟩ :: ds, us ++ vs)
      | _, _ => none
    | _ => none
  | ks, t :: ts, .cell i T :: r => match E.get i with
    | .a A => match cellA tab L T A with
      | some B => match decK L (RK.hd ks) t B, finA tab E L ks.tail ts r with
        | some (x, us), some (ds, vs) => some (⟨t, x⟩ :: ds, us ++ vs)
        | _, _ => none
      | none => none
    | _ => none
  | _, _, _ => none

def frzF (tab : List TI) (E : Env) (L : Heap) : List RK → List ResultVar → List Nat
  | .frz :: ks, .tmp i :: r => (match E.get i with
    | .a A => refA A
    | _ => []) ++ frzF tab E L ks r
  | .frz :: ks, .cell i T :: r => (match E.get i with
    | .a A => match cellA tab L T A with
      | some B => refA B
      | none => []
    | _ => []) ++ frzF tab E L ks r
  | _ :: ks, _ :: r => frzF tab E L ks r
  | _, _ => []

theorem isVal_of {t : Ty} {cs : List Value} (hl : cs.length = t.size) : IsVal t cs (valOf t cs) := by
  cases t <;> simp only [IsVal, valOf, Ty.agg, if_true, if_false, Bool.false_eq_true]
  all_goals (match cs, hl with | [c], _ => rfl)

theorem cell_run {T : TypeId} {u v : Value} (h : (Instr.loadAt T u).run P w = .ok v w) : (do loadVar T (← asAddr u) : Sem Value).run P w = .ok v w := by
  cases u with
  | pointer a =>
    cases a with
    | none => simp [Instr.loadAt, Instr.sureAddr] at h
    | some a => simpa [Instr.loadAt, Instr.sureAddr, asAddr] using h
  | _ => simp [Instr.loadAt, Instr.sureAddr] at h

theorem decO_flat (hR : RelV n K w0 G w a E L V own) {t : Ty} {A : Atom} {x : t.den} {us : List Nat} {v : Value} (hv : RepA w0 G L V A v) (h : (match t.flat with | true => (match decB t A with | some x => some (x, ([] : List Nat)) | none => none) | false => none) = some (x, us)) :
    us = [] ∧ ∃ cs, OwnC w t x cs [] ∧ IsVal t cs v := by
  split at h
  · rename_i hf
    split at h
    · rename_i y hd
      cases h
      obtain ⟨cs, hv, _, _, hent⟩ := entR_of_decB (repB_of_decB hv hd) hd false (fun _ => hf)
      exact ⟨rfl, cs, hent w, by rw [hv]; exact isVal_of (OwnC.length (hent w))⟩
    · cases h
  · cases h

theorem decO_spec (hR : RelV n K w0 G w a E L V own) {t : Ty} {A : Atom} {x : t.den} {us : List Nat} {v : Value} (hv : RepA w0 G L V A v) (h : decO L t A = some (x, us)) :
    (∃ cs, OwnC w t x cs (us.map own).flatten ∧ IsVal t cs v) ∧ ∀ r ∈ us, ∃ B, hget L r = some B := by
  unfold decO at h
  split at h
  · rename_i e r
    have h' : slW L e (.osl r none) = some (x, us) := h
    obtain ⟨h1, h2⟩ := slW_rep hR (l := .osl r none) (v := v) hv h'
    exact ⟨⟨[v], h1, rfl⟩, h2⟩
  · rename_i e r lo hi
    have h' : slW L e (.osl r (some (lo, hi))) = some (x, us) := h
    obtain ⟨h1, h2⟩ := slW_rep hR (l := .osl r (some (lo, hi))) (v := v) hv h'
    exact ⟨⟨[v], h1, rfl⟩, h2⟩
  · rename_i e n c
    cases h
    obtain ⟨rfl, hn, hc⟩ := hv
    subst hn hc
    exact ⟨⟨_, ⟨_, rfl, by simp [maxLen], .inl ⟨_, rfl, rfl, rfl⟩⟩, rfl⟩, fun r hr => by cases hr⟩
  · rename_i t' ls
    split at h
    · rename_i ht ha
      obtain rfl := of_decide_eq_true ht
      obtain ⟨cs, rfl, hl, hr⟩ := hv
      obtain ⟨h1, h2⟩ := ownLs_rep hR hr h
      refine ⟨⟨cs, h1, ?_⟩, h2⟩
      have := isVal_of h1.length
      rwa [valOf, if_pos ha] at this
    · cases h
  · obtain ⟨rfl, cs, h1, h2⟩ := decO_flat hR hv h
    exact ⟨⟨cs, by simpa using h1, h2⟩, fun r hr => by cases hr⟩

def NewG (K : Ctx) (G : Nat → Prop) (b : Nat) : Prop := G b ∧ ¬ Good K.w0 K.O b

theorem decK_spec (hR : RelV n K w0 G w a E L V own) {k : RK} {t : Ty} {A : Atom} {x : t.den} {us : List Nat} {v : Value} (hv : RepA w0 G L V A v) (h : decK L k t A = some (x, us)) :
    ResOne w K.Ga (NewG K G) k ⟨t, x⟩ v (us.map own).flatten ∧ ∀ r ∈ us, ∃ B, hget L r = some B := by
  have hup : ∀ b, G b → K.Ga b ∨ NewG K G b := fun b hb => (hR.gup b hb).imp_right fun h => ⟨hb, h⟩
  cases k with
  | own => exact decO_spec hR hv h
  | frz =>
    simp only [decK] at h
    split at h
    · rename_i y hd
      cases h
      obtain ⟨cs, hr, hvv⟩ := decB_spec (repB_of_decB (stAtom_rep hv) hd) hd
      refine ⟨⟨rfl, cs, hr.keep hup hR.gref, ?_⟩, fun r hr => by cases hr⟩
      rw [hvv]
      exact isVal_of hr.length
    · cases h
  | bx =>
    simp only [decK] at h
    split at h
    · rename_i y us' hd
      cases h
      obtain ⟨⟨b, off, h1, h2⟩, r, B, b', off', e1, _, e3, _⟩ := decPb_rep (q := false) hR (Kept.refl _ _) hv hd (fun h => by cases h)
      refine ⟨⟨b, off, h1, EntC.keepG (A := ⟨t, [x], true, none, none⟩) (fun c hc => hup c hc) (fun _ _ => rfl) (fun _ _ => rfl) h2⟩, fun s hs => ?_⟩
      rw [e1] at hs
      rw [List.mem_singleton.1 hs]
      exact ⟨B, e3⟩
    · cases h

theorem finA_spec {tab : List TI} (hT : TabOk P tab) (hR : RelV n K w0 G w a E L V own) : ∀ {ks : List RK} {ts : List Ty} {rv : List ResultVar} {ds : List Dyn} {us : List Nat}, finA tab E L ks ts rv = some (ds, us) →
    ∃ rs bss, (rv.mapM fun x => (match x with | .tmp t => pure (a.tmps.getD t undef) | .cell b t => do loadVar t (← asAddr (a.tmps.getD b undef)) : Sem Value)).run P w = .ok rs w ∧ rs.length = rv.length ∧ ResK w K.Ga (NewG K G) ks ds rs bss ∧ bss.flatten = (us.map own).flatten ∧ ∀ r ∈ us, ∃ B, hget L r = some B
  | ks, [], [], ds, us, h => by
    have h' : ds = [] ∧ us = [] := by cases ks <;> (cases h; exact ⟨rfl, rfl⟩)
    obtain ⟨rfl, rfl⟩ := h'
    exact ⟨[], [], by simp, rfl, by cases ks <;> exact ⟨rfl, rfl⟩, rfl, fun r hr => by cases hr⟩
  | ks, t :: ts, .tmp i :: rv, ds, us, h => by
    simp only [finA] at h
    split at h
    · rename_i A hA
      split at h
      · rename_i x u ds' vs hd hf
        cases h
        have hv : RepA w0 G L V A (a.tmps.getD i undef) := by
          have := hR.env i
          rw [hA] at this
          exact this
        obtain ⟨h1, h3⟩ := decK_spec hR hv hd
        obtain ⟨rs, bss, g1, g2, g3, g4, g5⟩ := finA_spec hT hR hf
        refine ⟨a.tmps.getD i undef :: rs, (u.map own).flatten :: bss, ?_, by simp [g2], by cases ks <;> exact ⟨_, _, _, _, rfl, rfl, h1, g3⟩, ?_, ?_⟩
        · rw [List.mapM_cons]
          simp only [Sem.run_bind, Sem.run_pure, Result.andThen_ok]
          rw [g1]
          rfl
        · simp [g4]
        · intro r hr
          rcases List.mem_append.1 hr with hr | hr
          · exact h3 r hr
          · exact g5 r hr
      · cases h
    · cases h
  | ks, t :: ts, .cell i T :: rv, ds, us, h => by
    simp only [finA] at h
    split at h
    · rename_i A hA
      split at h
      · rename_i B hB
        split at h
        · rename_i x u ds' vs hd hf
          cases h
          have hv : RepA w0 G L V A (a.tmps.getD i undef) := by
            have := hR.env i
            rw [hA] at this
            exact this
          unfold cellA at hB
          split at hB
          · rename_i t0 ht0
            obtain ⟨v, hv', hrun⟩ := loadA_spec (P := P) hR (TI.ty_ok (hT T) ht0) hv hB
            obtain ⟨h1, h3⟩ := decK_spec hR hv' hd
            obtain ⟨rs, bss, g1, g2, g3, g4, g5⟩ := finA_spec hT hR hf
            refine ⟨v :: rs, (u.map own).flatten :: bss, ?_, by simp [g2], by cases ks <;> exact ⟨_, _, _, _, rfl, rfl, h1, g3⟩, ?_, ?_⟩
            · have hc := cell_run (hrun w (Kept.refl _ _))
              rw [List.mapM_cons, Sem.run_bind]
              refine (congrArg (fun r => Result.andThen r _) hc).trans ?_
              simp only [Result.andThen_ok, Sem.run_bind]
              rw [g1]
              rfl
            · simp [g4]
            · intro r hr
              rcases List.mem_append.1 hr with hr | hr
              · exact h3 r hr
              · exact g5 r hr
          · cases hB
        · cases h
      · cases h
    · cases h
  | ks, [], _ :: _, _, _, h => by cases ks <;> cases h
  | ks, _ :: _, [], _, _, h => by cases ks <;> cases h

def runF (tab : List TI) (ext : Ext) (wr : Bool) (n : Nat) (stops : List Nat) (m : Nat) (pins : List Nat) (oks : List AT) (kds : List RK) (ts : List Ty) (rv : Array ResultVar) (path : List Bool) (k : List Item) (E : Env) (L : Heap) : Option (List Dyn × List (Option Lst) × List Prop) :=
  match runA tab ext wr n stops m true k ⟨path, [], E, L, [], pins⟩ with
  | some (.fin S) => match frzAll (frzF tab S.E S.L kds rv.toList) (S.E, S.L) with
    | (E1, L1) => match finA tab E1 L1 kds ts rv.toList with
      | some (ds, us) => match nodupB ((updO E1 L1 us pins oks).2 ++ us) && decide (S.pins = pins) && Nat.ble pins.length oks.length with
        | true => some (ds, (updO E1 L1 us pins oks).1, S.cs)
        | false => none
      | none => none
  | _ => none

theorem PostR.forget {kds : List RK} {oks : List AT} {ds : List Dyn} {us : List (Option Lst)} {pins : List Nat} {q : Nat → Value} {K : Ctx} {e : Ending} {w' : World} (h : PostR kds oks ds us pins q K e w') : PostR kds oks ds (us.map fun _ => none) pins q K e w' := by
  obtain ⟨rs, ubs, rbs, F, h1, h2, h3, h4, h5, h6, h7⟩ := h
  have key : ∀ (us : List (Option Lst)) (os : List AT) (vs : List Value) (ubs : List (List Nat)), UpdK w' K.G0 os us vs ubs → ∃ nbs : List (List Nat), UpdK w' K.G0 os (us.map fun _ => none) vs nbs ∧ nbs.flatten = [] := by
    intro us
    induction us with
    | nil => intro os vs ubs h; exact ⟨[], by cases os <;> exact ⟨h.1, rfl⟩, rfl⟩
    | cons u r ih =>
      intro os vs ubs h
      cases os with
      | nil => cases u <;> exact h.elim
      | cons o os =>
        cases u with
        | none =>
          obtain ⟨v, s, bs, rfl, rfl, h⟩ := h
          obtain ⟨nbs, g1, g2⟩ := ih _ _ _ h
          exact ⟨[] :: nbs, ⟨_, _, _, rfl, rfl, g1⟩, by simpa using g2⟩
        | some A =>
          obtain ⟨v, s, b, bs, rfl, rfl, _, h⟩ := h
          obtain ⟨nbs, g1, g2⟩ := ih _ _ _ h
          exact ⟨[] :: nbs, ⟨_, _, _, rfl, rfl, g1⟩, by simpa using g2⟩
  obtain ⟨nbs, g1, g2⟩ := key _ _ _ _ h4
  refine ⟨rs, nbs, rbs, F, h1, h2, h3, g1, ?_, ?_, ?_⟩
  · rw [g2, List.nil_append]
    rw [List.nodup_append] at h5
    exact h5.2.1
  · rw [g2, List.nil_append]
    exact fun b hb => h6 b (List.mem_append_right _ hb)
  · intro b hb
    obtain ⟨k1, k2, k3⟩ := h7 b hb
    refine ⟨k1, k2, ?_⟩
    rw [g2, List.nil_append]
    exact fun hm => k3 (List.mem_append_right _ hm)

def WeakU : List (Option Lst) → List (Option Lst) → Prop
  | [], [] => True
  | u :: r, u' :: r' => (u' = u ∨ u' = none) ∧ WeakU r r'
  | _, _ => False

theorem PostR.weak {kds : List RK} {oks : List AT} {ds : List Dyn} {us us' : List (Option Lst)} {pins : List Nat} {q : Nat → Value} {K : Ctx} {e : Ending} {w' : World} (h : PostR kds oks ds us pins q K e w') (hw : WeakU us us') : PostR kds oks ds us' pins q K e w' := by
  obtain ⟨rs, ubs, rbs, F, h1, h2, h3, h4, h5, h6, h7⟩ := h
  have key : ∀ (us us' : List (Option Lst)) (os : List AT) (vs : List Value) (ubs : List (List Nat)), WeakU us us' → UpdK w' K.G0 os us vs ubs → ∃ nbs : List (List Nat), UpdK w' K.G0 os us' vs nbs ∧ nbs.flatten.Sublist ubs.flatten := by
    intro us
    induction us with
    | nil =>
      intro us' os vs ubs hw h
      cases us' with
      | nil => exact ⟨ubs, h, List.Sublist.refl _⟩
      | cons _ _ => cases hw
    | cons u r ih =>
      intro us' os vs ubs hw h
      cases us' with
      | nil => cases hw
      | cons u' r' =>
        obtain ⟨hu, hw⟩ := hw
        cases os with
        | nil => cases u <;> exact h.elim
        | cons o os =>
          cases u with
          | none =>
            obtain ⟨v, s, bs, rfl, rfl, h⟩ := h
            obtain ⟨nbs, g1, g2⟩ := ih _ _ _ _ hw h
            have : u' = none := by rcases hu with h | h <;> exact h
            subst this
            exact ⟨[] :: nbs, ⟨_, _, _, rfl, rfl, g1⟩, by simpa using g2⟩
          | some A =>
            obtain ⟨v, s, b, bs, rfl, rfl, h0, h⟩ := h
            obtain ⟨nbs, g1, g2⟩ := ih _ _ _ _ hw h
            rcases hu with rfl | rfl
            · exact ⟨b :: nbs, ⟨_, _, _, _, rfl, rfl, h0, g1⟩, by simpa using g2⟩
            · exact ⟨[] :: nbs, ⟨_, _, _, rfl, rfl, g1⟩, by simpa using g2.trans (List.sublist_append_right _ _)⟩
  obtain ⟨nbs, g1, g2⟩ := key _ _ _ _ _ hw h4
  have g3 : (nbs.flatten ++ rbs.flatten).Sublist (ubs.flatten ++ rbs.flatten) := g2.append_right _
  refine ⟨rs, nbs, rbs, F, h1, h2, h3, g1, h5.sublist g3, fun b hb => h6 b (g3.subset hb), fun b hb => ?_⟩
  obtain ⟨k1, k2, k3⟩ := h7 b hb
  exact ⟨k1, k2, fun hm => k3 (g3.subset hm)⟩

theorem AtV.mono {R' : Ending → World → Prop} {q : Nat → Value} {ps : List Nat} {k : List Item} (h : AtV P f R n K q ps k E L) (hm : ∀ e w, R e w → R' e w) : AtV P f R' n K q ps k E L := by
  intro a w w0 G V own hR hq b cs hb hk
  obtain ⟨e, w', fr, h1, h2⟩ := h a w w0 G V own hR hq b cs hb hk
  exact ⟨e, w', fr, hm _ _ h1, h2⟩

theorem AtV.forget {kds : List RK} {oks : List AT} {ds : List Dyn} {us : List (Option Lst)} {q : Nat → Value} {pins ps : List Nat} {k : List Item} (h : AtV P f (PostR kds oks ds us pins q K) n K q ps k E L) : AtV P f (PostR kds oks ds (us.map fun _ => none) pins q K) n K q ps k E L :=
  h.mono fun _ _ h => h.forget

theorem AtV.weak {kds : List RK} {oks : List AT} {ds : List Dyn} {us us' : List (Option Lst)} {q : Nat → Value} {pins ps : List Nat} {k : List Item} (h : AtV P f (PostR kds oks ds us pins q K) n K q ps k E L) (hw : WeakU us us') : AtV P f (PostR kds oks ds us' pins q K) n K q ps k E L :=
  h.mono fun _ _ h => h.weak hw

theorem AtV.fin {fn : Func} (hf : P.funcs[f]? = some fn) {tab : List TI} {ext : Ext} (hT : TabOk P tab) (hX : ExtOk P ext) (hm : P.follows .mixedOrders = true) {q : Nat → Value} {pins : List Nat} {oks : List AT} {kds : List RK} {wr : Bool} {stops : List Nat} {m : Nat} {ts : List Ty} {path : List Bool} {k : List Item} {ds : List Dyn} {us : List (Option Lst)} {cs : List Prop}
    (h : runF tab ext wr n stops m pins oks kds ts fn.results path k E L = some (ds, us, cs)) (hc : All cs) : AtV P f (PostR kds oks ds us pins q K) n K q pins k E L := by
  intro a w w0 G V own hR hq
  unfold runF at h
  split at h
  · rename_i S hr
    split at h
    rename_i E1 L1 hfrz
    split at h
    · rename_i ds' us' hfin
      split at h
      · rename_i hnd
        simp only [Bool.and_eq_true, decide_eq_true_eq, Nat.ble_eq] at hnd
        obtain ⟨⟨hnd, hp⟩, hpl⟩ := hnd
        cases h
        refine runA_run hT hX hm hr hc hR ⟨fun t d ht => by simp [lookB] at ht, hq⟩ ?_
        intro a' w' w1 G1 V' own' hR1 hq'
        rw [hp] at hq'
        obtain ⟨w2, G2, hR'⟩ := frzAll_spec (rs := frzF tab S.E S.L kds fn.results.toList) hR1
        rw [hfrz] at hR'
        obtain ⟨rs, bss, g1, g2, g3, g4, g5⟩ := finA_spec (P := P) hT hR' hfin
        obtain ⟨ubs, k1, k2, k3⟩ := updO_spec (gone := us') hR' hpl hq'
        have hall : ubs.flatten ++ bss.flatten = (((updO E1 L1 us' pins oks).2 ++ us').map own').flatten := by rw [k2, g4, List.map_append, List.flatten_append]
        have hlive : ∀ r ∈ (updO E1 L1 us' pins oks).2 ++ us', ∃ B, hget L1 r = some B := fun r hr => by
          rcases List.mem_append.1 hr with hr | hr
          · exact k3 r hr
          · exact g5 r hr
        have hout : ∀ b ∈ ubs.flatten ++ bss.flatten, Am.Out K G2 b := by
          intro b hb
          rw [hall] at hb
          obtain ⟨l, hl, hb⟩ := List.mem_flatten.1 hb
          obtain ⟨r, hr, rfl⟩ := List.mem_map.1 hl
          obtain ⟨B, hB⟩ := hlive r hr
          exact hR'.good r B hB b hb
        refine ⟨hR'.defers, fn, packV rs, hf, ?_, rs, ubs, bss, NewG K G2, rfl, hR'.kept, g3, k1, ?_, fun b hb => (hout b hb).1, fun b hb => ⟨hR'.glt b hb.1, hb.2, fun hm => (hout b hm).2 hb.1⟩⟩
        · unfold results
          have hm' : (fn.results.mapM fun x => (match x with | .tmp t => pure (a'.tmps.getD t undef) | .cell b t => do loadVar t (← asAddr (a'.tmps.getD b undef)) : Sem Value)).run P w' = .ok rs.toArray w' := by
            rw [show fn.results = fn.results.toList.toArray from rfl, List.mapM_toArray]
            simp only [map_eq_pure_bind, Sem.run_bind, g1, Result.andThen_ok, Sem.run_pure]
          simp only [Sem.run_bind]
          refine (congrArg (fun r => Result.andThen r _) hm').trans ?_
          simp only [Result.andThen_ok, Sem.run_pure]
          congr 1
          match rs with
          | [] => rfl
          | [v] => rfl
          | _ :: _ :: _ => simp [packV]
        · rw [hall]; exact own_nodup hR' (nodupB_spec hnd) hlive
      · cases h
    · cases h
  · cases h
end
end Go.Am

/- The abstract machine, part 22: a law's arguments, and its statement. -/
namespace Go.Am
open Go.ChangeShapes Go.WideShapes Go.ChangeAt Go.RowKit
set_option linter.unusedVariables false
set_option linter.unusedSimpArgs false

def wrapB (P : Program) (agg : Bool) (T : TypeId) (k : TypeId ⊕ (List Field × Nat) → Bool) : Bool :=
  match agg with
  | true => match P.underlying T with
    | some (.struct fs) => k (.inr (fs.toList, 0))
    | _ => false
  | false => k (.inl T)


def readsB (P : Program) : Ty → TypeId ⊕ (List Field × Nat) → Bool
  | .int k, .inl T => isIntB k (P.underlying T)
  | .bool, .inl T => isBoolB (P.underlying T)
  | .str, .inl T => isStrB (P.underlying T)
  | .unit, .inr ([], _) => true
  | .cons a b, .inr (f :: fs, o) => Nat.beq f.offset o && (Nat.beq (P.cellsOf f.type) a.size && (wrapB P a.agg f.type (readsB P a) && readsB P b (.inr (fs, o + a.size))))
  | _, _ => false

def readsT (P : Program) (t : Ty) (T : TypeId) : Bool := Nat.beq (P.cellsOf T) t.size && wrapB P t.agg T (readsB P t)

section
variable {H : Type} {enc : TypeId × Value → H} {P : Program} {w : World} {base : Nat} {spare : Nat → Bool} {held : Bool} {G : Nat → Prop}


def TrodOne (enc : TypeId × Value → H) (P : Program) (w : World) (base : Nat) (spare : Nat → Bool) (held : Bool) (cs : List Value) (f : Field) : Prop :=
  ∃ n x, DataW.trod enc P w base spare held n f.type ((cs.drop f.offset).take (P.cellsOf f.type)) = some x

theorem trod_fields {T : TypeId} {fs : Array Field} {fuel : Nat} {cs : List Value} {x : DataW H × List MemPlace} (ht : P.underlying T = some (.struct fs)) (h : DataW.trod enc P w base spare held fuel T cs = some x) :
    cs.length = P.cellsOf T ∧ ∀ f ∈ fs.toList, TrodOne enc P w base spare held cs f := by
  obtain ⟨xs, n, _, _, hl, hx, hf⟩ := DataW.trod_struct ht h
  refine ⟨hl, fun f hf' => ?_⟩
  obtain ⟨i, hi⟩ := List.getElem?_of_mem hf'
  rw [Array.getElem?_toList] at hi
  have hlt : i < fs.size := (Array.getElem?_eq_some_iff.1 hi).1
  have := hf i f hi
  exact ⟨n, xs[i]'(by omega), by rw [this]; exact List.getElem?_eq_getElem _⟩

theorem trod_rep : ∀ (t : Ty),
    (∀ T fuel cs x, wrapB P t.agg T (readsB P t) = true → P.cellsOf T = t.size → DataW.trod enc P w base spare held fuel T cs = some x → ∃ y, RepC w G t y cs) ∧
    (∀ fs o cs, readsB P t (.inr (fs, o)) = true → (∀ f ∈ fs, TrodOne enc P w base spare held cs f) → cs.length = o + t.size → ∃ y, RepC w G t y (cs.drop o))
  | .int k => by
    refine ⟨fun T fuel cs x h _ ht => ?_, fun fs o cs h => by simp [readsB] at h⟩
    have hu := isIntB_eq (by simpa [wrapB, Ty.agg, readsB] using h)
    obtain ⟨n, rfl, _, hw⟩ := DataW.trod_int hu ht
    exact ⟨n, rfl, by simpa [Lit.wf, InR] using hw⟩
  | .bool => by
    refine ⟨fun T fuel cs x h _ ht => ?_, fun fs o cs h => by simp [readsB] at h⟩
    have hu := isBoolB_eq (by simpa [wrapB, Ty.agg, readsB] using h)
    obtain ⟨b, rfl, _⟩ := DataW.trod_bool hu ht
    exact ⟨b, rfl⟩
  | .str => by
    refine ⟨fun T fuel cs x h _ ht => ?_, fun fs o cs h => by simp [readsB] at h⟩
    have hu := isStrB_eq (by simpa [wrapB, Ty.agg, readsB] using h)
    obtain ⟨s, rfl, _, hs⟩ := DataW.trod_string hu ht
    exact ⟨s, rfl, hs⟩
  | .sl e => by
    exact ⟨fun T fuel cs x h => by simp [wrapB, Ty.agg, readsB] at h, fun fs o cs h => by simp [readsB] at h⟩
  | .unit => by
    have hB : ∀ fs o cs, readsB P .unit (.inr (fs, o)) = true → (∀ f ∈ fs, TrodOne enc P w base spare held cs f) → cs.length = o + Ty.unit.size → ∃ y, RepC w G .unit y (cs.drop o) := by
      intro fs o cs h _ hl
      refine ⟨(), ?_⟩
      show cs.drop o = []
      rw [List.drop_eq_nil_iff]
      simp [Ty.size] at hl
      omega
    refine ⟨fun T fuel cs x h hc ht => ?_, hB⟩
    simp only [wrapB, Ty.agg] at h
    split at h
    · rename_i fs hu
      obtain ⟨h1, h2⟩ := trod_fields hu ht
      simpa using hB _ _ cs h h2 (by rw [h1, hc]; simp)
    · cases h
  | .cons a b => by
    obtain ⟨ha, _⟩ := trod_rep a
    obtain ⟨_, hb⟩ := trod_rep b
    have hB : ∀ fs o cs, readsB P (.cons a b) (.inr (fs, o)) = true → (∀ f ∈ fs, TrodOne enc P w base spare held cs f) → cs.length = o + (Ty.cons a b).size → ∃ y, RepC w G (.cons a b) y (cs.drop o) := by
      intro fs o cs h hf hl
      match fs, h with
      | [], h => simp [readsB] at h
      | f :: fs, h =>
        simp only [readsB, Bool.and_eq_true] at h
        obtain ⟨h1, h2, h3, h4⟩ := h
        have h1 := Nat.eq_of_beq_eq_true h1
        have h2 := Nat.eq_of_beq_eq_true h2
        simp only [Ty.size] at hl
        obtain ⟨n, x, hx⟩ := hf f (List.mem_cons_self ..)
        rw [h1, h2] at hx
        obtain ⟨y1, hy1⟩ := ha _ _ _ _ h3 h2 hx
        obtain ⟨y2, hy2⟩ := hb fs (o + a.size) cs h4 (fun g hg => hf g (List.mem_cons_of_mem _ hg)) (by omega)
        refine ⟨(y1, y2), _, _, ?_, hy1, hy2⟩
        rw [← List.drop_drop]
        exact (List.take_append_drop _ _).symm
    refine ⟨fun T fuel cs x h hc ht => ?_, hB⟩
    simp only [wrapB, Ty.agg] at h
    split at h
    · rename_i fs hu
      obtain ⟨h1, h2⟩ := trod_fields hu ht
      simpa using hB _ _ cs h h2 (by rw [h1, hc]; simp)
    · cases h

theorem cells_list {a : Addr} {n : Nat} {cs : List Value} (h : w.cells? base a n = some cs) : cs.length = n ∧ ∀ j c, cs[j]? = some c → w.cell? (a.add j) = some c := by
  unfold World.cells? at h
  split at h
  · have key : ∀ (l : List Nat) (cs : List Value), (l.mapM fun i => w.cell? (a.add i)) = some cs → cs.length = l.length ∧ ∀ (j : Nat) (c : Value) (i : Nat), cs[j]? = some c → l[j]? = some i → w.cell? (a.add i) = some c := by
      intro l
      induction l with
      | nil => intro cs h; simp at h; subst h; simp
      | cons i l ih =>
        intro cs h
        rw [List.mapM_cons] at h
        cases hc : w.cell? (a.add i) with
        | none => simp [hc] at h
        | some c =>
          cases hr : l.mapM fun i => w.cell? (a.add i) with
          | none => simp [hc, hr] at h
          | some r =>
            simp [hc, hr] at h
            subst h
            obtain ⟨h1, h2⟩ := ih r hr
            refine ⟨by simp [h1], fun j c' i' hj hi => ?_⟩
            cases j with
            | zero => simp at hj hi; subst hj hi; exact hc
            | succ j => exact h2 j c' i' (by simpa using hj) (by simpa using hi)
    obtain ⟨h1, h2⟩ := key _ _ h
    refine ⟨by simpa using h1, fun j c hj => h2 j c j hj ?_⟩
    have hlt := (List.getElem?_eq_some_iff.1 hj).1
    have h1' : cs.length = n := by simpa using h1
    rw [List.getElem?_range (by omega)]
  · cases h

def FitV (w : World) (v : Value) : Prop := ∀ a len cap, v = .slice (some a) len cap → a.spot = none ∧ a.block < w.heap.size

theorem has_fit {r : Reach} {b0 : Nat} {a : Addr} {e : TypeId} {n : Nat} (h : w.has P r b0 a e n) : a.spot = none ∧ a.block < w.heap.size := by
  obtain ⟨_, hs, row, cells, hsh, _⟩ := h
  refine ⟨hs, ?_⟩
  rcases Nat.lt_or_ge a.block w.heap.size with hlt | hge
  · exact hlt
  · simp [World.shape?, Array.getElem?_eq_none hge] at hsh

theorem cell_fit {r : Reach} {b0 : Nat} {u : TypeId} {v : Value} (h : Cell.okWide P w r b0 u v) : FitV w v := by
  rintro a len cap rfl
  unfold Cell.okWide at h
  split at h
  all_goals first
    | (rename_i hv; cases hv; done)
    | skip
  unfold Cell.ok at h
  split at h
  all_goals first
    | (rename_i hv; cases hv; done)
    | (cases h; done)
    | skip
  rename_i hv
  cases hv
  exact has_fit h.2.2

theorem row_fit {r : Reach} {b0 : Nat} {T : TypeId} {cs : Array Value} (h : Row.okWide P w r b0 T cs) : ∀ v ∈ cs.toList, FitV w v := by
  obtain ⟨ts, _, _, h⟩ := h
  intro v hv
  obtain ⟨i, hi⟩ := List.getElem?_of_mem hv
  rw [Array.getElem?_toList] at hi
  obtain ⟨u, _, hu⟩ := h i v hi
  exact cell_fit hu

theorem trod_slice_rep {e : Ty} {E T : TypeId} {fuel : Nat} {cs : List Value} {x : DataW H × List MemPlace} (hu : P.underlying T = some (.slice E)) (hr : readsT P e E = true) (hz : e.size ≠ 0) (hf : ∀ v ∈ cs, FitV w v)
    (h : DataW.trod enc P w base spare held fuel T cs = some x) : ∃ (v : Value) (ys : List e.den), cs = [v] ∧ SlAt w (Good w []) (RepC w (Good w []) e) e.size ys v := by
  simp only [readsT, Bool.and_eq_true] at hr
  obtain ⟨hc, hr⟩ := hr
  have hc := Nat.eq_of_beq_eq_true hc
  rcases DataW.trod_slice hu h with ⟨h1, _⟩ | ⟨a, len, cap, elems, rest, n, _, h1, _, _, hl, hm, hlen, hel, _⟩
  · exact ⟨_, [], h1, by simp [maxLen], .inl ⟨_, rfl, rfl⟩⟩
  · subst h1
    obtain ⟨hs, hb⟩ := hf _ (List.mem_singleton.2 rfl) _ _ _ rfl
    obtain ⟨b, off, spot⟩ := a
    simp only at hs hb
    subst hs
    have each : ∀ i, i < len → ∃ y cs, cs.length = e.size ∧ (∀ j c, cs[j]? = some c → w.cell? ⟨b, off + i * e.size + j, none⟩ = some c) ∧ RepC w (Good w []) e y cs := by
      intro i hi
      have hx := hel i hi
      rw [List.getElem?_eq_getElem (by omega)] at hx
      simp only [Option.bind_eq_some_iff] at hx
      obtain ⟨cs, g1, g2⟩ := hx
      obtain ⟨k1, k2⟩ := cells_list g1
      obtain ⟨y, hy⟩ := (trod_rep (G := Good w []) e).1 E _ _ _ hr hc g2
      refine ⟨y, cs, by rw [k1, hc], fun j c hj => ?_, hy⟩
      have := k2 j c hj
      rw [hc] at this
      rw [Addr.add_lit, Addr.add_lit] at this
      exact this
    have build : ∀ k, k ≤ len → ∃ ys : List e.den, ys.length = k ∧ ∀ i y, ys[i]? = some y → ∃ cs, cs.length = e.size ∧ (∀ j c, cs[j]? = some c → w.cell? ⟨b, off + i * e.size + j, none⟩ = some c) ∧ RepC w (Good w []) e y cs := by
      intro k
      induction k with
      | zero => intro _; exact ⟨[], rfl, fun i y h => by simp at h⟩
      | succ k ih =>
        intro hk
        obtain ⟨ys, h1, h2⟩ := ih (by omega)
        obtain ⟨y, cs, g1, g2, g3⟩ := each k (by omega)
        refine ⟨ys ++ [y], by simp [h1], fun i z hz => ?_⟩
        by_cases hi : i < ys.length
        · rw [List.getElem?_append_left hi] at hz
          exact h2 i z hz
        · have hlt := (List.getElem?_eq_some_iff.1 hz).1
          simp at hlt
          have : i = k := by omega
          subst this
          rw [List.getElem?_append_right (by omega)] at hz
          simp [h1] at hz
          subst hz
          exact ⟨cs, g1, g2, g3⟩
    obtain ⟨ys, h1, h2⟩ := build len (Nat.le_refl _)
    exact ⟨_, ys, rfl, by omega, .inr ⟨b, off, cap, by rw [h1], by omega, by omega, ⟨hb, by simp⟩, h2⟩⟩

def readsW (P : Program) : Ty → TypeId ⊕ (List Field × Nat) → Bool
  | .sl e, .inl T => match P.underlying T with
    | some (.slice E) => readsT P e E && !Nat.beq e.size 0
    | _ => false
  | .unit, .inr ([], _) => true
  | .cons a b, .inr (f :: fs, o) => Nat.beq f.offset o && (Nat.beq (P.cellsOf f.type) a.size && (wrapB P a.agg f.type (readsW P a) && readsW P b (.inr (fs, o + a.size))))
  | .int k, x => readsB P (.int k) x
  | .bool, x => readsB P .bool x
  | .str, x => readsB P .str x
  | _, _ => false

theorem trod_repW : ∀ (t : Ty),
    (∀ T fuel cs x, wrapB P t.agg T (readsW P t) = true → P.cellsOf T = t.size → (∀ v ∈ cs, FitV w v) → DataW.trod enc P w base spare held fuel T cs = some x → ∃ y, RepC w (Good w []) t y cs) ∧
    (∀ fs o cs, readsW P t (.inr (fs, o)) = true → (∀ f ∈ fs, TrodOne enc P w base spare held cs f) → (∀ v ∈ cs, FitV w v) → cs.length = o + t.size → ∃ y, RepC w (Good w []) t y (cs.drop o))
  | .int k => by
    refine ⟨fun T fuel cs x h hc _ ht => (trod_rep (.int k)).1 T fuel cs x ?_ hc ht, fun fs o cs h => by simp [readsW, readsB] at h⟩
    simpa [wrapB, Ty.agg, readsW] using h
  | .bool => by
    refine ⟨fun T fuel cs x h hc _ ht => (trod_rep .bool).1 T fuel cs x ?_ hc ht, fun fs o cs h => by simp [readsW, readsB] at h⟩
    simpa [wrapB, Ty.agg, readsW] using h
  | .str => by
    refine ⟨fun T fuel cs x h hc _ ht => (trod_rep .str).1 T fuel cs x ?_ hc ht, fun fs o cs h => by simp [readsW, readsB] at h⟩
    simpa [wrapB, Ty.agg, readsW] using h
  | .sl e => by
    refine ⟨fun T fuel cs x h hc hf ht => ?_, fun fs o cs h => by simp [readsW] at h⟩
    simp only [wrapB, Ty.agg, readsW] at h
    split at h
    · rename_i E hu
      simp only [Bool.and_eq_true, Bool.not_eq_true'] at h
      obtain ⟨v, ys, h1, h2⟩ := trod_slice_rep hu h.1 (fun hz => by have := h.2; rw [hz] at this; simp at this) hf ht
      exact ⟨ys, v, h1, h2⟩
    · cases h
  | .unit => by
    have hB : ∀ fs o cs, readsW P .unit (.inr (fs, o)) = true → (∀ f ∈ fs, TrodOne enc P w base spare held cs f) → cs.length = o + Ty.unit.size → ∃ y, RepC w (Good w []) .unit y (cs.drop o) := by
      intro fs o cs h _ hl
      refine ⟨(), ?_⟩
      show cs.drop o = []
      rw [List.drop_eq_nil_iff]
      simp [Ty.size] at hl
      omega
    refine ⟨fun T fuel cs x h hc _ ht => ?_, fun fs o cs h1 h2 _ h3 => hB fs o cs h1 h2 h3⟩
    simp only [wrapB, Ty.agg] at h
    split at h
    · rename_i fs hu
      obtain ⟨h1, h2⟩ := trod_fields hu ht
      simpa using hB _ _ cs h h2 (by rw [h1, hc]; simp)
    · cases h
  | .cons a b => by
    obtain ⟨ha, _⟩ := trod_repW a
    obtain ⟨_, hb⟩ := trod_repW b
    have hB : ∀ fs o cs, readsW P (.cons a b) (.inr (fs, o)) = true → (∀ f ∈ fs, TrodOne enc P w base spare held cs f) → (∀ v ∈ cs, FitV w v) → cs.length = o + (Ty.cons a b).size → ∃ y, RepC w (Good w []) (.cons a b) y (cs.drop o) := by
      intro fs o cs h hf hfit hl
      match fs, h with
      | [], h => simp [readsW] at h
      | f :: fs, h =>
        simp only [readsW, Bool.and_eq_true] at h
        obtain ⟨h1, h2, h3, h4⟩ := h
        have h1 := Nat.eq_of_beq_eq_true h1
        have h2 := Nat.eq_of_beq_eq_true h2
        simp only [Ty.size] at hl
        obtain ⟨n, x, hx⟩ := hf f (List.mem_cons_self ..)
        rw [h1, h2] at hx
        obtain ⟨y1, hy1⟩ := ha _ _ _ _ h3 h2 (fun v hv => hfit v (List.mem_of_mem_drop (List.mem_of_mem_take hv))) hx
        obtain ⟨y2, hy2⟩ := hb fs (o + a.size) cs h4 (fun g hg => hf g (List.mem_cons_of_mem _ hg)) hfit (by omega)
        refine ⟨(y1, y2), _, _, ?_, hy1, hy2⟩
        rw [← List.drop_drop]
        exact (List.take_append_drop _ _).symm
    refine ⟨fun T fuel cs x h hc hfit ht => ?_, hB⟩
    simp only [wrapB, Ty.agg] at h
    split at h
    · rename_i fs hu
      obtain ⟨h1, h2⟩ := trod_fields hu ht
      simpa using hB _ _ cs h h2 hfit (by rw [h1, hc]; simp)
    · cases h

def argB (P : Program) : Ty → TypeId → Bool
  | .sl e, T => match P.underlying T with
    | some (.slice E) => readsT P e E && !Nat.beq e.size 0
    | _ => false
  | t, T => readsT P t T || (t.agg && (Nat.beq (P.cellsOf T) t.size && wrapB P true T (readsW P t)))

theorem okWide_agg {r : Reach} {b0 : Nat} {T : TypeId} {v : Value} {fs : Array Field} (hu : P.underlying T = some (.struct fs)) (h : Value.okWide P w r b0 T v) : ∃ cs, v = .agg cs := by
  simp only [Value.okWide, hu] at h
  obtain ⟨cs, hv, _⟩ := h
  exact ⟨cs, hv⟩

theorem trod_flat_arg {r : Reach} {b0 : Nat} {t : Ty} {T : TypeId} {v : Value} {d : DataW H} {ps : List MemPlace} (hB : readsT P t T = true) (hv : Value.okWide P w r b0 T v) (h : DataW.Trod enc P w base spare held T v d ps) :
    ∃ x : t.den, RepB w G (toAtom t x) v := by
  simp only [readsT, Bool.and_eq_true] at hB
  obtain ⟨hc, hB⟩ := hB
  have hc := Nat.eq_of_beq_eq_true hc
  obtain ⟨fuel, hf⟩ := h
  obtain ⟨y, hy⟩ := (trod_rep (G := G) t).1 T fuel _ _ hB hc hf
  refine ⟨y, ?_⟩
  cases t with
  | int k =>
    have hu := isIntB_eq (by simpa [wrapB, Ty.agg, readsB] using hB)
    obtain ⟨n, rfl⟩ := okWide_int hu hv
    obtain ⟨h1, h2⟩ := hy
    simp [Value.cells] at h1
    subst h1
    exact ⟨rfl, h2⟩
  | bool =>
    have hu := isBoolB_eq (by simpa [wrapB, Ty.agg, readsB] using hB)
    obtain ⟨b, rfl⟩ := okWide_bool hu hv
    have h1 : ([.bool b] : List Value) = [.bool y] := hy
    cases h1
    exact ⟨rfl, trivial⟩
  | str =>
    have hu := isStrB_eq (by simpa [wrapB, Ty.agg, readsB] using hB)
    obtain ⟨s, rfl⟩ := okWide_string hu hv
    obtain ⟨h1, h2⟩ := hy
    simp [Value.cells] at h1
    subst h1
    exact ⟨rfl, h2⟩
  | sl e => simp [wrapB, Ty.agg, readsB] at hB
  | unit =>
    simp only [wrapB, Ty.agg] at hB
    split at hB
    · rename_i fs hu
      obtain ⟨cs, rfl⟩ := okWide_agg hu hv
      exact ⟨cs.toList, by simp, hy⟩
    · cases hB
  | cons a b =>
    simp only [wrapB, Ty.agg] at hB
    split at hB
    · rename_i fs hu
      obtain ⟨cs, rfl⟩ := okWide_agg hu hv
      exact ⟨cs.toList, by simp, hy⟩
    · cases hB

theorem has_spot {r : Reach} {b0 : Nat} {T E : TypeId} {a : Addr} {len cap : Nat} (hu : P.underlying T = some (.slice E)) (hv : Value.okWide P w r b0 T (.slice (some a) len cap)) : a.spot = none ∧ a.block < w.heap.size := by
  simp only [Value.okWide, hu, Cell.okWide, Cell.ok] at hv
  obtain ⟨_, _, hh⟩ := hv
  obtain ⟨_, hs, row, cells, hsh, _⟩ := hh
  refine ⟨hs, ?_⟩
  rcases Nat.lt_or_ge a.block w.heap.size with hlt | hge
  · exact hlt
  · simp [World.shape?, Array.getElem?_eq_none hge] at hsh

theorem trod_arg {r : Reach} {b0 : Nat} {t : Ty} {T : TypeId} {v : Value} {d : DataW H} {ps : List MemPlace} (hB : argB P t T = true) (hv : Value.okWide P w r b0 T v) (h : DataW.Trod enc P w base spare held T v d ps) :
    ∃ x : t.den, RepB w (Good w []) (toAtom t x) v := by
  unfold argB at hB
  split at hB
  · rename_i e
    split at hB
    · rename_i E hu
      simp only [Bool.and_eq_true, Bool.not_eq_true'] at hB
      obtain ⟨a0, len, cap, rfl⟩ := okWide_slice hu hv
      obtain ⟨fuel, hf⟩ := h
      have hfit : ∀ u ∈ (Value.slice a0 len cap).cells.toList, FitV w u := fun u hu' => by
        simp [Value.cells] at hu'
        subst hu'
        rintro a l c he
        cases he
        exact has_spot hu hv
      obtain ⟨u, ys, h1, h2⟩ := trod_slice_rep hu hB.1 (fun hz => by have := hB.2; rw [hz] at this; simp at this) hfit hf
      simp [Value.cells] at h1
      subst h1
      exact ⟨ys, h2⟩
    · cases hB
  · rename_i hns
    rw [Bool.or_eq_true] at hB
    rcases hB with hB | hB
    · exact trod_flat_arg hB hv h
    · simp only [Bool.and_eq_true] at hB
      obtain ⟨ha, hc, hB⟩ := hB
      have hc := Nat.eq_of_beq_eq_true hc
      obtain ⟨fuel, hf⟩ := h
      have hB' := hB
      unfold wrapB at hB
      simp only at hB
      split at hB
      · rename_i fs hu
        simp only [Value.okWide, hu] at hv
        obtain ⟨cs, rfl, _, hrow⟩ := hv
        obtain ⟨y, hy⟩ := (trod_repW t).1 T fuel _ _ (by rw [ha]; exact hB') hc (row_fit hrow) (by simpa [Value.cells] using hf)
        refine ⟨y, ?_⟩
        cases t with
        | cons a b => exact ⟨cs.toList, by simp, hy⟩
        | unit => exact ⟨cs.toList, by simp, hy⟩
        | _ => cases ha
      · cases hB

theorem trod_args {r : Reach} {b0 : Nat} : ∀ {ts : List Ty} {Ts : List TypeId} {vs : List Value} {ds : List (DataW H)} {ps : List MemPlace}, ts.length = Ts.length → (∀ (i : Nat) (t : Ty) (T : TypeId), ts[i]? = some t → Ts[i]? = some T → argB P t T = true) →
    (∀ (j : Nat) T v, Ts[j]? = some T → vs[j]? = some v → Value.okWide P w r b0 T v) → DataW.TrodAll enc P w base spare held Ts vs ds ps →
    ∃ (x : sigDen (ts.map AT.v)) (bss : List (List Nat)), bss.flatten = [] ∧ ArgsRep w (Good w []) (ts.map AT.v) x vs bss
  | [], [], [], [], _, _, _, _, _ => ⟨(), [], rfl, rfl, rfl⟩
  | t :: ts, T :: Ts, v :: vs, d :: ds, ps, hl, hB, hv, h => by
    obtain ⟨p, q, h1, h2, _⟩ := h
    obtain ⟨x, hx⟩ := trod_arg (hB 0 t T rfl rfl) (hv 0 T v rfl rfl) h1
    obtain ⟨y, bss, hb, hy⟩ := trod_args (by simpa using hl) (fun i t T h1 h2 => hB (i + 1) t T (by simpa using h1) (by simpa using h2)) (fun j T v h1 h2 => hv (j + 1) T v (by simpa using h1) (by simpa using h2)) h2
    exact ⟨(x, y), [] :: bss, by simpa using hb, v, vs, [], bss, rfl, rfl, ⟨rfl, hx⟩, hy⟩
  | [], _ :: _, _, _, _, hl, _, _, _ => by simp at hl
  | _ :: _, [], _, _, _, hl, _, _, _ => by simp at hl
end
end Go.Am

/- The abstract machine, part 23: from a law's contract to its statement. -/
namespace Go.Am
open Go.ChangeShapes Go.WideShapes Go.ChangeAt Go.RowKit
set_option linter.unusedVariables false
set_option linter.unusedSimpArgs false

section
variable {H : Type} {enc : TypeId × Value → H} {P : Program} {W W' : World}

theorem trodAll_below (hl : laidOutB P = true) (hb : Below W.heap.size W W') : ∀ {ts : List TypeId} {vs : List Value} {ds : List (DataW H)} {ps : List MemPlace}, (∀ t ∈ ts, P.readableRec t = true ∧ t < P.types.size) →
    DataW.TrodAll enc P W 0 (fun _ => true) true ts vs ds ps → (∀ x ∈ ps, x.block < W.heap.size) → DataW.TrodAll enc P W' 0 (fun b => decide (b < W.heap.size)) true ts vs ds ps
  | [], [], [], _, _, h, _ => h
  | t :: ts, v :: vs, d :: ds, ps, hr, ⟨p, q, h1, h2, e⟩, hlt => by
    obtain ⟨r1, r2⟩ := hr t (List.mem_cons_self ..)
    refine ⟨p, q, Below.trod hl r1 r2 h1 hb (fun x hx => hlt x (by rw [e]; exact List.mem_append_left _ hx)), trodAll_below hl hb (fun t ht => hr t (List.mem_cons_of_mem _ ht)) h2 (fun x hx => hlt x (by rw [e]; exact List.mem_append_right _ hx)), e⟩
  | [], [], _ :: _, _, _, h, _ => h.elim
  | [], _ :: _, _, _, _, h, _ => h.elim
  | _ :: _, [], _, _, _, h, _ => h.elim
  | _ :: _, _ :: _, [], _, _, h, _ => h.elim

theorem trodAll_len {base : Nat} {sp : Nat → Bool} {held : Bool} : ∀ {ts : List TypeId} {vs : List Value} {ds : List (DataW H)} {ps : List MemPlace}, DataW.TrodAll enc P W base sp held ts vs ds ps → ds.length = ts.length ∧ vs.length = ts.length
  | [], [], [], _, h => ⟨rfl, rfl⟩
  | t :: ts, v :: vs, d :: ds, ps, ⟨p, q, h1, h2, e⟩ => by obtain ⟨a, b⟩ := trodAll_len h2; exact ⟨by simp [a], by simp [b]⟩
  | [], [], _ :: _, _, h => h.elim
  | [], _ :: _, _, _, h => h.elim
  | _ :: _, [], _, _, h => h.elim
  | _ :: _, _ :: _, [], _, h => h.elim
end

def argsB (P : Program) : List Ty → List TypeId → Bool
  | [], [] => true
  | t :: ts, T :: Ts => argB P t T && argsB P ts Ts
  | _, _ => false

theorem argsB_spec {P : Program} : ∀ {ts : List Ty} {Ts : List TypeId}, argsB P ts Ts = true → ts.length = Ts.length ∧ ∀ (i : Nat) (t : Ty) (T : TypeId), ts[i]? = some t → Ts[i]? = some T → argB P t T = true
  | [], [], _ => ⟨rfl, fun i t T h => by simp at h⟩
  | t :: ts, T :: Ts, h => by
    simp only [argsB, Bool.and_eq_true] at h
    obtain ⟨h1, h2⟩ := argsB_spec h.2
    refine ⟨by simp [h1], fun i u U hu hU => ?_⟩
    cases i with
    | zero => simp at hu hU; subst hu hU; exact h.1
    | succ i => exact h2 i u U (by simpa using hu) (by simpa using hU)
  | [], _ :: _, h => by cases h
  | _ :: _, [], h => by cases h

def lawSpec (ts : List Ty) : Spec := { sig := ts.map AT.v, pre := fun _ => True, res := fun _ => [⟨.bool, true⟩] }

theorem law_calls {H : Type} {enc : TypeId × Value → H} {C : Checked} {f : FuncId} {fn : Func} {s : ChangeSpec} {apart fresh handsOn : Bool}
    (hl : laidOutB C.prog = true) (hr : (fn.params.toList.all fun t => C.prog.readableRec t && Nat.blt t C.prog.types.size) = true)
    (ts : List Ty) (hts : argsB C.prog ts fn.params.toList = true) {tb : TypeId} (hres : fn.resultTypes = #[tb]) (htb : C.prog.underlying tb = some .bool) (hvars : s.vars = [])
    (hs : ∀ ds : List (DataW H), ds.length = fn.params.toList.length → (s.fn H (ds ++ [])).results = [.lit (.bool true)] ∧ (s.fn H (ds ++ [])).args = ds ∧ (s.fn H (ds ++ [])).vars = [])
    (hcon : Contract C.prog f (lawSpec ts)) {W : World} (hg : GInv W) {base : Nat} {args : Array Value} {ds gs : List (DataW H)} {before : List MemPlace}
    (hval : ∀ (j : Nat) t v, fn.params[j]? = some t → args[j]? = some v → Value.okWide C.prog W .any base t v)
    (hW : DataW.Whole enc C.prog fn.params.toList s.vars apart W args.toList ds gs before) :
    Calls C.prog f args W fun e W' => ∃ v, e = .returned v ∧ s.post enc C.prog fn apart fresh handsOn false W args v W' := by
  have hW' := hW
  obtain ⟨p, q, hA, hV, hbef, hfz, hnd⟩ := hW
  rw [hvars] at hV
  obtain ⟨rfl, rfl⟩ := trodVars_none hV
  obtain ⟨hlen, hall⟩ := argsB_spec hts
  obtain ⟨x, bss, hb0, hx⟩ := trod_args (r := .any) (b0 := base) hlen hall (fun j T v h1 h2 => hval j T v (by simpa using h1) (by simpa using h2)) hA
  have hcall := hcon W (Good W []) (Good W []) x args.toList bss (by rw [hb0]; exact ⟨hg, hg.size, fun b hb => by cases hb⟩) (by rw [hb0]; exact fun b hb => hb) (fun b hb => hb) trivial hx (by rw [hb0]; exact List.nodup_nil)
  rw [hb0] at hcall
  refine hcall.mono ?_
  rintro e W' ⟨rs, ubs, rbs, F, rfl, hk, hrr, _⟩
  have hrs : rs = [.bool true] := by
    obtain ⟨v, s', b, bs, h1, h2, ⟨cs, h3, h4⟩, h5⟩ := hrr
    obtain ⟨h3, _⟩ := h3
    simp only [IsVal] at h4
    rw [h3] at h4
    cases h4
    rw [h1, h5.1]
  subst hrs
  have hbel := hk.below
  obtain ⟨g1, g2, g3⟩ := hs ds (trodAll_len hA).1
  have hlt : ∀ y ∈ p, y.block < W.heap.size := fun y hy => hW'.lt y (by rw [hbef]; exact List.mem_append_left _ hy)
  have hr' : ∀ t ∈ fn.params.toList, C.prog.readableRec t = true ∧ t < C.prog.types.size := fun t ht => by
    have := List.all_eq_true.1 hr t ht
    simp only [Bool.and_eq_true] at this
    exact ⟨this.1, Nat.le_of_ble_eq_true this.2⟩
  refine ⟨.bool true, rfl, ds, [], before, [], p, [], hW', ?_, ?_, ?_, hbel.frame _, fun h => by cases h⟩
  · rw [hres, g1]
    exact trodAll_mk1 (shut_bool htb true)
  · rw [g2]
    exact trodAll_below hl hbel hr' hA hlt
  · rw [hvars, g3]
    rfl

theorem law_lifted_laid {H : Type} {enc : TypeId × Value → H} {a : Assume} {C : Checked} {os : Os} {f : FuncId} {fn : Func} {s : ChangeSpec} {conds : List PathCond} {apart fresh handsOn : Bool} {laid : List (String × DataW Unit)}
    (own : ownKnob C.prog.godebug = none) (started : os.Started) (noInit : C.prog.inits.idxOf? f = none) (hfn : C.prog.funcs[f]? = some fn)
    (witness : ∃ (w : World) (tape : Tape) (i : Input), w.os = os ∧ (w.forCall tape i).Shaped C.prog ∧ i.vars = [] ∧ Input.okWide C.prog (w.forCall tape i) .any w.heap.size f i ∧
      ((s.pre enc C.prog fn conds apart (w.forCall tape i).memory i.args ∧ laidMetH C.prog laid (w.forCall tape i).memory) ∧ sizedMet enc C.prog fn (OpenSpec.ofChange s) apart (w.forCall tape i).memory i.args) ∧ a.holds C.prog (lone (Frame.enter C.prog f i.args .normal) [] (w.forCall tape i)))
    (hl : laidOutB C.prog = true) (hr : (fn.params.toList.all fun t => C.prog.readableRec t && Nat.blt t C.prog.types.size) = true)
    (ts : List Ty) (hts : argsB C.prog ts fn.params.toList = true) {tb : TypeId} (hres : fn.resultTypes = #[tb]) (htb : C.prog.underlying tb = some .bool) (hvars : s.vars = [])
    (hs : ∀ ds : List (DataW H), ds.length = fn.params.toList.length → (s.fn H (ds ++ [])).results = [.lit (.bool true)] ∧ (s.fn H (ds ++ [])).args = ds ∧ (s.fn H (ds ++ [])).vars = [])
    (hg : ∀ W : World, W.ShapedOpen C.prog → laidMetH C.prog laid W → GInv W) (hcon : Contract C.prog f (lawSpec ts)) :
    ReturnsInHanded a C os f .any (fun w args => (s.pre enc C.prog fn conds apart w args ∧ laidMetH C.prog laid w) ∧ sizedMet enc C.prog fn (OpenSpec.ofChange s) apart w args) (s.post enc C.prog fn apart fresh handsOn false) := by
  refine returnsInHanded_of_calls own started noInit witness ?_
  intro w tape i _ hsh _ hok hpre hholds
  obtain ⟨_, _, _, fn', hfn', _, _, _, _, hval⟩ := hok
  have e : fn' = fn := Option.some.inj (hfn'.symm.trans hfn)
  subst e
  obtain ⟨⟨⟨ds, gs, before, hw, hc⟩, hx⟩, hz⟩ := hpre
  have hw' := DataW.Whole.of_heap (w' := w.forCall tape i) (by rfl) hw
  have hx' : laidMetH C.prog laid (w.forCall tape i) := hx.of_heap (by rfl)
  refine (law_calls (fresh := fresh) (handsOn := handsOn) hl hr ts hts hres htb hvars hs hcon (hg _ hsh hx') hval hw').mono fun e W' ⟨v, he, hp⟩ => ?_
  subst he
  exact ChangeSpec.post_blind hp
end Go.Am

/- The abstract machine, part 24: cut points, runs between them with nil slices taken as owned ones. -/
namespace Go.Am
set_option linter.unusedVariables false
set_option linter.unusedSimpArgs false

def bodyOf (f : Func) : Code := match f.body with | some c => c | none => .skip

def firstRegion : Code → Nat
  | .region id _ _ => id
  | .seq x _ => firstRegion x
  | .block _ c => firstRegion c
  | .loop c => firstRegion c
  | .scope c => firstRegion c
  | _ => 999999

def orL : Option (List Item) → Option (List Item) → Option (List Item)
  | some k, _ => some k
  | none, x => x

def findC (id : Nat) : Code → List Item → Option (List Item)
  | .seq x y, k => orL (findC id x (.code y :: k)) (findC id y k)
  | .block b c, k => findC id c (.inBlock b :: k)
  | .loop c, k => match Nat.beq (firstRegion c) id with
    | true => some (.code c :: .inLoop c :: k)
    | false => findC id c (.inLoop c :: k)
  | .cond _ x y, k => orL (findC id x k) (findC id y k)
  | .region r ops d, k => match Nat.beq r id with
    | true => some (.code (.region r ops d) :: k)
    | false => none
  | _, _ => none

def cutAt (c : Code) (id : Nat) : List Item := match findC id c [] with | some k => k | none => []

def nilA (t : Nat) (ty : Ty) (EL : Env × Heap) : Env × Heap :=
  match EL.1.get t with
  | .a (.val (.slice none _ _)) => (EL.1.set t (.a (.osl EL.2.length none)), EL.2 ++ [some ⟨ty, [], !ty.flat, none, none⟩])
  | _ => EL

def nilsA : List (Nat × Ty) → Env × Heap → Env × Heap
  | [], EL => EL
  | (t, ty) :: r, EL => nilsA r (nilA t ty EL)

def borUp1 (A : Arr) : Arr :=
  match A.t.flat, A.bor with
  | false, false => match A.ls, A.sm with
    | none, none => match A.xs.isEmpty with
      | true => ⟨A.t, A.xs, true, none, none⟩
      | false => A
    | _, _ => A
  | _, _ => A

def borUp (L : Heap) : Heap := L.map fun o => match o with | some A => some (borUp1 A) | none => none

theorem hget_borUp : ∀ (L : Heap) (s : Nat), hget (borUp L) s = (hget L s).map borUp1
  | [], _ => rfl
  | some B :: L, 0 => rfl
  | none :: L, 0 => rfl
  | o :: L, s + 1 => hget_borUp L s

theorem borUp1_cases (A : Arr) : borUp1 A = A ∨ (A.xs = [] ∧ A.ls = none ∧ A.sm = none ∧ borUp1 A = ⟨A.t, A.xs, true, none, none⟩) := by
  unfold borUp1
  split
  · split
    · split
      · rename_i h1 h2 _ h3
        exact .inr ⟨List.isEmpty_iff.1 h3, h1, h2, rfl⟩
      · exact .inl rfl
    · exact .inl rfl
  · exact .inl rfl

section
variable {P : Program} {n : Nat} {K : Ctx} {G : Nat → Prop} {w0 w : World} {a : Act} {V : Nat → Value} {own : Nat → List Nat} {f : FuncId} {R : Ending → World → Prop} {E : Env} {L : Heap}

theorem RelV.reset (hR : RelV n K w0 G w a E L V own) {t : Nat} {p : PV} (hp : RepP w0 G L V p (a.tmps.getD t undef)) : RelV n K w0 G w a (E.set t p) L V own :=
  ⟨hR.glob, hR.kept, hR.size, hR.defers, hR.glt, hR.gref, hR.gsub, hR.gold, hR.gup, hR.heap, hR.good, hR.nodup, hR.apart, hR.boxs, hR.small, fun i => by
    rw [Env.get_set]
    split
    · rename_i h; subst h; exact hp
    · exact hR.env i⟩

theorem nilA_spec (hR : RelV n K w0 G w a E L V own) (t : Nat) (ty : Ty) : ∃ V' own', RelV n K w0 G w a (nilA t ty (E, L)).1 (nilA t ty (E, L)).2 V' own' := by
  unfold nilA
  split
  · rename_i m c hg
    have hv := hR.env t
    simp only at hg
    rw [hg] at hv
    obtain ⟨hv, h0, h1⟩ := hv
    subst h0 h1
    have hE : EntC w0 G w ⟨ty, [], !ty.flat, none, none⟩ (.slice none 0 0) [] := ⟨by simp [maxLen], .inl ⟨_, rfl, rfl, rfl⟩⟩
    have hR' := hR.grow hE List.nodup_nil (fun b hb => by cases hb) (fun r A hA b hb hm => by cases hm)
    refine ⟨_, _, hR'.reset ?_⟩
    rw [hv]
    exact repA_new (w0 := w0) (G := G) (u := w0) (G' := G) (w := w) hE
  · exact ⟨V, own, hR⟩

theorem nilsA_spec : ∀ {l : List (Nat × Ty)} {E : Env} {L : Heap} {V : Nat → Value} {own : Nat → List Nat}, RelV n K w0 G w a E L V own → ∃ V' own', RelV n K w0 G w a (nilsA l (E, L)).1 (nilsA l (E, L)).2 V' own'
  | [], E, L, V, own, hR => ⟨V, own, hR⟩
  | (t, ty) :: r, E, L, V, own, hR => by
    obtain ⟨V', own', h⟩ := nilA_spec hR t ty
    show ∃ V' own', RelV n K w0 G w a (nilsA r (nilA t ty (E, L))).1 (nilsA r (nilA t ty (E, L))).2 V' own'
    generalize nilA t ty (E, L) = EL at h
    obtain ⟨E1, L1⟩ := EL
    exact nilsA_spec h

theorem RelV.borUp (hR : RelV n K w0 G w a E L V own) : RelV n K w0 G w a E (Am.borUp L) V own := by
  have hback : ∀ s B, hget (Am.borUp L) s = some B → ∃ C, hget L s = some C ∧ B = borUp1 C := fun s B h => by
    rw [hget_borUp] at h
    cases hC : hget L s with
    | none => rw [hC] at h; cases h
    | some C => rw [hC] at h; cases h; exact ⟨C, rfl, rfl⟩
  have ht : ∀ C, (borUp1 C).t = C.t := fun C => by rcases borUp1_cases C with h | ⟨_, _, _, h⟩ <;> rw [h]
  have hl : ∀ C, (borUp1 C).xs.length = C.xs.length := fun C => by rcases borUp1_cases C with h | ⟨_, _, _, h⟩ <;> rw [h]
  have hls : ∀ C, (borUp1 C).ls = C.ls := fun C => by rcases borUp1_cases C with h | ⟨_, h2, _, h⟩ <;> rw [h]; exact h2.symm
  have hag : ∀ s, Agree L V (Am.borUp L) V s := fun s => ⟨rfl, fun A hA => ⟨borUp1 A, by rw [hget_borUp, hA]; rfl, ht A, hl A, fun ls h => ⟨ls, by rw [hls]; exact h⟩⟩⟩
  refine ⟨hR.glob, hR.kept, hR.size, hR.defers, hR.glt, hR.gref, hR.gsub, hR.gold, hR.gup, ?_, ?_, ?_, ?_, ?_, ?_, fun i => ?_⟩
  · intro s B hs
    obtain ⟨C, h2, rfl⟩ := hback s B hs
    have h := hR.heap s C h2
    rcases borUp1_cases C with e | ⟨e1, e2, e3, e⟩
    · rw [e]; exact h
    · rw [e]
      obtain ⟨t, xs, bor, ls, sm⟩ := C
      simp only at e1
      subst e1
      refine ⟨h.1, ?_⟩
      rcases h.2 with h | ⟨b, off, cap, cur, ty, fz, bss, h1, h2, h3, h4, h5, h6, h7, h8, h9⟩
      · exact .inl h
      · exact .inr ⟨b, off, cap, cur, ty, fz, bss, h1, h2, h3, h4, h5, h6, h7, h8, fun i x bi hx _ => by simp at hx⟩
  · intro s B hs
    obtain ⟨C, h2, rfl⟩ := hback s B hs
    exact hR.good s C h2
  · intro s B hs
    obtain ⟨C, h2, rfl⟩ := hback s B hs
    exact hR.nodup s C h2
  · intro s u B D hs hu hsu
    obtain ⟨C, h2, rfl⟩ := hback s B hs
    obtain ⟨F, h4, rfl⟩ := hback u D hu
    exact hR.apart s u C F h2 h4 hsu
  · intro s B ls hs hl'
    obtain ⟨C, h2, rfl⟩ := hback s B hs
    rw [hls] at hl'
    rw [ht]
    exact (hR.boxs s C ls h2 hl').agree fun u _ => hag u
  · intro s B q hs hq
    obtain ⟨C, h2, rfl⟩ := hback s B hs
    rcases borUp1_cases C with e | ⟨_, _, _, e⟩
    · rw [e] at hq ⊢; exact hR.small s C q h2 hq
    · rw [e] at hq; cases hq
  · exact repP_agree (hR.env i) fun u _ => hag u

def runN (tab : List TI) (ext : Ext) (wr : Bool) (n : Nat) (stops : List Nat) (m : Nat) (pins : List Nat) (nils : List (Nat × Ty)) (ks : List Nat) (rs : List Nat) (path : List Bool) (k : List Item) (E : Env) (L : Heap) : Option (List Item × Env × Heap × List Prop) :=
  match runA tab ext wr n stops m true k ⟨path, [], E, L, [], pins⟩ with
  | some (.stop k' S) => match nilsA nils (S.E, S.L) with
    | (E1, L1) => match nodupB rs && envIn rs (Am.keepE E1 ks) && heapIn rs (borUp L1) rs && decide (S.pins = pins) with
      | true => some (k', renE rs (Am.keepE E1 ks), pickL rs (borUp L1), S.cs)
      | false => none
  | _ => none

theorem AtV.runN {tab : List TI} {ext : Ext} (hT : TabOk P tab) (hX : ExtOk P ext) (hm : P.follows .mixedOrders = true) {wr : Bool} {stops : List Nat} {m : Nat} {q : Nat → Value} {pins : List Nat} {nils : List (Nat × Ty)} {ks : List Nat} {rs : List Nat} {path : List Bool} {k k' : List Item} {E' : Env} {L' : Heap} {cs : List Prop}
    (h : Am.runN tab ext wr n stops m pins nils ks rs path k E L = some (k', E', L', cs)) (hc : All cs) (hk : AtV P f R n K q pins k' E' L') : AtV P f R n K q pins k E L := by
  intro a w w0 G V own hR hq
  unfold Am.runN at h
  split at h
  · rename_i k1 S hr
    split at h
    rename_i E1 L1 hnil
    split at h
    · rename_i hb
      simp only [Bool.and_eq_true, decide_eq_true_eq] at hb
      obtain ⟨⟨⟨hn, hb⟩, hh⟩, hp⟩ := hb
      cases h
      refine runA_run hT hX hm hr hc hR ⟨fun t d ht => by simp [lookB] at ht, hq⟩ ?_
      intro a' w' w1 G1 V' own' hR' hq'
      rw [hp] at hq'
      obtain ⟨V2, own2, hR2⟩ := nilsA_spec (l := nils) hR'
      rw [hnil] at hR2
      exact hk _ _ _ _ _ _ ((hR2.borUp.keepE ks).renum hn hb hh) hq'
    · cases h
  · cases h
end
end Go.Am

/- The abstract machine, part 25: a contract, said otherwise. -/
namespace Go.Am
set_option linter.unusedVariables false

instance (k : IntKind) (n : Int) : Decidable (InR k n) := inferInstanceAs (Decidable (k.min ≤ n ∧ n ≤ k.max))

theorem ArgsRep.wf {w : World} {G : Nat → Prop} {sig : List AT} {x : sigDen sig} {vs : List Value} {bss : List (List Nat)} (h : ArgsRep w G sig x vs bss) : wfSig sig x := args_wf h

theorem Contract.says {P : Program} {f : FuncId} {sig : List AT} {pre pre' : sigDen sig → Prop} {upd : sigDen sig → List (Option Lst)} {res res' : sigDen sig → List Dyn} {kds : List RK}
    (hc : Contract P f { sig := sig, pre := pre, upd := upd, res := res, kds := kds }) (h : ∀ x, pre' x → wfSig sig x → pre x ∧ res x = res' x) : Contract P f { sig := sig, pre := pre', upd := upd, res := res', kds := kds } := by
  intro w G G0 x vs bss hgo hG hG0 hp ha hn
  obtain ⟨h1, h2⟩ := h x hp (argsK_wf ha)
  have := hc w G G0 x vs bss hgo hG hG0 h1 ha hn
  simp only at this ⊢
  rw [h2] at this
  exact this
end Go.Am

/- The abstract machine, part 26: small laws about trees, for the plain laws. -/
namespace Go.Am
set_option linter.unusedVariables false
set_option linter.unusedSimpArgs false

theorem bytes_eq (a b : ByteArray) : (ByteArray.toList a == ByteArray.toList b) = true ↔ a = b := by
  rw [← beq_toListBytes]
  obtain ⟨⟨x⟩⟩ := a
  obtain ⟨⟨y⟩⟩ := b
  show ((⟨x⟩ : Array UInt8) == ⟨y⟩) = true ↔ _
  simp

theorem getD_lt {α : Type} (xs : List α) (i : Nat) (d : α) (h : i < xs.length) : xs.getD i d = xs[i] := by
  rw [List.getD_eq_getElem?_getD, List.getElem?_eq_getElem h]; rfl

theorem drop_get {α : Type} (xs : List α) (i : Nat) (d : α) (h : i < xs.length) : xs.drop i = xs.getD i d :: xs.drop (i + 1) := by
  rw [getD_lt xs i d h, ← List.drop_eq_getElem_cons h]

theorem i64_iff (n : Int) : InR .i64 n ↔ -9223372036854775808 ≤ n ∧ n ≤ 9223372036854775807 := by
  have e1 : (IntKind.i64).min = -9223372036854775808 := by decide
  have e2 : (IntKind.i64).max = 9223372036854775807 := by decide
  simp only [InR, e1, e2]

theorem u8_iff (n : Int) : InR .u8 n ↔ 0 ≤ n ∧ n ≤ 255 := by
  have e1 : (IntKind.u8).min = 0 := by decide
  have e2 : (IntKind.u8).max = 255 := by decide
  simp only [InR, e1, e2]

end Go.Am

/- The abstract machine, part 28: laws for loops over lists, and for the bytes of strings. -/
namespace Go.Am
set_option linter.unusedVariables false
set_option linter.unusedSimpArgs false

theorem mem_getD {α : Type} (xs : List α) (i : Nat) (d : α) (h : i < xs.length) : xs.getD i d ∈ xs := by
  rw [getD_lt _ _ _ h]; exact List.getElem_mem _

end Go.Am

/- The abstract machine, part 29: from what a library function is known to do to its contract. -/
namespace Go.Am
set_option linter.unusedVariables false
set_option linter.unusedSimpArgs false
open Go.RowKit (Below)

theorem args_noOwn {w : World} {G : Nat → Prop} : ∀ {sig : List AT} {x : sigDen sig} {vs : List Value} {bss : List (List Nat)}, noOwn sig = true → ArgsRep w G sig x vs bss → bss.flatten = [] ∧ ownVals sig vs = []
  | [], _, vs, bss, _, ⟨h1, h2⟩ => by subst h1 h2; exact ⟨rfl, rfl⟩
  | .v t :: r, x, vs, bss, h, ⟨v, s, b, bs, h1, h2, h3, h4⟩ => by
    subst h1 h2
    obtain ⟨e1, e2⟩ := args_noOwn (sig := r) h h4
    exact ⟨by rw [List.flatten_cons, h3.1, e1]; rfl, e2⟩
  | .p t :: r, x, vs, bss, h, ⟨v, s, b, bs, h1, h2, h3, h4⟩ => by
    subst h1 h2
    obtain ⟨e1, e2⟩ := args_noOwn (sig := r) h h4
    exact ⟨by rw [List.flatten_cons, h3.1, e1]; rfl, e2⟩
  | .fn f c :: r, x, vs, bss, h, ⟨v, s, b, bs, h1, h2, h3, h4⟩ => by
    subst h1 h2
    obtain ⟨e1, e2⟩ := args_noOwn (sig := r) h h4
    exact ⟨by rw [List.flatten_cons, h3.1, e1]; rfl, e2⟩
  | .own t :: r, _, _, _, h, _ => by cases h
  | .pb t :: r, _, _, _, h, _ => by cases h
  | .po t :: r, _, _, _, h, _ => by cases h
  | .sv t :: r, _, _, _, h, _ => by cases h

theorem plain_noOwn : ∀ {sig : List AT}, noOwn sig = true → plainSig sig = true
  | [], _ => rfl
  | .v t :: r, h => plain_noOwn (sig := r) h
  | .p t :: r, h => plain_noOwn (sig := r) h
  | .fn f c :: r, h => plain_noOwn (sig := r) h
  | .own t :: r, h => by cases h
  | .pb t :: r, h => by cases h
  | .po t :: r, h => by cases h
  | .sv t :: r, h => by cases h

theorem own_of_wf {w : World} : ∀ {t : Ty} {x : t.den}, t.flat = true → Wf t x → OwnC w t x (fcells t x) []
  | .int _, _, _, h => ⟨rfl, h, rfl⟩
  | .bool, _, _, _ => ⟨rfl, rfl⟩
  | .str, _, _, h => ⟨rfl, h, rfl⟩
  | .unit, _, _, _ => ⟨rfl, rfl⟩
  | .cons a b, x, hf, h => by
    simp only [Ty.flat, Bool.and_eq_true] at hf
    exact ⟨_, _, [], [], rfl, rfl, own_of_wf hf.1 h.1, own_of_wf hf.2 h.2⟩
  | .sl _, _, h, _ => by cases h

theorem isVal_valOf {w : World} {t : Ty} {x : t.den} {cs : List Value} {bs : List Nat} (h : OwnC w t x cs bs) : IsVal t cs (valOf t cs) := by
  have hl := h.length
  cases t <;> simp only [IsVal, valOf, Ty.agg, if_true, if_false, Bool.false_eq_true]
  all_goals (match cs, hl with | [c], _ => rfl)

theorem resRep_flat {w : World} : ∀ {ds : List Dyn}, (∀ d ∈ ds, d.t.flat = true ∧ Wf d.t d.x) → ResRep w ds (ds.map fun d => valOf d.t (fcells d.t d.x)) (ds.map fun _ => [])
  | [], _ => ⟨rfl, rfl⟩
  | d :: r, h => by
    obtain ⟨h1, h2⟩ := h d (List.mem_cons_self ..)
    have ho := own_of_wf (w := w) h1 h2
    exact ⟨_, _, _, _, _, rfl, rfl, ho, isVal_valOf ho, resRep_flat fun d hd => h d (List.mem_cons_of_mem _ hd)⟩

theorem flat_nils (ds : List Dyn) : (ds.map fun _ => ([] : List Nat)).flatten = [] := by
  induction ds with
  | nil => rfl
  | cons d r ih => simp

theorem contract_flat {P : Program} {f : FuncId} {sig : List AT} {pre : sigDen sig → Prop} {res : sigDen sig → List Dyn} (hno : noOwn sig = true)
    (h : ∀ (w : World) (x : sigDen sig) (vs : List Value) (bss : List (List Nat)), GInv w → pre x → wfSig sig x → ArgsRep w (Good w []) sig x vs bss →
      (∀ d ∈ res x, d.t.flat = true ∧ Wf d.t d.x) ∧ Calls P f vs.toArray w fun e w' => e = .returned (packV ((res x).map fun d => valOf d.t (fcells d.t d.x))) ∧ Kept [] w w') :
    Contract P f { sig := sig, pre := pre, res := res } := by
  refine Contract0.up (plain_noOwn hno) rfl ?_
  intro w x vs bss hgo hp ha hn
  obtain ⟨e1, e2⟩ := args_noOwn hno ha
  have ha' := ha
  rw [e1] at ha'
  obtain ⟨h1, h2⟩ := h w x vs bss hgo.inv hp (args_wf ha) ha'
  refine h2.mono ?_
  rintro e w' ⟨rfl, hk⟩
  refine ⟨_, [], _, rfl, by rw [e1]; exact hk, resRep_flat h1, by rw [e2]; exact ⟨rfl, rfl⟩, ?_, ?_⟩
  · simp only [flat_nils, List.flatten_nil, List.append_nil]; exact List.nodup_nil
  · simp only [flat_nils, List.flatten_nil, List.append_nil]; intro b hb; cases hb

end Go.Am

/- The abstract machine, part 30: more laws for loops. -/
namespace Go.Am
set_option linter.unusedVariables false
set_option linter.unusedSimpArgs false

end Go.Am

/- The abstract machine, part 31: the order of strings; binary search. -/
namespace Go.Am
set_option linter.unusedVariables false
set_option linter.unusedSimpArgs false

theorem toList_inj {a b : ByteArray} (h : ByteArray.toList a = ByteArray.toList b) : a = b := (bytes_eq a b).1 (by rw [h]; simp)

end Go.Am

/- The abstract machine, part 32: places in lists. -/
namespace Go.Am
set_option linter.unusedVariables false
set_option linter.unusedSimpArgs false

end Go.Am

/- The abstract machine, part 33: loops within loops; strings of one byte. -/
namespace Go.Am
set_option linter.unusedVariables false
set_option linter.unusedSimpArgs false

def repB (c : UInt8) (n : Nat) : ByteArray := ⟨(Lib.repeatL [c] n).toArray⟩

end Go.Am

/- The abstract machine, part 34: rows that the library makes and turns. -/
namespace Go.Am
set_option linter.unusedVariables false
set_option linter.unusedSimpArgs false
open Go.RowKit (Below)

theorem row_flat {w : World} {t : Ty} (hf : t.flat = true) : ∀ {xs : List t.den}, (∀ x ∈ xs, Wf t x) → Row (OwnC w t) t.size xs (xs.map (fcells t)) (xs.map fun _ => [])
  | [], _ => ⟨rfl, rfl⟩
  | x :: r, h => by
    have ho := own_of_wf (w := w) hf (h x (List.mem_cons_self ..))
    exact ⟨_, _, _, _, rfl, rfl, ho.length, ho, row_flat hf fun y hy => h y (List.mem_cons_of_mem _ hy)⟩

theorem nils_flatten {α : Type} (xs : List α) : (xs.map fun _ => ([] : List Nat)).flatten = [] := by
  induction xs with
  | nil => rfl
  | cons x r ih => simp


def bls (xs : List ByteArray) : List (List UInt8) := xs.map fun s => s.data.toList
end Go.Am

/- The abstract machine, part 35: strings in order. -/
namespace Go.Am
set_option linter.unusedVariables false
set_option linter.unusedSimpArgs false

end Go.Am

/- The abstract machine, part 36: lines that are counted in a list in order. -/
namespace Go.Am
set_option linter.unusedVariables false
set_option linter.unusedSimpArgs false

def bump (h : List Int) : List Int := List.set h (Int.toNat ((↑(List.length h) : Int) - 1)) (List.getD h (Int.toNat ((↑(List.length h) : Int) - 1)) 0 + 1)

def cntNew (xs : List ByteArray) (i : Nat) (x : ByteArray) : Bool := decide (i = 0) || !(ByteArray.toList x == ByteArray.toList (xs.getD (i - 1) ByteArray.empty))

def cntStep (xs : List ByteArray) (b : (List ByteArray × List Int) × Nat) (x : ByteArray) : (List ByteArray × List Int) × Nat :=
  if cntNew xs b.2 x = true then ((b.1.1 ++ [x], bump (b.1.2 ++ [0])), b.2 + 1) else ((b.1.1, bump b.1.2), b.2 + 1)

def counted (xs : List ByteArray) : (List ByteArray × List Int) × Nat := xs.foldl (cntStep xs) (([], []), 0)

end Go.Am

/- The abstract machine, part 37: decimal numerals; strings that are split at a byte. -/
namespace Go.Am
set_option linter.unusedVariables false
set_option linter.unusedSimpArgs false
open Go.Sort (grow)

def numB (n : Int) : ByteArray := ⟨(Lib.itoa n).toArray⟩

theorem numB_size (n : Int) (h0 : -9223372036854775808 ≤ n) (h1 : n ≤ 9223372036854775807) : (numB n).size ≤ 21 := by
  show (Lib.itoa n).toArray.size ≤ 21
  rw [List.size_toArray]
  exact Lib.itoa_length_le n h0 h1

theorem kept_grow (w : World) (n : Nat) (os : Array Obj) : Kept [] w (grow (w.drewN n) os) where
  os := rfl
  tape := rfl
  output := rfl
  size := by show w.heap.size ≤ (w.heap ++ os).size; rw [Array.size_append]; omega
  block := fun k hk _ => by
    show (w.heap ++ os)[k]? = w.heap[k]?
    exact Array.getElem?_append_left hk

theorem splitB_part (sep : ByteArray) (save : Nat) : ∀ (k : Nat) (s y : ByteArray), y ∈ Lib.splitB sep save k s → y.size ≤ s.size
  | 0, s, y, h => by rw [Lib.splitB_zero, List.mem_singleton] at h; rw [h]; exact Nat.le_refl _
  | k + 1, s, y, h => by
    unfold Lib.splitB at h
    split at h
    · rw [List.mem_singleton] at h; rw [h]; exact Nat.le_refl _
    · rcases List.mem_cons.1 h with rfl | h
      · rw [ByteArray.size_extract]; omega
      · have := splitB_part sep save k _ y h
        rw [ByteArray.size_extract] at this
        omega


def splitC (c : UInt8) : List UInt8 → List (List UInt8)
  | [] => [[]]
  | b :: r => if b = c then [] :: splitC c r else match splitC c r with
    | [] => [[b]]
    | p :: ps => (b :: p) :: ps

theorem splitC_free (c : UInt8) : ∀ {p : List UInt8}, c ∉ p → splitC c p = [p]
  | [], _ => rfl
  | b :: r, h => by
    have h1 : b ≠ c := fun e => h (by rw [e]; exact List.mem_cons_self ..)
    have h2 : c ∉ r := fun e => h (List.mem_cons_of_mem _ e)
    unfold splitC
    rw [if_neg h1, splitC_free c h2]

theorem splitC_hit (c : UInt8) : ∀ {p : List UInt8} (r : List UInt8), c ∉ p → splitC c (p ++ c :: r) = p :: splitC c r
  | [], r, _ => by simp [splitC]
  | b :: q, r, h => by
    have h1 : b ≠ c := fun e => h (by rw [e]; exact List.mem_cons_self ..)
    have h2 : c ∉ q := fun e => h (List.mem_cons_of_mem _ e)
    rw [List.cons_append, splitC, if_neg h1, splitC_hit c r h2]

theorem index_one_none (c : UInt8) : ∀ {l : List UInt8}, c ∉ l → Lib.index l [c] = -1
  | [], _ => by simp [Lib.index]
  | b :: r, h => by
    have h1 : b ≠ c := fun e => h (by rw [e]; exact List.mem_cons_self ..)
    have h2 : c ∉ r := fun e => h (List.mem_cons_of_mem _ e)
    rw [Lib.index, index_one_none c h2]
    simp [List.isPrefixOf, Ne.symm h1]

theorem index_one_hit (c : UInt8) : ∀ {p : List UInt8} (r : List UInt8), c ∉ p → Lib.index (p ++ c :: r) [c] = (p.length : Int)
  | [], r, _ => by simp [Lib.index, List.isPrefixOf]
  | b :: q, r, h => by
    have h1 : b ≠ c := fun e => h (by rw [e]; exact List.mem_cons_self ..)
    have h2 : c ∉ q := fun e => h (List.mem_cons_of_mem _ e)
    rw [List.cons_append, Lib.index, index_one_hit c r h2]
    have : ¬ ((q.length : Int) == -1) = true := fun e => by have := beq_iff_eq.1 e; omega
    have h3 : ([c] : List UInt8).isPrefixOf (b :: (q ++ c :: r)) = false := by simp [List.isPrefixOf, Ne.symm h1]
    rw [h3, if_neg (by simp), if_neg this]
    simp

theorem split_at (c : UInt8) : ∀ (l : List UInt8), c ∉ l ∨ ∃ p r, l = p ++ c :: r ∧ c ∉ p
  | [] => .inl (by simp)
  | b :: l => by
    by_cases h : b = c
    · exact .inr ⟨[], l, by rw [h]; rfl, by simp⟩
    · rcases split_at c l with h1 | ⟨p, r, rfl, h2⟩
      · exact .inl (fun hm => by rcases List.mem_cons.1 hm with rfl | hm; exact h rfl; exact h1 hm)
      · exact .inr ⟨b :: p, r, rfl, fun hm => by rcases List.mem_cons.1 hm with rfl | hm; exact h rfl; exact h2 hm⟩

theorem splitK_one (c : UInt8) : ∀ (k : Nat) (l : List UInt8), l.count c ≤ k → Lib.splitK [c] 0 k l = splitC c l
  | 0, l, h => by
    have hn : c ∉ l := fun hm => by have := List.count_pos_iff.2 hm; omega
    rw [splitC_free c hn]; rfl
  | k + 1, l, h => by
    rcases split_at c l with hn | ⟨p, r, rfl, hn⟩
    · rw [splitC_free c hn, Lib.splitK, index_one_none c hn, if_pos (by rfl)]
    · have hc : r.count c ≤ k := by
        rw [List.count_append, List.count_cons_self] at h
        omega
      rw [splitC_hit c r hn, Lib.splitK, index_one_hit c r hn, if_neg (fun e => by have := beq_iff_eq.1 e; omega)]
      congr 1
      · simp
      · have e : (p ++ c :: r).drop (((p.length : Int)).toNat + [c].length) = r := by
          simp only [Int.toNat_natCast, List.length_singleton]
          rw [List.drop_append, List.drop_of_length_le (by omega), Nat.add_sub_cancel_left]
          rfl
        rw [e]
        exact splitK_one c k r hc

def bss (ls : List (List UInt8)) : List ByteArray := ls.map fun l => ⟨l.toArray⟩

theorem bss_data (xs : List ByteArray) : bss (xs.map fun x => x.data.toList) = xs := by
  unfold bss
  rw [List.map_map]
  conv => rhs; rw [← List.map_id xs]
  rfl

theorem splitB_one (c : UInt8) (s : ByteArray) : Lib.splitB ⟨#[c]⟩ 0 (Lib.countB s ⟨#[c]⟩) s = bss (splitC c s.data.toList) := by
  have h := Lib.splitB_data ⟨#[c]⟩ 0 (Lib.countB s ⟨#[c]⟩) s
  have e : Lib.countB s ⟨#[c]⟩ = s.data.toList.count c := by
    show Lib.count s.data.toList [c] = _
    exact Lib.count_one c _
  have h2 := splitK_one c (Lib.countB s ⟨#[c]⟩) s.data.toList (by rw [e]; exact Nat.le_refl _)
  rw [← bss_data (Lib.splitB ⟨#[c]⟩ 0 (Lib.countB s ⟨#[c]⟩) s), h]
  show bss (Lib.splitK [c] 0 _ _) = _
  rw [h2]

end Go.Am

/- The abstract machine, part 38: variables of the library that a statement lists with what they hold. -/
namespace Go.Am
set_option linter.unusedVariables false
set_option linter.unusedSimpArgs false

def layCells (w : World) : List (Nat × List Value) → World
  | [] => w
  | (g, cs) :: r => layCells { w with heap := w.heap.modify g fun
      | .cells _ t fz => .cells cs.toArray t fz
      | o => o } r

def numCells : DataW Unit → List Value
  | .agg ps => ps.filterMap fun
    | .lit (.int k z) => some (.int k z)
    | _ => none
  | _ => []

theorem laid_drop {P : Program} {W : World} : ∀ {l : List (String × DataW Unit)} {i : Nat} {x : String × DataW Unit}, laidMet P l W → l[i]? = some x → ∃ r, laidMet P (x :: r) W
  | [], i, x, _, h => by simp at h
  | y :: l, 0, x, h, hi => by simp at hi; subst hi; exact ⟨l, h⟩
  | y :: l, i + 1, x, h, hi => laid_drop (l := l) (i := i) h.tail (by simpa using hi)

theorem tab_of_laid {P : Program} {W : World} {l : List (String × DataW Unit)} {i : Nat} {name : String} {k : IntKind} {zs : List Int} {g n : Nat} {t e : TypeId} (h : laidMet P l W) (hi : l[i]? = some (name, Lib.tabData k zs))
    (hg : P.globalNamed name = some g) (hty : (P.globals[g]?).map (·.type) = some t) (ht : P.underlying t = some (.array n e)) (he : P.underlying e = some (.int k)) (hce : P.cellsOf e = 1) (hct : P.cellsOf t = n) : Lib.TabIs P W name k zs := by
  obtain ⟨r, h⟩ := laid_drop h hi
  exact Lib.tabIs_of_head hg hty ht he hce hct h

end Go.Am

/- The abstract machine, part 39: library functions over slices of whatever flat type: from their runs to their contracts. -/
namespace Go.Am
set_option linter.unusedVariables false
set_option linter.unusedSimpArgs false
open Go.RowKit (Below)

def fcs (t : Ty) (xs : List t.den) : List Value := (xs.map (fcells t)).flatten

theorem own_flat_mk {w : World} {t : Ty} (hf : t.flat = true) {xs : List t.den} (hw : ∀ x ∈ xs, Wf t x) {n b off cap : Nat} {cur : Array Value} {ty : TypeId} {fz : Nat × Nat} (hn : n = xs.length) (h2 : xs.length ≤ cap) (h3 : cap ≤ maxLen) (h4 : off + cap * t.size ≤ cur.size)
    (h5 : w.heap[b]? = some (.cells cur ty fz)) (h6 : FreeS t.size fz cur.size) (h8 : ∀ j u, (fcs t xs)[j]? = some u → cur[off + j]? = some u) : OwnC w (.sl t) xs [.slice (some ⟨b, off, none⟩) n cap] [b] := by
  subst hn
  have hrow := row_flat (w := w) hf hw
  have ho := ownSl_of_row hrow (b := b) (off := off) (cap := cap) (cur := cur) (ty := ty) (fz := fz) (Nat.le_trans h2 h3) h2 h3 h4 h5 h6 h8
  rw [nils_flatten] at ho
  exact ⟨_, rfl, ho⟩


end Go.Am

/- The abstract machine, part 40: copy and clear at elements of many cells; slices.Delete and slices.Insert: from their runs to their contracts. -/
namespace Go.Am
set_option linter.unusedVariables false
set_option linter.unusedSimpArgs false
open Go.RowKit (Below)

section
variable {P : Program}

end

structure OwnAt (w : World) (t : Ty) (xs : List t.den) (b off cap : Nat) (cur : Array Value) (ty : TypeId) (fz : Nat × Nat) : Prop where
  wf : ∀ x ∈ xs, Wf t x
  len : xs.length ≤ cap
  capm : cap ≤ maxLen
  fit : off + cap * t.size ≤ cur.size
  blk : w.heap[b]? = some (.cells cur ty fz)
  free : FreeS t.size fz cur.size
  has : ∀ j u, (fcs t xs)[j]? = some u → cur[off + j]? = some u

theorem OwnAt.cell {w : World} {t : Ty} {xs : List t.den} {b off cap : Nat} {cur : Array Value} {ty : TypeId} {fz : Nat × Nat} (h : OwnAt w t xs b off cap cur ty fz) : ∀ j u, (fcs t xs)[j]? = some u → w.cell? ⟨b, off + j, none⟩ = some u := fun j u hj => by
  simp only [World.cell?, h.blk]
  exact h.has j u hj

theorem OwnAt.lt {w : World} {t : Ty} {xs : List t.den} {b off cap : Nat} {cur : Array Value} {ty : TypeId} {fz : Nat × Nat} (h : OwnAt w t xs b off cap cur ty fz) : b < w.heap.size := by
  rcases Nat.lt_or_ge b w.heap.size with h' | h'
  · exact h'
  · have := h.blk
    rw [Array.getElem?_eq_none h'] at this; cases this


end Go.Am

/- The abstract machine, part 41: slices.Insert of one element: from its runs to its contract. -/
namespace Go.Am
set_option linter.unusedVariables false
set_option linter.unusedSimpArgs false
open Go.RowKit (Below)

end Go.Am

/- The abstract machine, part 43: counts in a list. -/
namespace Go.Am
set_option linter.unusedVariables false

end Go.Am

/- The types of this program, as the abstract machine reads them. -/
set_option linter.unusedVariables false
set_option linter.unusedSimpArgs false
set_option maxRecDepth 100000
namespace Go.Proofs.YtkgacclldpicnaaDoor
open Go Go.Am Go.Proofs
def tab : List TI := [TI.other,
  TI.other,
  TI.scal (Ty.int IntKind.i64),
  TI.scal (Ty.int IntKind.i64),
  TI.scal (Ty.bool),
  TI.scal (Ty.int IntKind.u8),
  TI.scal (Ty.int IntKind.u8),
  TI.struct (Ty.cons (Ty.int IntKind.i64) (Ty.cons (Ty.int IntKind.i64) (Ty.cons Ty.bool (Ty.cons (Ty.int IntKind.u8) Ty.unit)))),
  TI.struct (Ty.cons (Ty.int IntKind.i64) (Ty.cons (Ty.int IntKind.i64) (Ty.cons Ty.bool (Ty.cons (Ty.int IntKind.u8) Ty.unit)))),
  TI.scal (Ty.str),
  TI.scal (Ty.str),
  TI.scal (Ty.str),
  TI.scal (Ty.int IntKind.u64),
  TI.other,
  TI.other,
  TI.other,
  TI.other,
  TI.other,
  TI.other,
  TI.other,
  TI.other,
  TI.scal (Ty.int IntKind.i32),
  TI.slice 5 (Ty.int IntKind.u8) 1,
  TI.other,
  TI.other,
  TI.other,
  TI.other,
  TI.other,
  TI.other,
  TI.other,
  TI.other,
  TI.other,
  TI.other,
  TI.other,
  TI.other,
  TI.other,
  TI.other,
  TI.other,
  TI.other,
  TI.other,
  TI.other,
  TI.other,
  TI.other,
  TI.other,
  TI.other,
  TI.other,
  TI.slice 9 (Ty.str) 16,
  TI.other,
  TI.other,
  TI.other,
  TI.other,
  TI.other,
  TI.slice 2 (Ty.int IntKind.i64) 8,
  TI.scal (Ty.int IntKind.u64),
  TI.struct (Ty.cons (Ty.sl (Ty.int IntKind.u8)) (Ty.cons (Ty.int IntKind.i64) (Ty.cons (Ty.int IntKind.u64) Ty.unit))),
  TI.struct (Ty.cons (Ty.sl (Ty.int IntKind.u8)) (Ty.cons (Ty.int IntKind.i64) (Ty.cons (Ty.int IntKind.u64) Ty.unit))),
  TI.other,
  TI.other,
  TI.other,
  TI.other,
  TI.other,
  TI.scal (Ty.int IntKind.u64),
  TI.other,
  TI.other,
  TI.other,
  TI.other,
  TI.other,
  TI.other,
  TI.other,
  TI.other,
  TI.other,
  TI.other,
  TI.other,
  TI.other,
  TI.other,
  TI.other,
  TI.other,
  TI.other,
  TI.other,
  TI.other,
  TI.other,
  TI.other,
  TI.other,
  TI.other,
  TI.other,
  TI.scal (Ty.int IntKind.u32),
  TI.other,
  TI.other,
  TI.other,
  TI.other,
  TI.other,
  TI.other,
  TI.other,
  TI.other,
  TI.other,
  TI.other,
  TI.other,
  TI.other,
  TI.other,
  TI.other,
  TI.other,
  TI.struct (Ty.cons (Ty.int IntKind.u8) (Ty.cons (Ty.int IntKind.u8) Ty.unit)),
  TI.struct (Ty.cons (Ty.int IntKind.u8) (Ty.cons (Ty.int IntKind.u8) Ty.unit)),
  TI.other,
  TI.other,
  TI.other,
  TI.other,
  TI.other,
  TI.other,
  TI.other,
  TI.other,
  TI.other,
  TI.other,
  TI.scal (Ty.int IntKind.u8),
  TI.scal (Ty.int IntKind.u8),
  TI.other,
  TI.scal (Ty.int IntKind.i32),
  TI.scal (Ty.int IntKind.i32)]

theorem tabOk : TabOk Tryd.prog tab := tabOk_of_check (by kernel_rfl)
theorem mixed : Tryd.prog.follows .mixedOrders = true := by kernel_rfl
theorem gv0 {W : World} (h : GInv W) : GHas W 0 (.int .i64) := h.1
theorem gcell0 (W : World) (h : W.ShapedOpen Tryd.prog) : ∃ m, W.cell? ⟨0, 0, none⟩ = some (.int .i64 m) :=
  Go.Proofs.cell_of_shapedOpen_int (zero := #[.int .i64 0]) (t := 3) h (of_decide_eq_true (by kernel_rfl)) (by kernel_rfl) rfl (by kernel_rfl) (by kernel_rfl) Tryd.underlying3
theorem gv1 {W : World} (h : GInv W) : GHas W 1 (.tab .u64 Lib.pow10Tab) := h.2.1
theorem maxLenG {W : World} (h : GInv W) : ∃ m, W.cell? ⟨0, 0, none⟩ = some (.int .i64 m) := gv0 h
theorem pow10G {W : World} (h : GInv W) : Lib.TabIs Tryd.prog W "internal/strconv.uint64pow10" .u64 Lib.pow10Tab := GHas.tab (by kernel_rfl) (gv1 h)
theorem ginv (W : World) (h : W.ShapedOpen Tryd.prog) (h1 : GHas W 1 (.tab .u64 Lib.pow10Tab)) : GInv W := ⟨gcell0 W h, h1, trivial⟩
end Go.Proofs.YtkgacclldpicnaaDoor

/- Function 4 (laws.b10Long): its runs between cut points. Written by a program of this repo (gen). -/
set_option linter.unusedVariables false
set_option linter.unusedSimpArgs false
set_option maxRecDepth 100000
namespace Go.Proofs.YtkgacclldpicnaaDoor
open Go Go.Am Go.Proofs
def ext4 : Ext := []
theorem ext4Ok : ExtOk Tryd.prog ext4 := trivial

noncomputable def b4 : Code := bodyOf Tryd.f4
theorem hb4 : Tryd.f4.body = some b4 := by kernel_rfl
def sig4 : List AT := [AT.v (Ty.sl (Ty.int IntKind.u8))]
def tys4 : List Ty := [Ty.bool]
def kds4 : List RK := []
def oks4 : List AT := owns sig4
def P4 (x0 : List Int) : Prop := True
def g4_0 (x0 : List Int) : Bool := Decidable.decide ((↑(List.length x0) : Int) > 1048576)
theorem p4_0 (x0 : List Int) : runF tab ext4 false 6 [] 2000 [] oks4 kds4 tys4 Tryd.f4.results [] [.code b4] (entE 0 0 sig4 (x0, ())) (entL sig4 (x0, ())) = some ([Dyn.mk Ty.bool (Decidable.decide ((↑(List.length x0) : Int) > 1048576))], [], []) := by kernel_rfl
theorem at4 (x0 : List Int) (h : P4 x0) (K : Ctx) (q : Nat → Value) : AtV Tryd.prog 4 (PostR kds4 oks4 [⟨Ty.bool, g4_0 x0⟩] [] [] q K) 6 K q [] [.code b4] (entE 0 0 sig4 (x0, ())) (entL sig4 (x0, ())) := by
  unfold P4 at h
  unfold g4_0
  exact AtV.fin Tryd.func4 tabOk ext4Ok mixed (p4_0 x0) trivial

def S4 : Am.Spec := { sig := sig4, pre := fun ⟨x0, _⟩ => P4 x0, res := fun ⟨x0, _⟩ => [⟨Ty.bool, g4_0 x0⟩], kds := kds4 }
theorem con4 : Contract Tryd.prog 4 S4 := contract_of Tryd.func4 hb4 (Nat.le_of_ble_eq_true (by kernel_rfl)) (fun ⟨x0, _⟩ h _ K q => at4 x0 h K q)


end Go.Proofs.YtkgacclldpicnaaDoor

/- Function 14 (spec.l00From): its runs between cut points. Written by a program of this repo (gen). -/
set_option linter.unusedVariables false
set_option linter.unusedSimpArgs false
set_option maxRecDepth 100000
namespace Go.Proofs.YtkgacclldpicnaaDoor
open Go Go.Am Go.Proofs
def ext14 : Ext := []
theorem ext14Ok : ExtOk Tryd.prog ext14 := trivial

noncomputable def b14 : Code := bodyOf Tryd.f14
theorem hb14 : Tryd.f14.body = some b14 := by kernel_rfl
def sig14 : List AT := [AT.v (Ty.sl (Ty.int IntKind.u8))]
def tys14 : List Ty := [Ty.cons (Ty.sl (Ty.int IntKind.u8)) (Ty.cons (Ty.int IntKind.i64) (Ty.cons (Ty.int IntKind.u64) Ty.unit))]
def kds14 : List RK := [.bx]
def oks14 : List AT := owns sig14
def P14 (x0 : List Int) : Prop := True
def g14_0 (x0 : List Int) : List Int × Int × Int × Unit := (x0, 0, 0, ())
theorem p14_0 (x0 : List Int) : runF tab ext14 false 6 [] 2000 [] oks14 kds14 tys14 Tryd.f14.results [] [.code b14] (entE 0 0 sig14 (x0, ())) (entL sig14 (x0, ())) = some ([Dyn.mk (Ty.cons (Ty.sl (Ty.int IntKind.u8)) (Ty.cons (Ty.int IntKind.i64) (Ty.cons (Ty.int IntKind.u64) Ty.unit))) (x0, 0, 0, ())], [], []) := by kernel_rfl
theorem at14 (x0 : List Int) (h : P14 x0) (K : Ctx) (q : Nat → Value) : AtV Tryd.prog 14 (PostR kds14 oks14 [⟨Ty.cons (Ty.sl (Ty.int IntKind.u8)) (Ty.cons (Ty.int IntKind.i64) (Ty.cons (Ty.int IntKind.u64) Ty.unit)), g14_0 x0⟩] [] [] q K) 6 K q [] [.code b14] (entE 0 0 sig14 (x0, ())) (entL sig14 (x0, ())) := by
  unfold P14 at h
  unfold g14_0
  exact AtV.fin Tryd.func14 tabOk ext14Ok mixed (p14_0 x0) trivial

def S14 : Am.Spec := { sig := sig14, pre := fun ⟨x0, _⟩ => P14 x0, res := fun ⟨x0, _⟩ => [⟨Ty.cons (Ty.sl (Ty.int IntKind.u8)) (Ty.cons (Ty.int IntKind.i64) (Ty.cons (Ty.int IntKind.u64) Ty.unit)), g14_0 x0⟩], kds := kds14 }
theorem con14 : Contract Tryd.prog 14 S14 := contract_of Tryd.func14 hb14 (Nat.le_of_ble_eq_true (by kernel_rfl)) (fun ⟨x0, _⟩ h _ K q => at14 x0 h K q)


end Go.Proofs.YtkgacclldpicnaaDoor

/- Function 32 ((*spec.l00Src).next): its runs between cut points. Written by a program of this repo (gen). -/
set_option linter.unusedVariables false
set_option linter.unusedSimpArgs false
set_option maxRecDepth 100000
namespace Go.Proofs.YtkgacclldpicnaaDoor
open Go Go.Am Go.Proofs
def ext32 : Ext := []
theorem ext32Ok : ExtOk Tryd.prog ext32 := trivial

noncomputable def b32 : Code := bodyOf Tryd.f32
theorem hb32 : Tryd.f32.body = some b32 := by kernel_rfl
def sig32 : List AT := [AT.pb (Ty.cons (Ty.sl (Ty.int IntKind.u8)) (Ty.cons (Ty.int IntKind.i64) (Ty.cons (Ty.int IntKind.u64) Ty.unit)))]
def tys32 : List Ty := [Ty.int IntKind.i64]
def kds32 : List RK := []
def oks32 : List AT := owns sig32
def P32 (x0 : List Int × Int × Int × Unit) : Prop := (if (Decidable.decide (Prod.fst (Prod.snd x0) < (↑(List.length (Prod.fst x0)) : Int))) = true then ((0 ≤ Prod.fst (Prod.snd x0)) ∧ (Prod.fst (Prod.snd x0) < (↑(List.length (Prod.fst x0)) : Int)) ∧ (if (Decidable.decide (IntKind.wrap IntKind.i64 (Prod.fst (Prod.snd x0) + 1) ≤ (↑(List.length (Prod.fst x0)) : Int))) = true then True else ((InR IntKind.u64 (Int.fdiv (IntKind.wrap IntKind.u64 (IntKind.wrap IntKind.u64 (IntKind.wrap IntKind.u64 (Prod.fst (Prod.snd (Prod.snd x0)) * 6364136223846793005) + IntKind.wrap IntKind.u64 (IntKind.wrap IntKind.i64 (List.getD (Prod.fst x0) (Int.toNat (Prod.fst (Prod.snd x0))) 0))) + 1442695040888963407)) 1099511627776)) ∧ True))) else (if (Decidable.decide (IntKind.wrap IntKind.i64 (Prod.fst (Prod.snd x0) + 1) ≤ (↑(List.length (Prod.fst x0)) : Int))) = true then True else ((InR IntKind.u64 (Int.fdiv (IntKind.wrap IntKind.u64 (IntKind.wrap IntKind.u64 (IntKind.wrap IntKind.u64 (Prod.fst (Prod.snd (Prod.snd x0)) * 6364136223846793005) + 0) + 1442695040888963407)) 1099511627776)) ∧ True)))
def g32_0 (x0 : List Int × Int × Int × Unit) : Int := (if (Decidable.decide (Prod.fst (Prod.snd x0) < (↑(List.length (Prod.fst x0)) : Int))) = true then (if (Decidable.decide (IntKind.wrap IntKind.i64 (Prod.fst (Prod.snd x0) + 1) ≤ (↑(List.length (Prod.fst x0)) : Int))) = true then IntKind.wrap IntKind.i64 (List.getD (Prod.fst x0) (Int.toNat (Prod.fst (Prod.snd x0))) 0) else IntKind.wrap IntKind.i64 (IntKind.wrap IntKind.u64 (↑(BitVec.toNat (BitVec.ofInt 64 (Int.fdiv (IntKind.wrap IntKind.u64 (IntKind.wrap IntKind.u64 (IntKind.wrap IntKind.u64 (Prod.fst (Prod.snd (Prod.snd x0)) * 6364136223846793005) + IntKind.wrap IntKind.u64 (IntKind.wrap IntKind.i64 (List.getD (Prod.fst x0) (Int.toNat (Prod.fst (Prod.snd x0))) 0))) + 1442695040888963407)) 1099511627776) &&& BitVec.ofInt 64 255)) : Int))) else (if (Decidable.decide (IntKind.wrap IntKind.i64 (Prod.fst (Prod.snd x0) + 1) ≤ (↑(List.length (Prod.fst x0)) : Int))) = true then 0 else IntKind.wrap IntKind.i64 (IntKind.wrap IntKind.u64 (↑(BitVec.toNat (BitVec.ofInt 64 (Int.fdiv (IntKind.wrap IntKind.u64 (IntKind.wrap IntKind.u64 (IntKind.wrap IntKind.u64 (Prod.fst (Prod.snd (Prod.snd x0)) * 6364136223846793005) + 0) + 1442695040888963407)) 1099511627776) &&& BitVec.ofInt 64 255)) : Int))))
def u32_0 (x0 : List Int × Int × Int × Unit) : List Int × Int × Int × Unit := (if (Decidable.decide (Prod.fst (Prod.snd x0) < (↑(List.length (Prod.fst x0)) : Int))) = true then (if (Decidable.decide (IntKind.wrap IntKind.i64 (Prod.fst (Prod.snd x0) + 1) ≤ (↑(List.length (Prod.fst x0)) : Int))) = true then (Prod.fst x0, IntKind.wrap IntKind.i64 (Prod.fst (Prod.snd x0) + 1), IntKind.wrap IntKind.u64 (IntKind.wrap IntKind.u64 (IntKind.wrap IntKind.u64 (Prod.fst (Prod.snd (Prod.snd x0)) * 6364136223846793005) + IntKind.wrap IntKind.u64 (IntKind.wrap IntKind.i64 (List.getD (Prod.fst x0) (Int.toNat (Prod.fst (Prod.snd x0))) 0))) + 1442695040888963407), ()) else (Prod.fst x0, IntKind.wrap IntKind.i64 (Prod.fst (Prod.snd x0) + 1), IntKind.wrap IntKind.u64 (IntKind.wrap IntKind.u64 (IntKind.wrap IntKind.u64 (Prod.fst (Prod.snd (Prod.snd x0)) * 6364136223846793005) + IntKind.wrap IntKind.u64 (IntKind.wrap IntKind.i64 (List.getD (Prod.fst x0) (Int.toNat (Prod.fst (Prod.snd x0))) 0))) + 1442695040888963407), ())) else (if (Decidable.decide (IntKind.wrap IntKind.i64 (Prod.fst (Prod.snd x0) + 1) ≤ (↑(List.length (Prod.fst x0)) : Int))) = true then (Prod.fst x0, IntKind.wrap IntKind.i64 (Prod.fst (Prod.snd x0) + 1), IntKind.wrap IntKind.u64 (IntKind.wrap IntKind.u64 (IntKind.wrap IntKind.u64 (Prod.fst (Prod.snd (Prod.snd x0)) * 6364136223846793005) + 0) + 1442695040888963407), ()) else (Prod.fst x0, IntKind.wrap IntKind.i64 (Prod.fst (Prod.snd x0) + 1), IntKind.wrap IntKind.u64 (IntKind.wrap IntKind.u64 (IntKind.wrap IntKind.u64 (Prod.fst (Prod.snd (Prod.snd x0)) * 6364136223846793005) + 0) + 1442695040888963407), ())))
theorem p32_0 (x0 : List Int × Int × Int × Unit) : runF tab ext32 true 62 [] 2000 [0] oks32 kds32 tys32 Tryd.f32.results [true, true] [.code b32] (entE 0 0 sig32 (x0, ())) (entL sig32 (x0, ())) = some ([Dyn.mk (Ty.int IntKind.i64) (IntKind.wrap IntKind.i64 (List.getD (Prod.fst x0) (Int.toNat (Prod.fst (Prod.snd x0))) 0))], [Option.some (Lst.mk (Ty.cons (Ty.sl (Ty.int IntKind.u8)) (Ty.cons (Ty.int IntKind.i64) (Ty.cons (Ty.int IntKind.u64) Ty.unit))) [(Prod.fst x0, IntKind.wrap IntKind.i64 (Prod.fst (Prod.snd x0) + 1), IntKind.wrap IntKind.u64 (IntKind.wrap IntKind.u64 (IntKind.wrap IntKind.u64 (Prod.fst (Prod.snd (Prod.snd x0)) * 6364136223846793005) + IntKind.wrap IntKind.u64 (IntKind.wrap IntKind.i64 (List.getD (Prod.fst x0) (Int.toNat (Prod.fst (Prod.snd x0))) 0))) + 1442695040888963407), ())])], [Decidable.decide (Prod.fst (Prod.snd x0) < (↑(List.length (Prod.fst x0)) : Int)) = Bool.true, 0 ≤ Prod.fst (Prod.snd x0), Prod.fst (Prod.snd x0) < (↑(List.length (Prod.fst x0)) : Int), Decidable.decide (IntKind.wrap IntKind.i64 (Prod.fst (Prod.snd x0) + 1) ≤ (↑(List.length (Prod.fst x0)) : Int)) = Bool.true]) := by kernel_rfl
theorem p32_1 (x0 : List Int × Int × Int × Unit) : runF tab ext32 true 62 [] 2000 [0] oks32 kds32 tys32 Tryd.f32.results [true, false] [.code b32] (entE 0 0 sig32 (x0, ())) (entL sig32 (x0, ())) = some ([Dyn.mk (Ty.int IntKind.i64) (IntKind.wrap IntKind.i64 (IntKind.wrap IntKind.u64 (↑(BitVec.toNat (BitVec.ofInt 64 (Int.fdiv (IntKind.wrap IntKind.u64 (IntKind.wrap IntKind.u64 (IntKind.wrap IntKind.u64 (Prod.fst (Prod.snd (Prod.snd x0)) * 6364136223846793005) + IntKind.wrap IntKind.u64 (IntKind.wrap IntKind.i64 (List.getD (Prod.fst x0) (Int.toNat (Prod.fst (Prod.snd x0))) 0))) + 1442695040888963407)) 1099511627776) &&& BitVec.ofInt 64 255)) : Int)))], [Option.some (Lst.mk (Ty.cons (Ty.sl (Ty.int IntKind.u8)) (Ty.cons (Ty.int IntKind.i64) (Ty.cons (Ty.int IntKind.u64) Ty.unit))) [(Prod.fst x0, IntKind.wrap IntKind.i64 (Prod.fst (Prod.snd x0) + 1), IntKind.wrap IntKind.u64 (IntKind.wrap IntKind.u64 (IntKind.wrap IntKind.u64 (Prod.fst (Prod.snd (Prod.snd x0)) * 6364136223846793005) + IntKind.wrap IntKind.u64 (IntKind.wrap IntKind.i64 (List.getD (Prod.fst x0) (Int.toNat (Prod.fst (Prod.snd x0))) 0))) + 1442695040888963407), ())])], [Decidable.decide (Prod.fst (Prod.snd x0) < (↑(List.length (Prod.fst x0)) : Int)) = Bool.true, 0 ≤ Prod.fst (Prod.snd x0), Prod.fst (Prod.snd x0) < (↑(List.length (Prod.fst x0)) : Int), Decidable.decide (IntKind.wrap IntKind.i64 (Prod.fst (Prod.snd x0) + 1) ≤ (↑(List.length (Prod.fst x0)) : Int)) = Bool.false, (0 : Int) ≤ (40 : Int), InR IntKind.u64 (Int.fdiv (IntKind.wrap IntKind.u64 (IntKind.wrap IntKind.u64 (IntKind.wrap IntKind.u64 (Prod.fst (Prod.snd (Prod.snd x0)) * 6364136223846793005) + IntKind.wrap IntKind.u64 (IntKind.wrap IntKind.i64 (List.getD (Prod.fst x0) (Int.toNat (Prod.fst (Prod.snd x0))) 0))) + 1442695040888963407)) 1099511627776)]) := by kernel_rfl
theorem p32_2 (x0 : List Int × Int × Int × Unit) : runF tab ext32 true 62 [] 2000 [0] oks32 kds32 tys32 Tryd.f32.results [false, true] [.code b32] (entE 0 0 sig32 (x0, ())) (entL sig32 (x0, ())) = some ([Dyn.mk (Ty.int IntKind.i64) 0], [Option.some (Lst.mk (Ty.cons (Ty.sl (Ty.int IntKind.u8)) (Ty.cons (Ty.int IntKind.i64) (Ty.cons (Ty.int IntKind.u64) Ty.unit))) [(Prod.fst x0, IntKind.wrap IntKind.i64 (Prod.fst (Prod.snd x0) + 1), IntKind.wrap IntKind.u64 (IntKind.wrap IntKind.u64 (IntKind.wrap IntKind.u64 (Prod.fst (Prod.snd (Prod.snd x0)) * 6364136223846793005) + 0) + 1442695040888963407), ())])], [Decidable.decide (Prod.fst (Prod.snd x0) < (↑(List.length (Prod.fst x0)) : Int)) = Bool.false, Decidable.decide (IntKind.wrap IntKind.i64 (Prod.fst (Prod.snd x0) + 1) ≤ (↑(List.length (Prod.fst x0)) : Int)) = Bool.true]) := by kernel_rfl
theorem p32_3 (x0 : List Int × Int × Int × Unit) : runF tab ext32 true 62 [] 2000 [0] oks32 kds32 tys32 Tryd.f32.results [false, false] [.code b32] (entE 0 0 sig32 (x0, ())) (entL sig32 (x0, ())) = some ([Dyn.mk (Ty.int IntKind.i64) (IntKind.wrap IntKind.i64 (IntKind.wrap IntKind.u64 (↑(BitVec.toNat (BitVec.ofInt 64 (Int.fdiv (IntKind.wrap IntKind.u64 (IntKind.wrap IntKind.u64 (IntKind.wrap IntKind.u64 (Prod.fst (Prod.snd (Prod.snd x0)) * 6364136223846793005) + 0) + 1442695040888963407)) 1099511627776) &&& BitVec.ofInt 64 255)) : Int)))], [Option.some (Lst.mk (Ty.cons (Ty.sl (Ty.int IntKind.u8)) (Ty.cons (Ty.int IntKind.i64) (Ty.cons (Ty.int IntKind.u64) Ty.unit))) [(Prod.fst x0, IntKind.wrap IntKind.i64 (Prod.fst (Prod.snd x0) + 1), IntKind.wrap IntKind.u64 (IntKind.wrap IntKind.u64 (IntKind.wrap IntKind.u64 (Prod.fst (Prod.snd (Prod.snd x0)) * 6364136223846793005) + 0) + 1442695040888963407), ())])], [Decidable.decide (Prod.fst (Prod.snd x0) < (↑(List.length (Prod.fst x0)) : Int)) = Bool.false, Decidable.decide (IntKind.wrap IntKind.i64 (Prod.fst (Prod.snd x0) + 1) ≤ (↑(List.length (Prod.fst x0)) : Int)) = Bool.false, (0 : Int) ≤ (40 : Int), InR IntKind.u64 (Int.fdiv (IntKind.wrap IntKind.u64 (IntKind.wrap IntKind.u64 (IntKind.wrap IntKind.u64 (Prod.fst (Prod.snd (Prod.snd x0)) * 6364136223846793005) + 0) + 1442695040888963407)) 1099511627776)]) := by kernel_rfl
theorem at32 (x0 : List Int × Int × Int × Unit) (h : P32 x0) (K : Ctx) (q : Nat → Value) : AtV Tryd.prog 32 (PostR kds32 oks32 [⟨Ty.int IntKind.i64, g32_0 x0⟩] [some ⟨Ty.cons (Ty.sl (Ty.int IntKind.u8)) (Ty.cons (Ty.int IntKind.i64) (Ty.cons (Ty.int IntKind.u64) Ty.unit)), [u32_0 x0]⟩] [0] q K) 62 K q [0] [.code b32] (entE 0 0 sig32 (x0, ())) (entL sig32 (x0, ())) := by
  unfold P32 at h
  unfold g32_0 u32_0
  by_cases b0 : (Decidable.decide (Prod.fst (Prod.snd x0) < (↑(List.length (Prod.fst x0)) : Int))) = true
  · try simp only [if_pos b0] at h ⊢
    obtain ⟨s0, s1, h⟩ := h
    by_cases b1 : (Decidable.decide (IntKind.wrap IntKind.i64 (Prod.fst (Prod.snd x0) + 1) ≤ (↑(List.length (Prod.fst x0)) : Int))) = true
    · try simp only [if_pos b1] at h ⊢
      exact AtV.weak (AtV.fin Tryd.func32 tabOk ext32Ok mixed (p32_0 x0) ⟨b0, s0, s1, b1, trivial⟩) ⟨.inl rfl, trivial⟩
    · try simp only [if_neg b1] at h ⊢
      replace b1 := Bool.eq_false_iff.2 b1
      obtain ⟨s2, h⟩ := h
      exact AtV.weak (AtV.fin Tryd.func32 tabOk ext32Ok mixed (p32_1 x0) ⟨b0, s0, s1, b1, (by decide), s2, trivial⟩) ⟨.inl rfl, trivial⟩
  · try simp only [if_neg b0] at h ⊢
    replace b0 := Bool.eq_false_iff.2 b0
    by_cases b1 : (Decidable.decide (IntKind.wrap IntKind.i64 (Prod.fst (Prod.snd x0) + 1) ≤ (↑(List.length (Prod.fst x0)) : Int))) = true
    · try simp only [if_pos b1] at h ⊢
      exact AtV.weak (AtV.fin Tryd.func32 tabOk ext32Ok mixed (p32_2 x0) ⟨b0, b1, trivial⟩) ⟨.inl rfl, trivial⟩
    · try simp only [if_neg b1] at h ⊢
      replace b1 := Bool.eq_false_iff.2 b1
      obtain ⟨s0, h⟩ := h
      exact AtV.weak (AtV.fin Tryd.func32 tabOk ext32Ok mixed (p32_3 x0) ⟨b0, b1, (by decide), s0, trivial⟩) ⟨.inl rfl, trivial⟩

def S32 : Am.Spec := { sig := sig32, pre := fun ⟨x0, _⟩ => P32 x0, upd := fun ⟨x0, _⟩ => [some ⟨Ty.cons (Ty.sl (Ty.int IntKind.u8)) (Ty.cons (Ty.int IntKind.i64) (Ty.cons (Ty.int IntKind.u64) Ty.unit)), [u32_0 x0]⟩], res := fun ⟨x0, _⟩ => [⟨Ty.int IntKind.i64, g32_0 x0⟩], kds := kds32 }
theorem con32 : Contract Tryd.prog 32 S32 := contract_of Tryd.func32 hb32 (Nat.le_of_ble_eq_true (by kernel_rfl)) (fun ⟨x0, _⟩ h _ K q => at32 x0 h K q)


end Go.Proofs.YtkgacclldpicnaaDoor

/- Function 28 ((*spec.l00Src).pick): its runs between cut points. Written by a program of this repo (gen). -/
set_option linter.unusedVariables false
set_option linter.unusedSimpArgs false
set_option maxRecDepth 100000
namespace Go.Proofs.YtkgacclldpicnaaDoor
open Go Go.Am Go.Proofs
def ext28 : Ext := [(32, S32)]
theorem call28_32 : Callable Tryd.prog 32 := ⟨Tryd.f32, Tryd.func32, by kernel_rfl, by kernel_rfl⟩
theorem ext28Ok : ExtOk Tryd.prog ext28 := ⟨⟨call28_32, con32⟩, trivial⟩

noncomputable def b28 : Code := bodyOf Tryd.f28
theorem hb28 : Tryd.f28.body = some b28 := by kernel_rfl
def sig28 : List AT := [AT.pb (Ty.cons (Ty.sl (Ty.int IntKind.u8)) (Ty.cons (Ty.int IntKind.i64) (Ty.cons (Ty.int IntKind.u64) Ty.unit))), AT.v (Ty.int IntKind.i64)]
def tys28 : List Ty := [Ty.int IntKind.i64]
def kds28 : List RK := []
def oks28 : List AT := owns sig28
def P28 (x0 : List Int × Int × Int × Unit) (x1 : Int) : Prop := (if (Decidable.decide (x1 ≤ 1)) = true then True else ((P32 x0) ∧ (if (Decidable.decide (x1 > 200)) = true then ((InR IntKind.i64 (g32_0 x0 * 256)) ∧ ((P32 (u32_0 x0)) ∧ ((InR IntKind.i64 (g32_0 x0 * 256 + g32_0 (u32_0 x0))) ∧ ((x1 ≠ 0) ∧ (InR IntKind.i64 (Int.tmod (g32_0 x0 * 256 + g32_0 (u32_0 x0)) x1)) ∧ True)))) else ((x1 ≠ 0) ∧ (InR IntKind.i64 (Int.tmod (g32_0 x0) x1)) ∧ True))))
def g28_0 (x0 : List Int × Int × Int × Unit) (x1 : Int) : Int := (if (Decidable.decide (x1 ≤ 1)) = true then 0 else (if (Decidable.decide (x1 > 200)) = true then Int.tmod (g32_0 x0 * 256 + g32_0 (u32_0 x0)) x1 else Int.tmod (g32_0 x0) x1))
def u28_0 (x0 : List Int × Int × Int × Unit) (x1 : Int) : List Int × Int × Int × Unit := (if (Decidable.decide (x1 ≤ 1)) = true then x0 else (if (Decidable.decide (x1 > 200)) = true then u32_0 (u32_0 x0) else u32_0 x0))
theorem p28_0 (x0 : List Int × Int × Int × Unit) (x1 : Int) : runF tab ext28 false 20 [] 2000 [0] oks28 kds28 tys28 Tryd.f28.results [true] [.code b28] (entE 0 0 sig28 (x0, x1, ())) (entL sig28 (x0, x1, ())) = some ([Dyn.mk (Ty.int IntKind.i64) 0], [Option.some (Lst.mk (Ty.cons (Ty.sl (Ty.int IntKind.u8)) (Ty.cons (Ty.int IntKind.i64) (Ty.cons (Ty.int IntKind.u64) Ty.unit))) [x0])], [Decidable.decide (x1 ≤ 1) = Bool.true]) := by kernel_rfl
theorem p28_1 (x0 : List Int × Int × Int × Unit) (x1 : Int) : runF tab ext28 false 20 [] 2000 [0] oks28 kds28 tys28 Tryd.f28.results [false, true] [.code b28] (entE 0 0 sig28 (x0, x1, ())) (entL sig28 (x0, x1, ())) = some ([Dyn.mk (Ty.int IntKind.i64) (Int.tmod (g32_0 x0 * 256 + g32_0 (u32_0 x0)) x1)], [Option.some (Lst.mk (Ty.cons (Ty.sl (Ty.int IntKind.u8)) (Ty.cons (Ty.int IntKind.i64) (Ty.cons (Ty.int IntKind.u64) Ty.unit))) [u32_0 (u32_0 x0)])], [Decidable.decide (x1 ≤ 1) = Bool.false, P32 x0, Decidable.decide (x1 > 200) = Bool.true, InR IntKind.i64 (g32_0 x0 * 256), P32 (u32_0 x0), InR IntKind.i64 (g32_0 x0 * 256 + g32_0 (u32_0 x0)), x1 ≠ 0, InR IntKind.i64 (Int.tmod (g32_0 x0 * 256 + g32_0 (u32_0 x0)) x1)]) := by kernel_rfl
theorem p28_2 (x0 : List Int × Int × Int × Unit) (x1 : Int) : runF tab ext28 false 20 [] 2000 [0] oks28 kds28 tys28 Tryd.f28.results [false, false] [.code b28] (entE 0 0 sig28 (x0, x1, ())) (entL sig28 (x0, x1, ())) = some ([Dyn.mk (Ty.int IntKind.i64) (Int.tmod (g32_0 x0) x1)], [Option.some (Lst.mk (Ty.cons (Ty.sl (Ty.int IntKind.u8)) (Ty.cons (Ty.int IntKind.i64) (Ty.cons (Ty.int IntKind.u64) Ty.unit))) [u32_0 x0])], [Decidable.decide (x1 ≤ 1) = Bool.false, P32 x0, Decidable.decide (x1 > 200) = Bool.false, x1 ≠ 0, InR IntKind.i64 (Int.tmod (g32_0 x0) x1)]) := by kernel_rfl
theorem at28 (x0 : List Int × Int × Int × Unit) (x1 : Int) (h : P28 x0 x1) (K : Ctx) (q : Nat → Value) : AtV Tryd.prog 28 (PostR kds28 oks28 [⟨Ty.int IntKind.i64, g28_0 x0 x1⟩] [some ⟨Ty.cons (Ty.sl (Ty.int IntKind.u8)) (Ty.cons (Ty.int IntKind.i64) (Ty.cons (Ty.int IntKind.u64) Ty.unit)), [u28_0 x0 x1]⟩] [0] q K) 20 K q [0] [.code b28] (entE 0 0 sig28 (x0, x1, ())) (entL sig28 (x0, x1, ())) := by
  unfold P28 at h
  unfold g28_0 u28_0
  by_cases b0 : (Decidable.decide (x1 ≤ 1)) = true
  · try simp only [if_pos b0] at h ⊢
    exact AtV.weak (AtV.fin Tryd.func28 tabOk ext28Ok mixed (p28_0 x0 x1) ⟨b0, trivial⟩) ⟨.inl rfl, trivial⟩
  · try simp only [if_neg b0] at h ⊢
    replace b0 := Bool.eq_false_iff.2 b0
    obtain ⟨s0, h⟩ := h
    by_cases b1 : (Decidable.decide (x1 > 200)) = true
    · try simp only [if_pos b1] at h ⊢
      obtain ⟨s1, h⟩ := h
      obtain ⟨s2, h⟩ := h
      obtain ⟨s3, h⟩ := h
      obtain ⟨s4, s5, h⟩ := h
      exact AtV.weak (AtV.fin Tryd.func28 tabOk ext28Ok mixed (p28_1 x0 x1) ⟨b0, s0, b1, s1, s2, s3, s4, s5, trivial⟩) ⟨.inl rfl, trivial⟩
    · try simp only [if_neg b1] at h ⊢
      replace b1 := Bool.eq_false_iff.2 b1
      obtain ⟨s1, s2, h⟩ := h
      exact AtV.weak (AtV.fin Tryd.func28 tabOk ext28Ok mixed (p28_2 x0 x1) ⟨b0, s0, b1, s1, s2, trivial⟩) ⟨.inl rfl, trivial⟩

def S28 : Am.Spec := { sig := sig28, pre := fun ⟨x0, x1, _⟩ => P28 x0 x1, upd := fun ⟨x0, x1, _⟩ => [some ⟨Ty.cons (Ty.sl (Ty.int IntKind.u8)) (Ty.cons (Ty.int IntKind.i64) (Ty.cons (Ty.int IntKind.u64) Ty.unit)), [u28_0 x0 x1]⟩], res := fun ⟨x0, x1, _⟩ => [⟨Ty.int IntKind.i64, g28_0 x0 x1⟩], kds := kds28 }
theorem con28 : Contract Tryd.prog 28 S28 := contract_of Tryd.func28 hb28 (Nat.le_of_ble_eq_true (by kernel_rfl)) (fun ⟨x0, x1, _⟩ h _ K q => at28 x0 x1 h K q)


end Go.Proofs.YtkgacclldpicnaaDoor

/- Function 27 ((*spec.l00Src).one): its runs between cut points. Written by a program of this repo (gen). -/
set_option linter.unusedVariables false
set_option linter.unusedSimpArgs false
set_option maxRecDepth 100000
namespace Go.Proofs.YtkgacclldpicnaaDoor
open Go Go.Am Go.Proofs
def ext27 : Ext := [(28, S28)]
theorem call27_28 : Callable Tryd.prog 28 := ⟨Tryd.f28, Tryd.func28, by kernel_rfl, by kernel_rfl⟩
theorem ext27Ok : ExtOk Tryd.prog ext27 := ⟨⟨call27_28, con28⟩, trivial⟩

noncomputable def b27 : Code := bodyOf Tryd.f27
theorem hb27 : Tryd.f27.body = some b27 := by kernel_rfl
def sig27 : List AT := [AT.pb (Ty.cons (Ty.sl (Ty.int IntKind.u8)) (Ty.cons (Ty.int IntKind.i64) (Ty.cons (Ty.int IntKind.u64) Ty.unit))), AT.v (Ty.int IntKind.i64)]
def tys27 : List Ty := [Ty.bool]
def kds27 : List RK := []
def oks27 : List AT := owns sig27
def P27 (x0 : List Int × Int × Int × Unit) (x1 : Int) : Prop := ((P28 x0 x1) ∧ True)
def g27_0 (x0 : List Int × Int × Int × Unit) (x1 : Int) : Bool := g28_0 x0 x1 == 0
def u27_0 (x0 : List Int × Int × Int × Unit) (x1 : Int) : List Int × Int × Int × Unit := u28_0 x0 x1
theorem p27_0 (x0 : List Int × Int × Int × Unit) (x1 : Int) : runF tab ext27 false 9 [] 2000 [0] oks27 kds27 tys27 Tryd.f27.results [] [.code b27] (entE 0 0 sig27 (x0, x1, ())) (entL sig27 (x0, x1, ())) = some ([Dyn.mk Ty.bool (g28_0 x0 x1 == 0)], [Option.some (Lst.mk (Ty.cons (Ty.sl (Ty.int IntKind.u8)) (Ty.cons (Ty.int IntKind.i64) (Ty.cons (Ty.int IntKind.u64) Ty.unit))) [u28_0 x0 x1])], [P28 x0 x1]) := by kernel_rfl
theorem at27 (x0 : List Int × Int × Int × Unit) (x1 : Int) (h : P27 x0 x1) (K : Ctx) (q : Nat → Value) : AtV Tryd.prog 27 (PostR kds27 oks27 [⟨Ty.bool, g27_0 x0 x1⟩] [some ⟨Ty.cons (Ty.sl (Ty.int IntKind.u8)) (Ty.cons (Ty.int IntKind.i64) (Ty.cons (Ty.int IntKind.u64) Ty.unit)), [u27_0 x0 x1]⟩] [0] q K) 9 K q [0] [.code b27] (entE 0 0 sig27 (x0, x1, ())) (entL sig27 (x0, x1, ())) := by
  unfold P27 at h
  unfold g27_0 u27_0
  obtain ⟨s0, h⟩ := h
  exact AtV.weak (AtV.fin Tryd.func27 tabOk ext27Ok mixed (p27_0 x0 x1) ⟨s0, trivial⟩) ⟨.inl rfl, trivial⟩

def S27 : Am.Spec := { sig := sig27, pre := fun ⟨x0, x1, _⟩ => P27 x0 x1, upd := fun ⟨x0, x1, _⟩ => [some ⟨Ty.cons (Ty.sl (Ty.int IntKind.u8)) (Ty.cons (Ty.int IntKind.i64) (Ty.cons (Ty.int IntKind.u64) Ty.unit)), [u27_0 x0 x1]⟩], res := fun ⟨x0, x1, _⟩ => [⟨Ty.bool, g27_0 x0 x1⟩], kds := kds27 }
theorem con27 : Contract Tryd.prog 27 S27 := contract_of Tryd.func27 hb27 (Nat.le_of_ble_eq_true (by kernel_rfl)) (fun ⟨x0, x1, _⟩ h _ K q => at27 x0 x1 h K q)


end Go.Proofs.YtkgacclldpicnaaDoor

/- Function 26 ((*spec.l00Src).among): its runs between cut points. Written by a program of this repo (gen). -/
set_option linter.unusedVariables false
set_option linter.unusedSimpArgs false
set_option maxRecDepth 100000
namespace Go.Proofs.YtkgacclldpicnaaDoor
open Go Go.Am Go.Proofs
def ext26 : Ext := [(28, S28)]
theorem call26_28 : Callable Tryd.prog 28 := ⟨Tryd.f28, Tryd.func28, by kernel_rfl, by kernel_rfl⟩
theorem ext26Ok : ExtOk Tryd.prog ext26 := ⟨⟨call26_28, con28⟩, trivial⟩

noncomputable def b26 : Code := bodyOf Tryd.f26
theorem hb26 : Tryd.f26.body = some b26 := by kernel_rfl
def sig26 : List AT := [AT.pb (Ty.cons (Ty.sl (Ty.int IntKind.u8)) (Ty.cons (Ty.int IntKind.i64) (Ty.cons (Ty.int IntKind.u64) Ty.unit))), AT.v (Ty.sl (Ty.int IntKind.i64))]
def tys26 : List Ty := [Ty.int IntKind.i64]
def kds26 : List RK := []
def oks26 : List AT := owns sig26
def P26 (x0 : List Int × Int × Int × Unit) (x1 : List Int) : Prop := ((P28 x0 (↑(List.length x1) : Int)) ∧ ((0 ≤ g28_0 x0 (↑(List.length x1) : Int)) ∧ (g28_0 x0 (↑(List.length x1) : Int) < (↑(List.length x1) : Int)) ∧ True))
def g26_0 (x0 : List Int × Int × Int × Unit) (x1 : List Int) : Int := List.getD x1 (Int.toNat (g28_0 x0 (↑(List.length x1) : Int))) 0
def u26_0 (x0 : List Int × Int × Int × Unit) (x1 : List Int) : List Int × Int × Int × Unit := u28_0 x0 (↑(List.length x1) : Int)
theorem p26_0 (x0 : List Int × Int × Int × Unit) (x1 : List Int) : runF tab ext26 false 12 [] 2000 [0] oks26 kds26 tys26 Tryd.f26.results [] [.code b26] (entE 0 0 sig26 (x0, x1, ())) (entL sig26 (x0, x1, ())) = some ([Dyn.mk (Ty.int IntKind.i64) (List.getD x1 (Int.toNat (g28_0 x0 (↑(List.length x1) : Int))) 0)], [Option.some (Lst.mk (Ty.cons (Ty.sl (Ty.int IntKind.u8)) (Ty.cons (Ty.int IntKind.i64) (Ty.cons (Ty.int IntKind.u64) Ty.unit))) [u28_0 x0 (↑(List.length x1) : Int)])], [P28 x0 (↑(List.length x1) : Int), 0 ≤ g28_0 x0 (↑(List.length x1) : Int), g28_0 x0 (↑(List.length x1) : Int) < (↑(List.length x1) : Int)]) := by kernel_rfl
theorem at26 (x0 : List Int × Int × Int × Unit) (x1 : List Int) (h : P26 x0 x1) (K : Ctx) (q : Nat → Value) : AtV Tryd.prog 26 (PostR kds26 oks26 [⟨Ty.int IntKind.i64, g26_0 x0 x1⟩] [some ⟨Ty.cons (Ty.sl (Ty.int IntKind.u8)) (Ty.cons (Ty.int IntKind.i64) (Ty.cons (Ty.int IntKind.u64) Ty.unit)), [u26_0 x0 x1]⟩] [0] q K) 12 K q [0] [.code b26] (entE 0 0 sig26 (x0, x1, ())) (entL sig26 (x0, x1, ())) := by
  unfold P26 at h
  unfold g26_0 u26_0
  obtain ⟨s0, h⟩ := h
  obtain ⟨s1, s2, h⟩ := h
  exact AtV.weak (AtV.fin Tryd.func26 tabOk ext26Ok mixed (p26_0 x0 x1) ⟨s0, s1, s2, trivial⟩) ⟨.inl rfl, trivial⟩

def S26 : Am.Spec := { sig := sig26, pre := fun ⟨x0, x1, _⟩ => P26 x0 x1, upd := fun ⟨x0, x1, _⟩ => [some ⟨Ty.cons (Ty.sl (Ty.int IntKind.u8)) (Ty.cons (Ty.int IntKind.i64) (Ty.cons (Ty.int IntKind.u64) Ty.unit)), [u26_0 x0 x1]⟩], res := fun ⟨x0, x1, _⟩ => [⟨Ty.int IntKind.i64, g26_0 x0 x1⟩], kds := kds26 }
theorem con26 : Contract Tryd.prog 26 S26 := contract_of Tryd.func26 hb26 (Nat.le_of_ble_eq_true (by kernel_rfl)) (fun ⟨x0, x1, _⟩ h _ K q => at26 x0 x1 h K q)


end Go.Proofs.YtkgacclldpicnaaDoor

/- Function 15 (spec.l02DrawDay): its runs between cut points. Written by a program of this repo (gen). -/
set_option linter.unusedVariables false
set_option linter.unusedSimpArgs false
set_option maxRecDepth 100000
namespace Go.Proofs.YtkgacclldpicnaaDoor
open Go Go.Am Go.Proofs
def ext15 : Ext := [(27, S27), (26, S26), (28, S28)]
theorem call15_27 : Callable Tryd.prog 27 := ⟨Tryd.f27, Tryd.func27, by kernel_rfl, by kernel_rfl⟩
theorem call15_26 : Callable Tryd.prog 26 := ⟨Tryd.f26, Tryd.func26, by kernel_rfl, by kernel_rfl⟩
theorem call15_28 : Callable Tryd.prog 28 := ⟨Tryd.f28, Tryd.func28, by kernel_rfl, by kernel_rfl⟩
theorem ext15Ok : ExtOk Tryd.prog ext15 := ⟨⟨call15_27, con27⟩, ⟨call15_26, con26⟩, ⟨call15_28, con28⟩, trivial⟩

noncomputable def b15 : Code := bodyOf Tryd.f15
theorem hb15 : Tryd.f15.body = some b15 := by kernel_rfl
def sig15 : List AT := [AT.pb (Ty.cons (Ty.sl (Ty.int IntKind.u8)) (Ty.cons (Ty.int IntKind.i64) (Ty.cons (Ty.int IntKind.u64) Ty.unit)))]
def tys15 : List Ty := [Ty.int IntKind.i64]
def kds15 : List RK := []
def oks15 : List AT := owns sig15
def P15 (x0 : List Int × Int × Int × Unit) : Prop := ((P27 x0 8) ∧ (if (g27_0 x0 8) = true then ((P26 (u27_0 x0 8) [-1, 0, 59, 60, 36524, 36525, 366, 365]) ∧ True) else ((P28 (u27_0 x0 8) 256) ∧ ((InR IntKind.i64 (140 * g28_0 (u27_0 x0 8) 256)) ∧ ((P28 (u28_0 (u27_0 x0 8) 256) 200) ∧ ((InR IntKind.i64 (140 * g28_0 (u27_0 x0 8) 256 + g28_0 (u28_0 (u27_0 x0 8) 256) 200)) ∧ True))))))
def g15_0 (x0 : List Int × Int × Int × Unit) : Int := (if (g27_0 x0 8) = true then g26_0 (u27_0 x0 8) [-1, 0, 59, 60, 36524, 36525, 366, 365] else 140 * g28_0 (u27_0 x0 8) 256 + g28_0 (u28_0 (u27_0 x0 8) 256) 200)
def u15_0 (x0 : List Int × Int × Int × Unit) : List Int × Int × Int × Unit := (if (g27_0 x0 8) = true then u26_0 (u27_0 x0 8) [-1, 0, 59, 60, 36524, 36525, 366, 365] else u28_0 (u28_0 (u27_0 x0 8) 256) 200)
theorem p15_0 (x0 : List Int × Int × Int × Unit) : runF tab ext15 false 14 [] 2000 [0] oks15 kds15 tys15 Tryd.f15.results [true] [.code b15] (entE 0 0 sig15 (x0, ())) (entL sig15 (x0, ())) = some ([Dyn.mk (Ty.int IntKind.i64) (g26_0 (u27_0 x0 8) [-1, 0, 59, 60, 36524, 36525, 366, 365])], [Option.some (Lst.mk (Ty.cons (Ty.sl (Ty.int IntKind.u8)) (Ty.cons (Ty.int IntKind.i64) (Ty.cons (Ty.int IntKind.u64) Ty.unit))) [u26_0 (u27_0 x0 8) [-1, 0, 59, 60, 36524, 36525, 366, 365]])], [P27 x0 8, g27_0 x0 8 = Bool.true, P26 (u27_0 x0 8) [-1, 0, 59, 60, 36524, 36525, 366, 365]]) := by kernel_rfl
theorem p15_1 (x0 : List Int × Int × Int × Unit) : runF tab ext15 false 14 [] 2000 [0] oks15 kds15 tys15 Tryd.f15.results [false] [.code b15] (entE 0 0 sig15 (x0, ())) (entL sig15 (x0, ())) = some ([Dyn.mk (Ty.int IntKind.i64) (140 * g28_0 (u27_0 x0 8) 256 + g28_0 (u28_0 (u27_0 x0 8) 256) 200)], [Option.some (Lst.mk (Ty.cons (Ty.sl (Ty.int IntKind.u8)) (Ty.cons (Ty.int IntKind.i64) (Ty.cons (Ty.int IntKind.u64) Ty.unit))) [u28_0 (u28_0 (u27_0 x0 8) 256) 200])], [P27 x0 8, g27_0 x0 8 = Bool.false, P28 (u27_0 x0 8) 256, InR IntKind.i64 (140 * g28_0 (u27_0 x0 8) 256), P28 (u28_0 (u27_0 x0 8) 256) 200, InR IntKind.i64 (140 * g28_0 (u27_0 x0 8) 256 + g28_0 (u28_0 (u27_0 x0 8) 256) 200)]) := by kernel_rfl
theorem at15 (x0 : List Int × Int × Int × Unit) (h : P15 x0) (K : Ctx) (q : Nat → Value) : AtV Tryd.prog 15 (PostR kds15 oks15 [⟨Ty.int IntKind.i64, g15_0 x0⟩] [some ⟨Ty.cons (Ty.sl (Ty.int IntKind.u8)) (Ty.cons (Ty.int IntKind.i64) (Ty.cons (Ty.int IntKind.u64) Ty.unit)), [u15_0 x0]⟩] [0] q K) 14 K q [0] [.code b15] (entE 0 0 sig15 (x0, ())) (entL sig15 (x0, ())) := by
  unfold P15 at h
  unfold g15_0 u15_0
  obtain ⟨s0, h⟩ := h
  by_cases b0 : (g27_0 x0 8) = true
  · try simp only [if_pos b0] at h ⊢
    obtain ⟨s1, h⟩ := h
    exact AtV.weak (AtV.fin Tryd.func15 tabOk ext15Ok mixed (p15_0 x0) ⟨s0, b0, s1, trivial⟩) ⟨.inl rfl, trivial⟩
  · try simp only [if_neg b0] at h ⊢
    replace b0 := Bool.eq_false_iff.2 b0
    obtain ⟨s1, h⟩ := h
    obtain ⟨s2, h⟩ := h
    obtain ⟨s3, h⟩ := h
    obtain ⟨s4, h⟩ := h
    exact AtV.weak (AtV.fin Tryd.func15 tabOk ext15Ok mixed (p15_1 x0) ⟨s0, b0, s1, s2, s3, s4, trivial⟩) ⟨.inl rfl, trivial⟩

def S15 : Am.Spec := { sig := sig15, pre := fun ⟨x0, _⟩ => P15 x0, upd := fun ⟨x0, _⟩ => [some ⟨Ty.cons (Ty.sl (Ty.int IntKind.u8)) (Ty.cons (Ty.int IntKind.i64) (Ty.cons (Ty.int IntKind.u64) Ty.unit)), [u15_0 x0]⟩], res := fun ⟨x0, _⟩ => [⟨Ty.int IntKind.i64, g15_0 x0⟩], kds := kds15 }
theorem con15 : Contract Tryd.prog 15 S15 := contract_of Tryd.func15 hb15 (Nat.le_of_ble_eq_true (by kernel_rfl)) (fun ⟨x0, _⟩ h _ K q => at15 x0 h K q)


end Go.Proofs.YtkgacclldpicnaaDoor

/- Function 5 (spec.DrawDateOf): its runs between cut points. Written by a program of this repo (gen). -/
set_option linter.unusedVariables false
set_option linter.unusedSimpArgs false
set_option maxRecDepth 100000
namespace Go.Proofs.YtkgacclldpicnaaDoor
open Go Go.Am Go.Proofs
def ext5 : Ext := [(14, S14), (15, S15)]
theorem call5_14 : Callable Tryd.prog 14 := ⟨Tryd.f14, Tryd.func14, by kernel_rfl, by kernel_rfl⟩
theorem call5_15 : Callable Tryd.prog 15 := ⟨Tryd.f15, Tryd.func15, by kernel_rfl, by kernel_rfl⟩
theorem ext5Ok : ExtOk Tryd.prog ext5 := ⟨⟨call5_14, con14⟩, ⟨call5_15, con15⟩, trivial⟩

noncomputable def b5 : Code := bodyOf Tryd.f5
theorem hb5 : Tryd.f5.body = some b5 := by kernel_rfl
def sig5 : List AT := [AT.v (Ty.sl (Ty.int IntKind.u8))]
def tys5 : List Ty := [Ty.int IntKind.i64]
def kds5 : List RK := []
def oks5 : List AT := owns sig5
def P5 (x0 : List Int) : Prop := ((P15 (g14_0 x0)) ∧ True)
def g5_0 (x0 : List Int) : Int := g15_0 (g14_0 x0)
theorem p5_0 (x0 : List Int) : runF tab ext5 false 8 [] 2000 [] oks5 kds5 tys5 Tryd.f5.results [] [.code b5] (entE 0 0 sig5 (x0, ())) (entL sig5 (x0, ())) = some ([Dyn.mk (Ty.int IntKind.i64) (g15_0 (g14_0 x0))], [], [True, P15 (g14_0 x0)]) := by kernel_rfl
theorem at5 (x0 : List Int) (h : P5 x0) (K : Ctx) (q : Nat → Value) : AtV Tryd.prog 5 (PostR kds5 oks5 [⟨Ty.int IntKind.i64, g5_0 x0⟩] [] [] q K) 8 K q [] [.code b5] (entE 0 0 sig5 (x0, ())) (entL sig5 (x0, ())) := by
  unfold P5 at h
  unfold g5_0
  obtain ⟨s0, h⟩ := h
  exact AtV.fin Tryd.func5 tabOk ext5Ok mixed (p5_0 x0) ⟨trivial, s0, trivial⟩

def S5 : Am.Spec := { sig := sig5, pre := fun ⟨x0, _⟩ => P5 x0, res := fun ⟨x0, _⟩ => [⟨Ty.int IntKind.i64, g5_0 x0⟩], kds := kds5 }
theorem con5 : Contract Tryd.prog 5 S5 := contract_of Tryd.func5 hb5 (Nat.le_of_ble_eq_true (by kernel_rfl)) (fun ⟨x0, _⟩ h _ K q => at5 x0 h K q)


end Go.Proofs.YtkgacclldpicnaaDoor

/- Function 18 (impl.within): its runs between cut points. Written by a program of this repo (gen). -/
set_option linter.unusedVariables false
set_option linter.unusedSimpArgs false
set_option maxRecDepth 100000
namespace Go.Proofs.YtkgacclldpicnaaDoor
open Go Go.Am Go.Proofs
def ext18 : Ext := []
theorem ext18Ok : ExtOk Tryd.prog ext18 := trivial

noncomputable def b18 : Code := bodyOf Tryd.f18
theorem hb18 : Tryd.f18.body = some b18 := by kernel_rfl
def sig18 : List AT := [AT.v (Ty.int IntKind.i64), AT.v (Ty.int IntKind.i64), AT.v (Ty.int IntKind.i64)]
def tys18 : List Ty := [Ty.bool]
def kds18 : List RK := []
def oks18 : List AT := owns sig18
def P18 (x0 : Int) (x1 : Int) (x2 : Int) : Prop := True
def g18_0 (x0 : Int) (x1 : Int) (x2 : Int) : Bool := (if (Decidable.decide (x0 ≥ x1)) = true then Decidable.decide (x0 ≤ x2) else Bool.false)
theorem p18_0 (x0 : Int) (x1 : Int) (x2 : Int) : runF tab ext18 false 15 [] 2000 [] oks18 kds18 tys18 Tryd.f18.results [true] [.code b18] (entE 0 0 sig18 (x0, x1, x2, ())) (entL sig18 (x0, x1, x2, ())) = some ([Dyn.mk Ty.bool (Decidable.decide (x0 ≤ x2))], [], [Decidable.decide (x0 ≥ x1) = Bool.true]) := by kernel_rfl
theorem p18_1 (x0 : Int) (x1 : Int) (x2 : Int) : runF tab ext18 false 15 [] 2000 [] oks18 kds18 tys18 Tryd.f18.results [false] [.code b18] (entE 0 0 sig18 (x0, x1, x2, ())) (entL sig18 (x0, x1, x2, ())) = some ([Dyn.mk Ty.bool Bool.false], [], [Decidable.decide (x0 ≥ x1) = Bool.false]) := by kernel_rfl
theorem at18 (x0 : Int) (x1 : Int) (x2 : Int) (h : P18 x0 x1 x2) (K : Ctx) (q : Nat → Value) : AtV Tryd.prog 18 (PostR kds18 oks18 [⟨Ty.bool, g18_0 x0 x1 x2⟩] [] [] q K) 15 K q [] [.code b18] (entE 0 0 sig18 (x0, x1, x2, ())) (entL sig18 (x0, x1, x2, ())) := by
  unfold P18 at h
  unfold g18_0
  by_cases b0 : (Decidable.decide (x0 ≥ x1)) = true
  · try simp only [if_pos b0] at h ⊢
    exact AtV.fin Tryd.func18 tabOk ext18Ok mixed (p18_0 x0 x1 x2) ⟨b0, trivial⟩
  · try simp only [if_neg b0] at h ⊢
    replace b0 := Bool.eq_false_iff.2 b0
    exact AtV.fin Tryd.func18 tabOk ext18Ok mixed (p18_1 x0 x1 x2) ⟨b0, trivial⟩

def S18 : Am.Spec := { sig := sig18, pre := fun ⟨x0, x1, x2, _⟩ => P18 x0 x1 x2, res := fun ⟨x0, x1, x2, _⟩ => [⟨Ty.bool, g18_0 x0 x1 x2⟩], kds := kds18 }
theorem con18 : Contract Tryd.prog 18 S18 := contract_of Tryd.func18 hb18 (Nat.le_of_ble_eq_true (by kernel_rfl)) (fun ⟨x0, x1, x2, _⟩ h _ K q => at18 x0 x1 x2 h K q)


end Go.Proofs.YtkgacclldpicnaaDoor

/- Function 16 (impl.isDay): its runs between cut points. Written by a program of this repo (gen). -/
set_option linter.unusedVariables false
set_option linter.unusedSimpArgs false
set_option maxRecDepth 100000
namespace Go.Proofs.YtkgacclldpicnaaDoor
open Go Go.Am Go.Proofs
def ext16 : Ext := [(18, S18)]
theorem call16_18 : Callable Tryd.prog 18 := ⟨Tryd.f18, Tryd.func18, by kernel_rfl, by kernel_rfl⟩
theorem ext16Ok : ExtOk Tryd.prog ext16 := ⟨⟨call16_18, con18⟩, trivial⟩

noncomputable def b16 : Code := bodyOf Tryd.f16
theorem hb16 : Tryd.f16.body = some b16 := by kernel_rfl
def sig16 : List AT := [AT.v (Ty.int IntKind.i64)]
def tys16 : List Ty := [Ty.bool]
def kds16 : List RK := []
def oks16 : List AT := owns sig16
def P16 (x0 : Int) : Prop := True
def g16_0 (x0 : Int) : Bool := g18_0 x0 0 36524
theorem p16_0 (x0 : Int) : runF tab ext16 false 5 [] 2000 [] oks16 kds16 tys16 Tryd.f16.results [] [.code b16] (entE 0 0 sig16 (x0, ())) (entL sig16 (x0, ())) = some ([Dyn.mk Ty.bool (g18_0 x0 0 36524)], [], [True]) := by kernel_rfl
theorem at16 (x0 : Int) (h : P16 x0) (K : Ctx) (q : Nat → Value) : AtV Tryd.prog 16 (PostR kds16 oks16 [⟨Ty.bool, g16_0 x0⟩] [] [] q K) 5 K q [] [.code b16] (entE 0 0 sig16 (x0, ())) (entL sig16 (x0, ())) := by
  unfold P16 at h
  unfold g16_0
  exact AtV.fin Tryd.func16 tabOk ext16Ok mixed (p16_0 x0) ⟨trivial, trivial⟩

def S16 : Am.Spec := { sig := sig16, pre := fun ⟨x0, _⟩ => P16 x0, res := fun ⟨x0, _⟩ => [⟨Ty.bool, g16_0 x0⟩], kds := kds16 }
theorem con16 : Contract Tryd.prog 16 S16 := contract_of Tryd.func16 hb16 (Nat.le_of_ble_eq_true (by kernel_rfl)) (fun ⟨x0, _⟩ h _ K q => at16 x0 h K q)


end Go.Proofs.YtkgacclldpicnaaDoor

/- Function 19 (impl.monthLength): its runs between cut points. Written by a program of this repo (gen). -/
set_option linter.unusedVariables false
set_option linter.unusedSimpArgs false
set_option maxRecDepth 100000
namespace Go.Proofs.YtkgacclldpicnaaDoor
open Go Go.Am Go.Proofs
def ext19 : Ext := []
theorem ext19Ok : ExtOk Tryd.prog ext19 := trivial

noncomputable def b19 : Code := bodyOf Tryd.f19
theorem hb19 : Tryd.f19.body = some b19 := by kernel_rfl
def sig19 : List AT := [AT.v (Ty.int IntKind.i64), AT.v (Ty.int IntKind.i64)]
def tys19 : List Ty := [Ty.int IntKind.i64]
def kds19 : List RK := []
def oks19 : List AT := owns sig19
def P19 (x0 : Int) (x1 : Int) : Prop := (if (x1 == 2) = true then ((InR IntKind.i64 (Int.tmod x0 4)) ∧ True) else True)
def g19_0 (x0 : Int) (x1 : Int) : Int := (if (x1 == 2) = true then (if (Int.tmod x0 4 == 0) = true then 29 else 28) else (if (x1 == 4) = true then 30 else (if (x1 == 6) = true then 30 else (if (x1 == 9) = true then 30 else (if (x1 == 11) = true then 30 else 31)))))
theorem p19_0 (x0 : Int) (x1 : Int) : runF tab ext19 false 16 [] 2000 [] oks19 kds19 tys19 Tryd.f19.results [true, true] [.code b19] (entE 0 0 sig19 (x0, x1, ())) (entL sig19 (x0, x1, ())) = some ([Dyn.mk (Ty.int IntKind.i64) 29], [], [(x1 == 2) = Bool.true, (4 : Int) ≠ (0 : Int), InR IntKind.i64 (Int.tmod x0 4), (Int.tmod x0 4 == 0) = Bool.true]) := by kernel_rfl
theorem p19_1 (x0 : Int) (x1 : Int) : runF tab ext19 false 16 [] 2000 [] oks19 kds19 tys19 Tryd.f19.results [true, false] [.code b19] (entE 0 0 sig19 (x0, x1, ())) (entL sig19 (x0, x1, ())) = some ([Dyn.mk (Ty.int IntKind.i64) 28], [], [(x1 == 2) = Bool.true, (4 : Int) ≠ (0 : Int), InR IntKind.i64 (Int.tmod x0 4), (Int.tmod x0 4 == 0) = Bool.false]) := by kernel_rfl
theorem p19_2 (x0 : Int) (x1 : Int) : runF tab ext19 false 16 [] 2000 [] oks19 kds19 tys19 Tryd.f19.results [false, true] [.code b19] (entE 0 0 sig19 (x0, x1, ())) (entL sig19 (x0, x1, ())) = some ([Dyn.mk (Ty.int IntKind.i64) 30], [], [(x1 == 2) = Bool.false, (x1 == 4) = Bool.true]) := by kernel_rfl
theorem p19_3 (x0 : Int) (x1 : Int) : runF tab ext19 false 16 [] 2000 [] oks19 kds19 tys19 Tryd.f19.results [false, false, true] [.code b19] (entE 0 0 sig19 (x0, x1, ())) (entL sig19 (x0, x1, ())) = some ([Dyn.mk (Ty.int IntKind.i64) 30], [], [(x1 == 2) = Bool.false, (x1 == 4) = Bool.false, (x1 == 6) = Bool.true]) := by kernel_rfl
theorem p19_4 (x0 : Int) (x1 : Int) : runF tab ext19 false 16 [] 2000 [] oks19 kds19 tys19 Tryd.f19.results [false, false, false, true] [.code b19] (entE 0 0 sig19 (x0, x1, ())) (entL sig19 (x0, x1, ())) = some ([Dyn.mk (Ty.int IntKind.i64) 30], [], [(x1 == 2) = Bool.false, (x1 == 4) = Bool.false, (x1 == 6) = Bool.false, (x1 == 9) = Bool.true]) := by kernel_rfl
theorem p19_5 (x0 : Int) (x1 : Int) : runF tab ext19 false 16 [] 2000 [] oks19 kds19 tys19 Tryd.f19.results [false, false, false, false, true] [.code b19] (entE 0 0 sig19 (x0, x1, ())) (entL sig19 (x0, x1, ())) = some ([Dyn.mk (Ty.int IntKind.i64) 30], [], [(x1 == 2) = Bool.false, (x1 == 4) = Bool.false, (x1 == 6) = Bool.false, (x1 == 9) = Bool.false, (x1 == 11) = Bool.true]) := by kernel_rfl
theorem p19_6 (x0 : Int) (x1 : Int) : runF tab ext19 false 16 [] 2000 [] oks19 kds19 tys19 Tryd.f19.results [false, false, false, false, false] [.code b19] (entE 0 0 sig19 (x0, x1, ())) (entL sig19 (x0, x1, ())) = some ([Dyn.mk (Ty.int IntKind.i64) 31], [], [(x1 == 2) = Bool.false, (x1 == 4) = Bool.false, (x1 == 6) = Bool.false, (x1 == 9) = Bool.false, (x1 == 11) = Bool.false]) := by kernel_rfl
theorem at19 (x0 : Int) (x1 : Int) (h : P19 x0 x1) (K : Ctx) (q : Nat → Value) : AtV Tryd.prog 19 (PostR kds19 oks19 [⟨Ty.int IntKind.i64, g19_0 x0 x1⟩] [] [] q K) 16 K q [] [.code b19] (entE 0 0 sig19 (x0, x1, ())) (entL sig19 (x0, x1, ())) := by
  unfold P19 at h
  unfold g19_0
  by_cases b0 : (x1 == 2) = true
  · try simp only [if_pos b0] at h ⊢
    obtain ⟨s0, h⟩ := h
    by_cases b1 : (Int.tmod x0 4 == 0) = true
    · try simp only [if_pos b1] at h ⊢
      exact AtV.fin Tryd.func19 tabOk ext19Ok mixed (p19_0 x0 x1) ⟨b0, (by decide), s0, b1, trivial⟩
    · try simp only [if_neg b1] at h ⊢
      replace b1 := Bool.eq_false_iff.2 b1
      exact AtV.fin Tryd.func19 tabOk ext19Ok mixed (p19_1 x0 x1) ⟨b0, (by decide), s0, b1, trivial⟩
  · try simp only [if_neg b0] at h ⊢
    replace b0 := Bool.eq_false_iff.2 b0
    by_cases b1 : (x1 == 4) = true
    · try simp only [if_pos b1] at h ⊢
      exact AtV.fin Tryd.func19 tabOk ext19Ok mixed (p19_2 x0 x1) ⟨b0, b1, trivial⟩
    · try simp only [if_neg b1] at h ⊢
      replace b1 := Bool.eq_false_iff.2 b1
      by_cases b2 : (x1 == 6) = true
      · try simp only [if_pos b2] at h ⊢
        exact AtV.fin Tryd.func19 tabOk ext19Ok mixed (p19_3 x0 x1) ⟨b0, b1, b2, trivial⟩
      · try simp only [if_neg b2] at h ⊢
        replace b2 := Bool.eq_false_iff.2 b2
        by_cases b3 : (x1 == 9) = true
        · try simp only [if_pos b3] at h ⊢
          exact AtV.fin Tryd.func19 tabOk ext19Ok mixed (p19_4 x0 x1) ⟨b0, b1, b2, b3, trivial⟩
        · try simp only [if_neg b3] at h ⊢
          replace b3 := Bool.eq_false_iff.2 b3
          by_cases b4 : (x1 == 11) = true
          · try simp only [if_pos b4] at h ⊢
            exact AtV.fin Tryd.func19 tabOk ext19Ok mixed (p19_5 x0 x1) ⟨b0, b1, b2, b3, b4, trivial⟩
          · try simp only [if_neg b4] at h ⊢
            replace b4 := Bool.eq_false_iff.2 b4
            exact AtV.fin Tryd.func19 tabOk ext19Ok mixed (p19_6 x0 x1) ⟨b0, b1, b2, b3, b4, trivial⟩

def S19 : Am.Spec := { sig := sig19, pre := fun ⟨x0, x1, _⟩ => P19 x0 x1, res := fun ⟨x0, x1, _⟩ => [⟨Ty.int IntKind.i64, g19_0 x0 x1⟩], kds := kds19 }
theorem con19 : Contract Tryd.prog 19 S19 := contract_of Tryd.func19 hb19 (Nat.le_of_ble_eq_true (by kernel_rfl)) (fun ⟨x0, x1, _⟩ h _ K q => at19 x0 x1 h K q)


end Go.Proofs.YtkgacclldpicnaaDoor

/- Function 20 (impl.dayOf): its runs between cut points. Written by a program of this repo (gen). -/
set_option linter.unusedVariables false
set_option linter.unusedSimpArgs false
set_option maxRecDepth 100000
namespace Go.Proofs.YtkgacclldpicnaaDoor
open Go Go.Am Go.Proofs
def ext20 : Ext := [(19, S19)]
theorem call20_19 : Callable Tryd.prog 19 := ⟨Tryd.f19, Tryd.func19, by kernel_rfl, by kernel_rfl⟩
theorem ext20Ok : ExtOk Tryd.prog ext20 := ⟨⟨call20_19, con19⟩, trivial⟩

noncomputable def b20 : Code := bodyOf Tryd.f20
theorem hb20 : Tryd.f20.body = some b20 := by kernel_rfl
def sig20 : List AT := [AT.v (Ty.int IntKind.i64), AT.v (Ty.int IntKind.i64), AT.v (Ty.int IntKind.i64)]
def tys20 : List Ty := [Ty.int IntKind.i64]
def kds20 : List RK := []
def oks20 : List AT := owns sig20
def E20_3 (v7 : Int) (v8 : Int) (x0 : Int) (x1 : Int) : Env := [(0, PV.a (Atom.val (Value.int IntKind.i64 x0))), (1, PV.a (Atom.val (Value.int IntKind.i64 x1))), (7, PV.a (Atom.val (Value.int IntKind.i64 v7))), (8, PV.a (Atom.val (Value.int IntKind.i64 v8)))]
def L20_3 (v7 : Int) (v8 : Int) (x0 : Int) (x1 : Int) : Heap := []
mutual
def R20 : Nat → Int → Int → Int → List Dyn → Prop
  | 0, _, _, _, _ => False
  | n + 1, x0, x1, x2, ds => ((InR IntKind.i64 (x0 - 2000)) ∧ ((InR IntKind.i64 ((x0 - 2000) * 365)) ∧ ((InR IntKind.i64 (x0 - 1997)) ∧ ((InR IntKind.i64 (Int.tdiv (x0 - 1997) 4)) ∧ ((InR IntKind.i64 ((x0 - 2000) * 365 + Int.tdiv (x0 - 1997) 4)) ∧ ((InR IntKind.i64 ((x0 - 2000) * 365 + Int.tdiv (x0 - 1997) 4 + x2)) ∧ ((InR IntKind.i64 ((x0 - 2000) * 365 + Int.tdiv (x0 - 1997) 4 + x2 - 1)) ∧ (R20_3 n ((x0 - 2000) * 365 + Int.tdiv (x0 - 1997) 4 + x2 - 1) (1) (x0) (x1) ds))))))))
def R20_3 : Nat → Int → Int → Int → Int → List Dyn → Prop
  | 0, _, _, _, _, _ => False
  | n + 1, v7, v8, x0, x1, ds => (if (Decidable.decide (v8 < x1)) = true then ((P19 x0 v8) ∧ ((InR IntKind.i64 (v7 + g19_0 x0 v8)) ∧ ((InR IntKind.i64 (v8 + 1)) ∧ (R20_3 n (v7 + g19_0 x0 v8) (v8 + 1) (x0) (x1) ds)))) else (ds = [Dyn.mk (Ty.int IntKind.i64) v7]))
end
theorem p20_0 (x0 : Int) (x1 : Int) (x2 : Int) : Am.runN tab ext20 false 30 [] 2000 [] [] [0, 1, 7, 8] [] [] [.code b20] (entE 0 0 sig20 (x0, x1, x2, ())) (entL sig20 (x0, x1, x2, ())) = some (cutAt b20 3, E20_3 ((x0 - 2000) * 365 + Int.tdiv (x0 - 1997) 4 + x2 - 1) (1) (x0) (x1), L20_3 ((x0 - 2000) * 365 + Int.tdiv (x0 - 1997) 4 + x2 - 1) (1) (x0) (x1), [InR IntKind.i64 (x0 - 2000), InR IntKind.i64 ((x0 - 2000) * 365), InR IntKind.i64 (x0 - 1997), (4 : Int) ≠ (0 : Int), InR IntKind.i64 (Int.tdiv (x0 - 1997) 4), InR IntKind.i64 ((x0 - 2000) * 365 + Int.tdiv (x0 - 1997) 4), InR IntKind.i64 ((x0 - 2000) * 365 + Int.tdiv (x0 - 1997) 4 + x2), InR IntKind.i64 ((x0 - 2000) * 365 + Int.tdiv (x0 - 1997) 4 + x2 - 1)]) := by kernel_rfl
theorem p20_1 (v7 : Int) (v8 : Int) (x0 : Int) (x1 : Int) : Am.runN tab ext20 false 30 [] 2000 [] [] [0, 1, 7, 8] [] [true] (cutAt b20 3) (E20_3 v7 v8 x0 x1) (L20_3 v7 v8 x0 x1) = some (cutAt b20 3, E20_3 (v7 + g19_0 x0 v8) (v8 + 1) (x0) (x1), L20_3 (v7 + g19_0 x0 v8) (v8 + 1) (x0) (x1), [Decidable.decide (v8 < x1) = Bool.true, P19 x0 v8, InR IntKind.i64 (v7 + g19_0 x0 v8), InR IntKind.i64 (v8 + 1)]) := by kernel_rfl
theorem p20_2 (v7 : Int) (v8 : Int) (x0 : Int) (x1 : Int) : runF tab ext20 false 30 [] 2000 [] oks20 kds20 tys20 Tryd.f20.results [false] (cutAt b20 3) (E20_3 v7 v8 x0 x1) (L20_3 v7 v8 x0 x1) = some ([Dyn.mk (Ty.int IntKind.i64) v7], [], [Decidable.decide (v8 < x1) = Bool.false]) := by kernel_rfl
theorem snd20 : ∀ n, (∀ (x0 : Int) (x1 : Int) (x2 : Int) ds, R20 n x0 x1 x2 ds → ∀ K q, AtV Tryd.prog 20 (PostR kds20 oks20 ds [] [] q K) 30 K q [] [.code b20] (entE 0 0 sig20 (x0, x1, x2, ())) (entL sig20 (x0, x1, x2, ()))) ∧ (∀ (v7 : Int) (v8 : Int) (x0 : Int) (x1 : Int) ds, R20_3 n v7 v8 x0 x1 ds → ∀ K q, AtV Tryd.prog 20 (PostR kds20 oks20 ds [] [] q K) 30 K q [] (cutAt b20 3) (E20_3 v7 v8 x0 x1) (L20_3 v7 v8 x0 x1)) := by
  intro n
  induction n with
  | zero => exact ⟨fun _ _ _ _ h => by simp only [R20] at h, fun _ _ _ _ _ h => by simp only [R20_3] at h⟩
  | succ n ih =>
  obtain ⟨ih, ih3⟩ := ih
  refine ⟨?_, ?_⟩
  · intro x0 x1 x2 ds h K q
    rw [R20] at h
    obtain ⟨s0, h⟩ := h
    obtain ⟨s1, h⟩ := h
    obtain ⟨s2, h⟩ := h
    obtain ⟨s3, h⟩ := h
    obtain ⟨s4, h⟩ := h
    obtain ⟨s5, h⟩ := h
    obtain ⟨s6, h⟩ := h
    exact AtV.runN tabOk ext20Ok mixed (p20_0 x0 x1 x2) ⟨s0, s1, s2, (by decide), s3, s4, s5, s6, trivial⟩ (ih3 _ _ _ _ _ h K q)

  · intro v7 v8 x0 x1 ds h K q
    rw [R20_3] at h
    by_cases b0 : (Decidable.decide (v8 < x1)) = true
    · rw [if_pos b0] at h
      obtain ⟨s0, h⟩ := h
      obtain ⟨s1, h⟩ := h
      obtain ⟨s2, h⟩ := h
      exact AtV.runN tabOk ext20Ok mixed (p20_1 v7 v8 x0 x1) ⟨b0, s0, s1, s2, trivial⟩ (ih3 _ _ _ _ _ h K q)
    · rw [if_neg b0] at h
      replace b0 := Bool.eq_false_iff.2 b0
      subst h
      exact AtV.fin Tryd.func20 tabOk ext20Ok mixed (p20_2 v7 v8 x0 x1) ⟨b0, trivial⟩



def ms20 (y : Int) : Nat → Int
  | 0 => 0
  | k + 1 => ms20 y k + g19_0 y ((k : Int) + 1)
def bs20 (y d : Int) : Int := (y - 2000) * 365 + Int.tdiv (y - 1997) 4 + d - 1
def g20_0 (x0 x1 x2 : Int) : Int := bs20 x0 x2 + ms20 x0 (x1 - 1).toNat
def P20 (x0 x1 x2 : Int) : Prop := (2000 ≤ x0 ∧ x0 ≤ 2099) ∧ (1 ≤ x1 ∧ x1 ≤ 12) ∧ (1 ≤ x2 ∧ x2 ≤ 31)

theorem len20 {y m : Int} (hy : 2000 ≤ y ∧ y ≤ 2099) : P19 y m ∧ 28 ≤ g19_0 y m ∧ g19_0 y m ≤ 31 := by
  have e : Int.tmod y 4 = y % 4 := Int.tmod_eq_emod_of_nonneg (by omega)
  unfold P19 g19_0
  rw [e]
  have hi : InR .i64 (y % 4) := by rw [i64_iff]; omega
  refine ⟨?_, ?_, ?_⟩
  · split
    · exact ⟨hi, trivial⟩
    · trivial
  · repeat' split
    all_goals omega
  · repeat' split
    all_goals omega

theorem msb20 {y : Int} (hy : 2000 ≤ y ∧ y ≤ 2099) : ∀ k, 0 ≤ ms20 y k ∧ ms20 y k ≤ 31 * k
  | 0 => by simp [ms20]
  | k + 1 => by
    have := msb20 hy k
    have := len20 hy (m := (k : Int) + 1)
    simp only [ms20]
    omega

theorem runM20 {y m : Int} (hy : 2000 ≤ y ∧ y ≤ 2099) (hm : 1 ≤ m ∧ m ≤ 12) (v : Int) (hv : 0 ≤ v ∧ v ≤ 1000000) : ∀ (k i : Nat), (i : Int) + k = m - 1 →
    R20_3 (k + 1) (v + ms20 y i) ((i : Int) + 1) y m [⟨.int .i64, v + ms20 y (m - 1).toNat⟩] := by
  intro k
  induction k with
  | zero =>
    intro i hi
    rw [R20_3, if_neg (by simp; omega), show (m - 1).toNat = i by omega]
  | succ k ih =>
    intro i hi
    obtain ⟨p, l1, l2⟩ := len20 hy (m := (i : Int) + 1)
    obtain ⟨b1, b2⟩ := msb20 hy i
    rw [R20_3, if_pos (by simp; omega)]
    have e1 : v + ms20 y i + g19_0 y ((i : Int) + 1) = v + ms20 y (i + 1) := by simp only [ms20]; omega
    have e2 : (i : Int) + 1 + 1 = ((i + 1 : Nat) : Int) + 1 := by omega
    refine ⟨p, by rw [i64_iff]; omega, by rw [i64_iff]; omega, ?_⟩
    rw [e1, e2]
    exact ih (i + 1) (by omega)

theorem top20 (x0 x1 x2 : Int) (h : P20 x0 x1 x2) : R20 ((x1 - 1).toNat + 1 + 1) x0 x1 x2 [⟨.int .i64, g20_0 x0 x1 x2⟩] := by
  obtain ⟨h0, h1, h2⟩ := h
  have e : Int.tdiv (x0 - 1997) 4 = (x0 - 1997) / 4 := Int.tdiv_eq_ediv_of_nonneg (by omega)
  rw [R20]
  have := runM20 h0 h1 (bs20 x0 x2) (by unfold bs20; rw [e]; omega) (x1 - 1).toNat 0 (by omega)
  refine ⟨by rw [i64_iff]; omega, by rw [i64_iff]; omega, by rw [i64_iff]; omega, by rw [i64_iff, e]; omega, by rw [i64_iff, e]; omega, by rw [i64_iff, e]; omega, by rw [i64_iff, e]; omega, ?_⟩
  simpa [ms20, g20_0, bs20] using this

def S20 : Am.Spec := { sig := sig20, pre := fun ⟨x0, x1, x2, _⟩ => P20 x0 x1 x2, res := fun ⟨x0, x1, x2, _⟩ => [⟨.int .i64, g20_0 x0 x1 x2⟩] }
theorem con20 : Contract Tryd.prog 20 S20 := contract_of Tryd.func20 hb20 (Nat.le_of_ble_eq_true (by kernel_rfl)) (fun ⟨x0, x1, x2, _⟩ h hwf K q =>
  (snd20 _).1 x0 x1 x2 _ (top20 x0 x1 x2 h) K q)

end Go.Proofs.YtkgacclldpicnaaDoor

/- Function 17 (impl.dateOf): its runs between cut points. Written by a program of this repo (gen). -/
set_option linter.unusedVariables false
set_option linter.unusedSimpArgs false
set_option maxRecDepth 100000
namespace Go.Proofs.YtkgacclldpicnaaDoor
open Go Go.Am Go.Proofs
def ext17 : Ext := [(20, S20)]
theorem call17_20 : Callable Tryd.prog 20 := ⟨Tryd.f20, Tryd.func20, by kernel_rfl, by kernel_rfl⟩
theorem ext17Ok : ExtOk Tryd.prog ext17 := ⟨⟨call17_20, con20⟩, trivial⟩

noncomputable def b17 : Code := bodyOf Tryd.f17
theorem hb17 : Tryd.f17.body = some b17 := by kernel_rfl
def sig17 : List AT := [AT.v (Ty.int IntKind.i64)]
def tys17 : List Ty := [Ty.int IntKind.i64, Ty.int IntKind.i64, Ty.int IntKind.i64]
def kds17 : List RK := []
def oks17 : List AT := owns sig17
def E17_2 (v5 : Int) (x0 : Int) : Env := [(0, PV.a (Atom.val (Value.int IntKind.i64 x0))), (5, PV.a (Atom.val (Value.int IntKind.i64 v5))), (6, PV.a (Atom.val (Value.int IntKind.i64 1)))]
def L17_2 (v5 : Int) (x0 : Int) : Heap := []
def E17_4 (v6 : Int) (x0 : Int) (v5 : Int) : Env := [(0, PV.a (Atom.val (Value.int IntKind.i64 x0))), (5, PV.a (Atom.val (Value.int IntKind.i64 v5))), (6, PV.a (Atom.val (Value.int IntKind.i64 v6)))]
def L17_4 (v6 : Int) (x0 : Int) (v5 : Int) : Heap := []
mutual
def R17 : Nat → Int → List Dyn → Prop
  | 0, _, _ => False
  | n + 1, x0, ds => (R17_2 n (2000) (x0) ds)
def R17_2 : Nat → Int → Int → List Dyn → Prop
  | 0, _, _, _ => False
  | n + 1, v5, x0, ds => (if (Decidable.decide (v5 < 2099)) = true then ((InR IntKind.i64 (v5 + 1)) ∧ ((P20 (v5 + 1) 1 1) ∧ (if (Decidable.decide (g20_0 (v5 + 1) 1 1 ≤ x0)) = true then ((InR IntKind.i64 (v5 + 1)) ∧ (R17_2 n (v5 + 1) (x0) ds)) else (R17_4 n (1) (x0) (v5) ds)))) else (R17_4 n (1) (x0) (v5) ds))
def R17_4 : Nat → Int → Int → Int → List Dyn → Prop
  | 0, _, _, _, _ => False
  | n + 1, v6, x0, v5, ds => (if (Decidable.decide (v6 < 12)) = true then ((InR IntKind.i64 (v6 + 1)) ∧ ((P20 v5 (v6 + 1) 1) ∧ (if (Decidable.decide (g20_0 v5 (v6 + 1) 1 ≤ x0)) = true then ((InR IntKind.i64 (v6 + 1)) ∧ (R17_4 n (v6 + 1) (x0) (v5) ds)) else ((P20 v5 v6 1) ∧ ((InR IntKind.i64 (x0 - g20_0 v5 v6 1)) ∧ ((InR IntKind.i64 (x0 - g20_0 v5 v6 1 + 1)) ∧ (ds = [Dyn.mk (Ty.int IntKind.i64) v5, Dyn.mk (Ty.int IntKind.i64) v6, Dyn.mk (Ty.int IntKind.i64) (x0 - g20_0 v5 v6 1 + 1)]))))))) else ((P20 v5 v6 1) ∧ ((InR IntKind.i64 (x0 - g20_0 v5 v6 1)) ∧ ((InR IntKind.i64 (x0 - g20_0 v5 v6 1 + 1)) ∧ (ds = [Dyn.mk (Ty.int IntKind.i64) v5, Dyn.mk (Ty.int IntKind.i64) v6, Dyn.mk (Ty.int IntKind.i64) (x0 - g20_0 v5 v6 1 + 1)])))))
end
theorem p17_0 (x0 : Int) : Am.runN tab ext17 false 38 [] 2000 [] [] [0, 5, 6] [] [] [.code b17] (entE 0 0 sig17 (x0, ())) (entL sig17 (x0, ())) = some (cutAt b17 2, E17_2 (2000) (x0), L17_2 (2000) (x0), []) := by kernel_rfl
theorem p17_1 (v5 : Int) (x0 : Int) : Am.runN tab ext17 false 38 [] 2000 [] [] [0, 5, 6] [] [true, true] (cutAt b17 2) (E17_2 v5 x0) (L17_2 v5 x0) = some (cutAt b17 2, E17_2 (v5 + 1) (x0), L17_2 (v5 + 1) (x0), [Decidable.decide (v5 < 2099) = Bool.true, InR IntKind.i64 (v5 + 1), P20 (v5 + 1) 1 1, Decidable.decide (g20_0 (v5 + 1) 1 1 ≤ x0) = Bool.true, InR IntKind.i64 (v5 + 1)]) := by kernel_rfl
theorem p17_2 (v5 : Int) (x0 : Int) : Am.runN tab ext17 false 38 [] 2000 [] [] [0, 5, 6] [] [true, false] (cutAt b17 2) (E17_2 v5 x0) (L17_2 v5 x0) = some (cutAt b17 4, E17_4 (1) (x0) (v5), L17_4 (1) (x0) (v5), [Decidable.decide (v5 < 2099) = Bool.true, InR IntKind.i64 (v5 + 1), P20 (v5 + 1) 1 1, Decidable.decide (g20_0 (v5 + 1) 1 1 ≤ x0) = Bool.false]) := by kernel_rfl
theorem p17_3 (v5 : Int) (x0 : Int) : Am.runN tab ext17 false 38 [] 2000 [] [] [0, 5, 6] [] [false, false] (cutAt b17 2) (E17_2 v5 x0) (L17_2 v5 x0) = some (cutAt b17 4, E17_4 (1) (x0) (v5), L17_4 (1) (x0) (v5), [Decidable.decide (v5 < 2099) = Bool.false, Bool.false = Bool.false]) := by kernel_rfl
theorem p17_4 (v6 : Int) (x0 : Int) (v5 : Int) : Am.runN tab ext17 false 38 [] 2000 [] [] [0, 5, 6] [] [true, true] (cutAt b17 4) (E17_4 v6 x0 v5) (L17_4 v6 x0 v5) = some (cutAt b17 4, E17_4 (v6 + 1) (x0) (v5), L17_4 (v6 + 1) (x0) (v5), [Decidable.decide (v6 < 12) = Bool.true, InR IntKind.i64 (v6 + 1), P20 v5 (v6 + 1) 1, Decidable.decide (g20_0 v5 (v6 + 1) 1 ≤ x0) = Bool.true, InR IntKind.i64 (v6 + 1)]) := by kernel_rfl
theorem p17_5 (v6 : Int) (x0 : Int) (v5 : Int) : runF tab ext17 false 38 [] 2000 [] oks17 kds17 tys17 Tryd.f17.results [true, false] (cutAt b17 4) (E17_4 v6 x0 v5) (L17_4 v6 x0 v5) = some ([Dyn.mk (Ty.int IntKind.i64) v5, Dyn.mk (Ty.int IntKind.i64) v6, Dyn.mk (Ty.int IntKind.i64) (x0 - g20_0 v5 v6 1 + 1)], [], [Decidable.decide (v6 < 12) = Bool.true, InR IntKind.i64 (v6 + 1), P20 v5 (v6 + 1) 1, Decidable.decide (g20_0 v5 (v6 + 1) 1 ≤ x0) = Bool.false, P20 v5 v6 1, InR IntKind.i64 (x0 - g20_0 v5 v6 1), InR IntKind.i64 (x0 - g20_0 v5 v6 1 + 1)]) := by kernel_rfl
theorem p17_6 (v6 : Int) (x0 : Int) (v5 : Int) : runF tab ext17 false 38 [] 2000 [] oks17 kds17 tys17 Tryd.f17.results [false, false] (cutAt b17 4) (E17_4 v6 x0 v5) (L17_4 v6 x0 v5) = some ([Dyn.mk (Ty.int IntKind.i64) v5, Dyn.mk (Ty.int IntKind.i64) v6, Dyn.mk (Ty.int IntKind.i64) (x0 - g20_0 v5 v6 1 + 1)], [], [Decidable.decide (v6 < 12) = Bool.false, Bool.false = Bool.false, P20 v5 v6 1, InR IntKind.i64 (x0 - g20_0 v5 v6 1), InR IntKind.i64 (x0 - g20_0 v5 v6 1 + 1)]) := by kernel_rfl
theorem snd17 : ∀ n, (∀ (x0 : Int) ds, R17 n x0 ds → ∀ K q, AtV Tryd.prog 17 (PostR kds17 oks17 ds [] [] q K) 38 K q [] [.code b17] (entE 0 0 sig17 (x0, ())) (entL sig17 (x0, ()))) ∧ (∀ (v5 : Int) (x0 : Int) ds, R17_2 n v5 x0 ds → ∀ K q, AtV Tryd.prog 17 (PostR kds17 oks17 ds [] [] q K) 38 K q [] (cutAt b17 2) (E17_2 v5 x0) (L17_2 v5 x0)) ∧ (∀ (v6 : Int) (x0 : Int) (v5 : Int) ds, R17_4 n v6 x0 v5 ds → ∀ K q, AtV Tryd.prog 17 (PostR kds17 oks17 ds [] [] q K) 38 K q [] (cutAt b17 4) (E17_4 v6 x0 v5) (L17_4 v6 x0 v5)) := by
  intro n
  induction n with
  | zero => exact ⟨fun _ _ h => by simp only [R17] at h, fun _ _ _ h => by simp only [R17_2] at h, fun _ _ _ _ h => by simp only [R17_4] at h⟩
  | succ n ih =>
  obtain ⟨ih, ih2, ih4⟩ := ih
  refine ⟨?_, ?_, ?_⟩
  · intro x0 ds h K q
    rw [R17] at h
    exact AtV.runN tabOk ext17Ok mixed (p17_0 x0) trivial (ih2 _ _ _ h K q)

  · intro v5 x0 ds h K q
    rw [R17_2] at h
    by_cases b0 : (Decidable.decide (v5 < 2099)) = true
    · rw [if_pos b0] at h
      obtain ⟨s0, h⟩ := h
      obtain ⟨s1, h⟩ := h
      by_cases b1 : (Decidable.decide (g20_0 (v5 + 1) 1 1 ≤ x0)) = true
      · rw [if_pos b1] at h
        obtain ⟨s2, h⟩ := h
        exact AtV.runN tabOk ext17Ok mixed (p17_1 v5 x0) ⟨b0, s0, s1, b1, s2, trivial⟩ (ih2 _ _ _ h K q)
      · rw [if_neg b1] at h
        replace b1 := Bool.eq_false_iff.2 b1
        exact AtV.runN tabOk ext17Ok mixed (p17_2 v5 x0) ⟨b0, s0, s1, b1, trivial⟩ (ih4 _ _ _ _ h K q)
    · rw [if_neg b0] at h
      replace b0 := Bool.eq_false_iff.2 b0
      exact AtV.runN tabOk ext17Ok mixed (p17_3 v5 x0) ⟨b0, rfl, trivial⟩ (ih4 _ _ _ _ h K q)

  · intro v6 x0 v5 ds h K q
    rw [R17_4] at h
    by_cases b0 : (Decidable.decide (v6 < 12)) = true
    · rw [if_pos b0] at h
      obtain ⟨s0, h⟩ := h
      obtain ⟨s1, h⟩ := h
      by_cases b1 : (Decidable.decide (g20_0 v5 (v6 + 1) 1 ≤ x0)) = true
      · rw [if_pos b1] at h
        obtain ⟨s2, h⟩ := h
        exact AtV.runN tabOk ext17Ok mixed (p17_4 v6 x0 v5) ⟨b0, s0, s1, b1, s2, trivial⟩ (ih4 _ _ _ _ h K q)
      · rw [if_neg b1] at h
        replace b1 := Bool.eq_false_iff.2 b1
        obtain ⟨s2, h⟩ := h
        obtain ⟨s3, h⟩ := h
        obtain ⟨s4, h⟩ := h
        subst h
        exact AtV.fin Tryd.func17 tabOk ext17Ok mixed (p17_5 v6 x0 v5) ⟨b0, s0, s1, b1, s2, s3, s4, trivial⟩
    · rw [if_neg b0] at h
      replace b0 := Bool.eq_false_iff.2 b0
      obtain ⟨s0, h⟩ := h
      obtain ⟨s1, h⟩ := h
      obtain ⟨s2, h⟩ := h
      subst h
      exact AtV.fin Tryd.func17 tabOk ext17Ok mixed (p17_6 v6 x0 v5) ⟨b0, rfl, s0, s1, s2, trivial⟩



def yr17 (day : Int) : Nat → Int → Int
  | 0, y => y
  | k + 1, y => if g20_0 (y + 1) 1 1 ≤ day then yr17 day k (y + 1) else y
def mo17 (day y : Int) : Nat → Int → Int
  | 0, m => m
  | k + 1, m => if g20_0 y (m + 1) 1 ≤ day then mo17 day y k (m + 1) else m
def g17_0 (x0 : Int) : Int := yr17 x0 99 2000
def g17_1 (x0 : Int) : Int := mo17 x0 (g17_0 x0) 11 1
def g17_2 (x0 : Int) : Int := x0 - g20_0 (g17_0 x0) (g17_1 x0) 1 + 1
def P17 (x0 : Int) : Prop := 0 ≤ x0 ∧ x0 ≤ 1000000

theorem day17 {y m : Int} (hy : 2000 ≤ y ∧ y ≤ 2099) (hm : 1 ≤ m ∧ m ≤ 12) : P20 y m 1 ∧ 0 ≤ g20_0 y m 1 ∧ g20_0 y m 1 ≤ 1000000 := by
  have e : Int.tdiv (y - 1997) 4 = (y - 1997) / 4 := Int.tdiv_eq_ediv_of_nonneg (by omega)
  have := msb20 hy (m - 1).toNat
  refine ⟨⟨hy, hm, by omega⟩, ?_, ?_⟩ <;> unfold g20_0 bs20 <;> rw [e] <;> omega

theorem runM17 {y day : Int} (hy : 2000 ≤ y ∧ y ≤ 2099) (hd : 0 ≤ day ∧ day ≤ 1000000) (e : Nat) : ∀ (k : Nat) (m : Int), m + k = 12 → 1 ≤ m →
    R17_4 (k + 1 + e) m day y [⟨.int .i64, y⟩, ⟨.int .i64, mo17 day y k m⟩, ⟨.int .i64, day - g20_0 y (mo17 day y k m) 1 + 1⟩] := by
  intro k
  induction k with
  | zero =>
    intro m hm h1
    obtain ⟨p, b1, b2⟩ := day17 hy (m := m) (by omega)
    rw [show 0 + 1 + e = e + 1 by omega, R17_4, if_neg (by simp; omega)]
    exact ⟨p, by rw [i64_iff]; omega, by rw [i64_iff]; omega, rfl⟩
  | succ k ih =>
    intro m hm h1
    obtain ⟨p, b1, b2⟩ := day17 hy (m := m) (by omega)
    obtain ⟨q, c1, c2⟩ := day17 hy (m := m + 1) (by omega)
    rw [show k + 1 + 1 + e = (k + 1 + e) + 1 by omega, R17_4, if_pos (by simp; omega)]
    refine ⟨by rw [i64_iff]; omega, q, ?_⟩
    unfold mo17
    by_cases hc : g20_0 y (m + 1) 1 ≤ day
    · rw [if_pos (by simpa using hc), if_pos hc]
      exact ⟨by rw [i64_iff]; omega, ih (m + 1) (by omega) (by omega)⟩
    · rw [if_neg (by simpa using hc), if_neg hc]
      exact ⟨p, by rw [i64_iff]; omega, by rw [i64_iff]; omega, rfl⟩

theorem runY17 {day : Int} (hd : 0 ≤ day ∧ day ≤ 1000000) : ∀ (k : Nat) (y : Int), y + k = 2099 → 2000 ≤ y →
    R17_2 (k + 1 + 12) y day [⟨.int .i64, yr17 day k y⟩, ⟨.int .i64, mo17 day (yr17 day k y) 11 1⟩, ⟨.int .i64, day - g20_0 (yr17 day k y) (mo17 day (yr17 day k y) 11 1) 1 + 1⟩] := by
  intro k
  induction k with
  | zero =>
    intro y hy h1
    rw [show 0 + 1 + 12 = (11 + 1 + 0) + 1 by omega, R17_2, if_neg (by simp; omega)]
    exact runM17 (by omega) hd 0 11 1 (by omega) (by omega)
  | succ k ih =>
    intro y hy h1
    obtain ⟨q, c1, c2⟩ := day17 (y := y + 1) (m := 1) (by omega) (by omega)
    rw [show k + 1 + 1 + 12 = (k + 1 + 12) + 1 by omega, R17_2, if_pos (by simp; omega)]
    refine ⟨by rw [i64_iff]; omega, q, ?_⟩
    unfold yr17
    by_cases hc : g20_0 (y + 1) 1 1 ≤ day
    · rw [if_pos (by simpa using hc), if_pos hc]
      exact ⟨by rw [i64_iff]; omega, ih (y + 1) (by omega) (by omega)⟩
    · rw [if_neg (by simpa using hc), if_neg hc, show k + 1 + 12 = 11 + 1 + (k + 1) by omega]
      exact runM17 (by omega) hd (k + 1) 11 1 (by omega) (by omega)

theorem top17 (x0 : Int) (h : P17 x0) : R17 (99 + 1 + 12 + 1) x0 [⟨.int .i64, g17_0 x0⟩, ⟨.int .i64, g17_1 x0⟩, ⟨.int .i64, g17_2 x0⟩] := by
  rw [R17]
  exact runY17 h 99 2000 (by omega) (by omega)

def S17 : Am.Spec := { sig := sig17, pre := fun ⟨x0, _⟩ => P17 x0, res := fun ⟨x0, _⟩ => [⟨.int .i64, g17_0 x0⟩, ⟨.int .i64, g17_1 x0⟩, ⟨.int .i64, g17_2 x0⟩] }
theorem con17 : Contract Tryd.prog 17 S17 := contract_of Tryd.func17 hb17 (Nat.le_of_ble_eq_true (by kernel_rfl)) (fun ⟨x0, _⟩ h hwf K q =>
  (snd17 _).1 x0 _ (top17 x0 h) K q)

end Go.Proofs.YtkgacclldpicnaaDoor

/- Function 6 (impl.DateOf): its runs between cut points. Written by a program of this repo (gen). -/
set_option linter.unusedVariables false
set_option linter.unusedSimpArgs false
set_option maxRecDepth 100000
namespace Go.Proofs.YtkgacclldpicnaaDoor
open Go Go.Am Go.Proofs
def ext6 : Ext := [(16, S16), (17, S17)]
theorem call6_16 : Callable Tryd.prog 16 := ⟨Tryd.f16, Tryd.func16, by kernel_rfl, by kernel_rfl⟩
theorem call6_17 : Callable Tryd.prog 17 := ⟨Tryd.f17, Tryd.func17, by kernel_rfl, by kernel_rfl⟩
theorem ext6Ok : ExtOk Tryd.prog ext6 := ⟨⟨call6_16, con16⟩, ⟨call6_17, con17⟩, trivial⟩

noncomputable def b6 : Code := bodyOf Tryd.f6
theorem hb6 : Tryd.f6.body = some b6 := by kernel_rfl
def sig6 : List AT := [AT.v (Ty.int IntKind.i64)]
def tys6 : List Ty := [Ty.int IntKind.i64, Ty.int IntKind.i64, Ty.int IntKind.i64, Ty.int IntKind.i64]
def kds6 : List RK := []
def oks6 : List AT := owns sig6
def P6 (x0 : Int) : Prop := (if (!g16_0 x0) = true then True else ((P17 x0) ∧ True))
def g6_0 (x0 : Int) : Int := (if (!g16_0 x0) = true then 0 else g17_0 x0)
def g6_1 (x0 : Int) : Int := (if (!g16_0 x0) = true then 0 else g17_1 x0)
def g6_2 (x0 : Int) : Int := (if (!g16_0 x0) = true then 0 else g17_2 x0)
def g6_3 (x0 : Int) : Int := (if (!g16_0 x0) = true then 2 else 0)
theorem p6_0 (x0 : Int) : runF tab ext6 false 21 [] 2000 [] oks6 kds6 tys6 Tryd.f6.results [true] [.code b6] (entE 0 0 sig6 (x0, ())) (entL sig6 (x0, ())) = some ([Dyn.mk (Ty.int IntKind.i64) 0, Dyn.mk (Ty.int IntKind.i64) 0, Dyn.mk (Ty.int IntKind.i64) 0, Dyn.mk (Ty.int IntKind.i64) 2], [], [True, (!g16_0 x0) = Bool.true]) := by kernel_rfl
theorem p6_1 (x0 : Int) : runF tab ext6 false 21 [] 2000 [] oks6 kds6 tys6 Tryd.f6.results [false] [.code b6] (entE 0 0 sig6 (x0, ())) (entL sig6 (x0, ())) = some ([Dyn.mk (Ty.int IntKind.i64) (g17_0 x0), Dyn.mk (Ty.int IntKind.i64) (g17_1 x0), Dyn.mk (Ty.int IntKind.i64) (g17_2 x0), Dyn.mk (Ty.int IntKind.i64) 0], [], [True, (!g16_0 x0) = Bool.false, P17 x0]) := by kernel_rfl
theorem at6 (x0 : Int) (h : P6 x0) (K : Ctx) (q : Nat → Value) : AtV Tryd.prog 6 (PostR kds6 oks6 [⟨Ty.int IntKind.i64, g6_0 x0⟩, ⟨Ty.int IntKind.i64, g6_1 x0⟩, ⟨Ty.int IntKind.i64, g6_2 x0⟩, ⟨Ty.int IntKind.i64, g6_3 x0⟩] [] [] q K) 21 K q [] [.code b6] (entE 0 0 sig6 (x0, ())) (entL sig6 (x0, ())) := by
  unfold P6 at h
  unfold g6_0 g6_1 g6_2 g6_3
  by_cases b0 : (!g16_0 x0) = true
  · try simp only [if_pos b0] at h ⊢
    exact AtV.fin Tryd.func6 tabOk ext6Ok mixed (p6_0 x0) ⟨trivial, b0, trivial⟩
  · try simp only [if_neg b0] at h ⊢
    replace b0 := Bool.eq_false_iff.2 b0
    obtain ⟨s0, h⟩ := h
    exact AtV.fin Tryd.func6 tabOk ext6Ok mixed (p6_1 x0) ⟨trivial, b0, s0, trivial⟩

def S6 : Am.Spec := { sig := sig6, pre := fun ⟨x0, _⟩ => P6 x0, res := fun ⟨x0, _⟩ => [⟨Ty.int IntKind.i64, g6_0 x0⟩, ⟨Ty.int IntKind.i64, g6_1 x0⟩, ⟨Ty.int IntKind.i64, g6_2 x0⟩, ⟨Ty.int IntKind.i64, g6_3 x0⟩], kds := kds6 }
theorem con6 : Contract Tryd.prog 6 S6 := contract_of Tryd.func6 hb6 (Nat.le_of_ble_eq_true (by kernel_rfl)) (fun ⟨x0, _⟩ h _ K q => at6 x0 h K q)


end Go.Proofs.YtkgacclldpicnaaDoor

/- Function 7 (impl.DayNumber): its runs between cut points. Written by a program of this repo (gen). -/
set_option linter.unusedVariables false
set_option linter.unusedSimpArgs false
set_option maxRecDepth 100000
namespace Go.Proofs.YtkgacclldpicnaaDoor
open Go Go.Am Go.Proofs
def ext7 : Ext := [(18, S18), (19, S19), (20, S20)]
theorem call7_18 : Callable Tryd.prog 18 := ⟨Tryd.f18, Tryd.func18, by kernel_rfl, by kernel_rfl⟩
theorem call7_19 : Callable Tryd.prog 19 := ⟨Tryd.f19, Tryd.func19, by kernel_rfl, by kernel_rfl⟩
theorem call7_20 : Callable Tryd.prog 20 := ⟨Tryd.f20, Tryd.func20, by kernel_rfl, by kernel_rfl⟩
theorem ext7Ok : ExtOk Tryd.prog ext7 := ⟨⟨call7_18, con18⟩, ⟨call7_19, con19⟩, ⟨call7_20, con20⟩, trivial⟩

noncomputable def b7 : Code := bodyOf Tryd.f7
theorem hb7 : Tryd.f7.body = some b7 := by kernel_rfl
def sig7 : List AT := [AT.v (Ty.int IntKind.i64), AT.v (Ty.int IntKind.i64), AT.v (Ty.int IntKind.i64)]
def tys7 : List Ty := [Ty.int IntKind.i64, Ty.int IntKind.i64]
def kds7 : List RK := []
def oks7 : List AT := owns sig7
def P7 (x0 : Int) (x1 : Int) (x2 : Int) : Prop := (if (!g18_0 x0 2000 2099) = true then True else (if (!g18_0 x1 1 12) = true then True else ((P19 x0 x1) ∧ (if (!g18_0 x2 1 (g19_0 x0 x1)) = true then True else ((P20 x0 x1 x2) ∧ True)))))
def g7_0 (x0 : Int) (x1 : Int) (x2 : Int) : Int := (if (!g18_0 x0 2000 2099) = true then 0 else (if (!g18_0 x1 1 12) = true then 0 else (if (!g18_0 x2 1 (g19_0 x0 x1)) = true then 0 else g20_0 x0 x1 x2)))
def g7_1 (x0 : Int) (x1 : Int) (x2 : Int) : Int := (if (!g18_0 x0 2000 2099) = true then 2 else (if (!g18_0 x1 1 12) = true then 2 else (if (!g18_0 x2 1 (g19_0 x0 x1)) = true then 2 else 0)))
theorem p7_0 (x0 : Int) (x1 : Int) (x2 : Int) : runF tab ext7 false 28 [] 2000 [] oks7 kds7 tys7 Tryd.f7.results [true, true, true] [.code b7] (entE 0 0 sig7 (x0, x1, x2, ())) (entL sig7 (x0, x1, x2, ())) = some ([Dyn.mk (Ty.int IntKind.i64) 0, Dyn.mk (Ty.int IntKind.i64) 2], [], [True, (!g18_0 x0 2000 2099) = Bool.true, Bool.true = Bool.true, Bool.true = Bool.true]) := by kernel_rfl
theorem p7_1 (x0 : Int) (x1 : Int) (x2 : Int) : runF tab ext7 false 28 [] 2000 [] oks7 kds7 tys7 Tryd.f7.results [false, true, true] [.code b7] (entE 0 0 sig7 (x0, x1, x2, ())) (entL sig7 (x0, x1, x2, ())) = some ([Dyn.mk (Ty.int IntKind.i64) 0, Dyn.mk (Ty.int IntKind.i64) 2], [], [True, (!g18_0 x0 2000 2099) = Bool.false, True, (!g18_0 x1 1 12) = Bool.true, Bool.true = Bool.true]) := by kernel_rfl
theorem p7_2 (x0 : Int) (x1 : Int) (x2 : Int) : runF tab ext7 false 28 [] 2000 [] oks7 kds7 tys7 Tryd.f7.results [false, false, true] [.code b7] (entE 0 0 sig7 (x0, x1, x2, ())) (entL sig7 (x0, x1, x2, ())) = some ([Dyn.mk (Ty.int IntKind.i64) 0, Dyn.mk (Ty.int IntKind.i64) 2], [], [True, (!g18_0 x0 2000 2099) = Bool.false, True, (!g18_0 x1 1 12) = Bool.false, P19 x0 x1, True, (!g18_0 x2 1 (g19_0 x0 x1)) = Bool.true]) := by kernel_rfl
theorem p7_3 (x0 : Int) (x1 : Int) (x2 : Int) : runF tab ext7 false 28 [] 2000 [] oks7 kds7 tys7 Tryd.f7.results [false, false, false] [.code b7] (entE 0 0 sig7 (x0, x1, x2, ())) (entL sig7 (x0, x1, x2, ())) = some ([Dyn.mk (Ty.int IntKind.i64) (g20_0 x0 x1 x2), Dyn.mk (Ty.int IntKind.i64) 0], [], [True, (!g18_0 x0 2000 2099) = Bool.false, True, (!g18_0 x1 1 12) = Bool.false, P19 x0 x1, True, (!g18_0 x2 1 (g19_0 x0 x1)) = Bool.false, P20 x0 x1 x2]) := by kernel_rfl
theorem at7 (x0 : Int) (x1 : Int) (x2 : Int) (h : P7 x0 x1 x2) (K : Ctx) (q : Nat → Value) : AtV Tryd.prog 7 (PostR kds7 oks7 [⟨Ty.int IntKind.i64, g7_0 x0 x1 x2⟩, ⟨Ty.int IntKind.i64, g7_1 x0 x1 x2⟩] [] [] q K) 28 K q [] [.code b7] (entE 0 0 sig7 (x0, x1, x2, ())) (entL sig7 (x0, x1, x2, ())) := by
  unfold P7 at h
  unfold g7_0 g7_1
  by_cases b0 : (!g18_0 x0 2000 2099) = true
  · try simp only [if_pos b0] at h ⊢
    exact AtV.fin Tryd.func7 tabOk ext7Ok mixed (p7_0 x0 x1 x2) ⟨trivial, b0, rfl, rfl, trivial⟩
  · try simp only [if_neg b0] at h ⊢
    replace b0 := Bool.eq_false_iff.2 b0
    by_cases b1 : (!g18_0 x1 1 12) = true
    · try simp only [if_pos b1] at h ⊢
      exact AtV.fin Tryd.func7 tabOk ext7Ok mixed (p7_1 x0 x1 x2) ⟨trivial, b0, trivial, b1, rfl, trivial⟩
    · try simp only [if_neg b1] at h ⊢
      replace b1 := Bool.eq_false_iff.2 b1
      obtain ⟨s0, h⟩ := h
      by_cases b2 : (!g18_0 x2 1 (g19_0 x0 x1)) = true
      · try simp only [if_pos b2] at h ⊢
        exact AtV.fin Tryd.func7 tabOk ext7Ok mixed (p7_2 x0 x1 x2) ⟨trivial, b0, trivial, b1, s0, trivial, b2, trivial⟩
      · try simp only [if_neg b2] at h ⊢
        replace b2 := Bool.eq_false_iff.2 b2
        obtain ⟨s1, h⟩ := h
        exact AtV.fin Tryd.func7 tabOk ext7Ok mixed (p7_3 x0 x1 x2) ⟨trivial, b0, trivial, b1, s0, trivial, b2, s1, trivial⟩

def S7 : Am.Spec := { sig := sig7, pre := fun ⟨x0, x1, x2, _⟩ => P7 x0 x1 x2, res := fun ⟨x0, x1, x2, _⟩ => [⟨Ty.int IntKind.i64, g7_0 x0 x1 x2⟩, ⟨Ty.int IntKind.i64, g7_1 x0 x1 x2⟩], kds := kds7 }
theorem con7 : Contract Tryd.prog 7 S7 := contract_of Tryd.func7 hb7 (Nat.le_of_ble_eq_true (by kernel_rfl)) (fun ⟨x0, x1, x2, _⟩ h _ K q => at7 x0 x1 x2 h K q)


end Go.Proofs.YtkgacclldpicnaaDoor

/- The contracts of the library that this program uses, laid at this program. Written by a tool of the kit. -/
set_option linter.unusedVariables false
set_option maxRecDepth 100000
namespace Go.Proofs
open Go.Shelf
def Tryd.lays169_ren : Go.Shelf.Ren := ⟨fun | 169 => 42 | n => n, fun | 70 => 65 | 9 => 9 | 0 => 0 | 72 => 67 | 37 => 22 | 127 => 90 | 3 => 3 | 5 => 5 | n => n, fun | n => n⟩
theorem Tryd.lays169 : Go.Proofs.Lays.n169 Tryd.prog Tryd.lays169_ren := {
  mixed := by kernel_rfl
  f169 := Tryd.func42.trans (congrArg some (by kernel_rfl))
  t0 := Tryd.underlying0
  a0 := Tryd.isAgg0
  z0 := Tryd.sizeOf0
  v0 := Tryd.zeroValue0
  t3 := Tryd.underlying3
  a3 := Tryd.isAgg3
  z3 := Tryd.sizeOf3
  v3 := Tryd.zeroValue3
  t9 := Tryd.underlying9
  a9 := Tryd.isAgg9
  z9 := Tryd.sizeOf9
  v9 := Tryd.zeroValue9
  t37 := Tryd.underlying22
  a37 := Tryd.isAgg22
  z37 := Tryd.sizeOf22
  v37 := Tryd.zeroValue22
  t70 := Tryd.underlying65
  a70 := Tryd.isAgg65
  z70 := Tryd.sizeOf65
  v70 := Tryd.zeroValue65
  t72 := Tryd.underlying67
  a72 := Tryd.isAgg67
  z72 := Tryd.sizeOf67
  v72 := Tryd.zeroValue67
  t127 := Tryd.underlying90
  a127 := Tryd.isAgg90
  z127 := Tryd.sizeOf90
  v127 := Tryd.zeroValue90 }
theorem Tryd.Builder_Extra_169 : Builder.Extra Tryd.prog Tryd.lays169_ren := {
  sizeBuilder := by kernel_rfl
  liesBuilder := by kernel_rfl
  t5 := Tryd.underlying5
  a5 := Tryd.isAgg5
  z5 := Tryd.sizeOf5
  v5 := Tryd.zeroValue5
  infoByte := by kernel_rfl
  cellsByte := by kernel_rfl
  sizeByte := by kernel_rfl
  neB5 := by decide }
open Go.RowKit in theorem Tryd.Builder_String_any_k (B b : Nat) (l : List UInt8) (w : World) (h : Lib.IsBuilderF 67 5 B b (Lib.byteCells l) w) (hBw : B ≤ w.heap.size) :
    Calls Tryd.prog 42 #[.pointer (some ⟨b, 0, none⟩)] w fun e w' => e = .returned (.string ⟨l.toArray⟩) ∧ (Lib.IsBuilderF 67 5 B b (Lib.byteCells l) w' ∧ Below B w w' ∧ Lib.OthersKept 5 (some b) w w') := Any.Builder_String_any_k Tryd.lays169 Tryd.Builder_Extra_169 B b l w h hBw
def Tryd.laysM173_ren : Go.Shelf.Ren := ⟨fun | 173 => 30 | 246 => 36 | 283 => 47 | 284 => 48 | 285 => 49 | 286 => 50 | 129 => 62 | 317 => 61 | 318 => 63 | 319 => 64 | 320 => 65 | 337 => 70 | 338 => 71 | n => n, fun | 2 => 2 | 3 => 3 | 9 => 9 | 4 => 4 | 171 => 80 | 0 => 0 | 53 => 53 | 37 => 22 | 5 => 5 | 173 => 83 | 212 => 93 | 51 => 85 | 20 => 20 | 213 => 94 | 46 => 61 | 232 => 106 | 233 => 107 | n => n, fun | 17 => 1 | 18 => 4 | 19 => 5 | n => n⟩
theorem Tryd.laysM173 : Go.Proofs.LaysM.n173 Tryd.prog Tryd.laysM173_ren := {
  mixed := by kernel_rfl
  f129 := Tryd.func62.trans (congrArg some (by kernel_rfl))
  f173 := Tryd.func30.trans (congrArg some (by kernel_rfl))
  f246 := Tryd.func36.trans (congrArg some (by kernel_rfl))
  f283 := Tryd.func47.trans (congrArg some (by kernel_rfl))
  f284 := Tryd.func48.trans (congrArg some (by kernel_rfl))
  f285 := Tryd.func49.trans (congrArg some (by kernel_rfl))
  f286 := Tryd.func50.trans (congrArg some (by kernel_rfl))
  f317 := Tryd.func61.trans (congrArg some (by kernel_rfl))
  f318 := Tryd.func63.trans (congrArg some (by kernel_rfl))
  f319 := Tryd.func64.trans (congrArg some (by kernel_rfl))
  f320 := Tryd.func65.trans (congrArg some (by kernel_rfl))
  f337 := Tryd.func70.trans (congrArg some (by kernel_rfl))
  f338 := Tryd.func71.trans (congrArg some (by kernel_rfl))
  t0 := Tryd.underlying0
  a0 := Tryd.isAgg0
  z0 := Tryd.sizeOf0
  v0 := Tryd.zeroValue0
  t2 := Tryd.underlying2
  a2 := Tryd.isAgg2
  z2 := Tryd.sizeOf2
  v2 := Tryd.zeroValue2
  t3 := Tryd.underlying3
  a3 := Tryd.isAgg3
  z3 := Tryd.sizeOf3
  v3 := Tryd.zeroValue3
  t4 := Tryd.underlying4
  a4 := Tryd.isAgg4
  z4 := Tryd.sizeOf4
  v4 := Tryd.zeroValue4
  t5 := Tryd.underlying5
  a5 := Tryd.isAgg5
  z5 := Tryd.sizeOf5
  v5 := Tryd.zeroValue5
  t9 := Tryd.underlying9
  a9 := Tryd.isAgg9
  z9 := Tryd.sizeOf9
  v9 := Tryd.zeroValue9
  t20 := Tryd.underlying20
  a20 := Tryd.isAgg20
  z20 := Tryd.sizeOf20
  v20 := Tryd.zeroValue20
  t37 := Tryd.underlying22
  a37 := Tryd.isAgg22
  z37 := Tryd.sizeOf22
  v37 := Tryd.zeroValue22
  t46 := Tryd.underlying61
  a46 := Tryd.isAgg61
  z46 := Tryd.sizeOf61
  v46 := Tryd.zeroValue61
  t51 := Tryd.underlying85
  a51 := Tryd.isAgg85
  z51 := Tryd.sizeOf85
  v51 := Tryd.zeroValue85
  t53 := Tryd.underlying53
  a53 := Tryd.isAgg53
  z53 := Tryd.sizeOf53
  v53 := Tryd.zeroValue53
  t171 := Tryd.underlying80
  a171 := Tryd.isAgg80
  z171 := Tryd.sizeOf80
  v171 := Tryd.zeroValue80
  t173 := Tryd.underlying83
  a173 := Tryd.isAgg83
  z173 := Tryd.sizeOf83
  v173 := Tryd.zeroValue83
  t212 := Tryd.underlying93
  a212 := Tryd.isAgg93
  z212 := Tryd.sizeOf93
  v212 := Tryd.zeroValue93
  t213 := Tryd.underlying94
  a213 := Tryd.isAgg94
  z213 := Tryd.sizeOf94
  t232 := Tryd.underlying106
  a232 := Tryd.isAgg106
  z232 := Tryd.sizeOf106
  v232 := Tryd.zeroValue106
  t233 := Tryd.underlying107
  a233 := Tryd.isAgg107
  z233 := Tryd.sizeOf107
  v233 := Tryd.zeroValue107
  g17 := by kernel_rfl
  g18 := by kernel_rfl
  g19 := by kernel_rfl
  i0 := by kernel_rfl
  i2 := by kernel_rfl
  i3 := by kernel_rfl
  i4 := by kernel_rfl
  i5 := by kernel_rfl
  i9 := by kernel_rfl
  i20 := by kernel_rfl
  i37 := by kernel_rfl
  i46 := by kernel_rfl
  i51 := by kernel_rfl
  i53 := by kernel_rfl
  i171 := by kernel_rfl
  i173 := by kernel_rfl
  i212 := by kernel_rfl
  i232 := by kernel_rfl
  i233 := by kernel_rfl
  m17 := by kernel_rfl
  m18 := by kernel_rfl
  m19 := by kernel_rfl }
open Go.RowKit Go.Sort Go.Lib in theorem Tryd.strconv_FormatInt_10 (n : Int) (h0 : -9223372036854775808 ≤ n) (h1 : n ≤ 9223372036854775807) (w : World) (htab : Lib.TabIs Tryd.prog w "internal/strconv.uint64pow10" .u64 Lib.pow10Tab) :
    Calls Tryd.prog 30 #[.int .i64 n, .int .i64 10] w fun e w' => e = .returned (.string ⟨(Lib.itoa n).toArray⟩) ∧ ∃ k os, w' = grow (w.drewN k) os := Any.strconv_FormatInt_10 Tryd.laysM173 n h0 h1 w htab
def Tryd.lays99_ren : Go.Shelf.Ren := ⟨fun | 99 => 38 | 206 => 53 | n => n, fun | 9 => 9 | 4 => 4 | 3 => 3 | n => n, fun | n => n⟩
theorem Tryd.lays99 : Go.Proofs.Lays.n99 Tryd.prog Tryd.lays99_ren := {
  mixed := by kernel_rfl
  f99 := Tryd.func38.trans (congrArg some (by kernel_rfl))
  f206 := Tryd.func53.trans (congrArg some (by kernel_rfl))
  t3 := Tryd.underlying3
  a3 := Tryd.isAgg3
  z3 := Tryd.sizeOf3
  v3 := Tryd.zeroValue3
  t4 := Tryd.underlying4
  a4 := Tryd.isAgg4
  z4 := Tryd.sizeOf4
  v4 := Tryd.zeroValue4
  t9 := Tryd.underlying9
  a9 := Tryd.isAgg9
  z9 := Tryd.sizeOf9
  v9 := Tryd.zeroValue9 }
open Go.RowKit Go.Lib in theorem Tryd.strings_HasPrefix (s p : ByteArray) (w : World) :
    Calls Tryd.prog 38 #[.string s, .string p] w fun e w' => e = .returned (.bool (Lib.hasPrefix s.data.toList p.data.toList)) ∧ w' = w := Any.strings_HasPrefix Tryd.lays99 s p w
def Tryd.lays146_ren : Go.Shelf.Ren := ⟨fun | 146 => 21 | 221 => 29 | 268 => 33 | 138 => 34 | 143 => 35 | 195 => 43 | 197 => 44 | 218 => 45 | 219 => 46 | 260 => 56 | 217 => 57 | 225 => 58 | 224 => 59 | 267 => 60 | 266 => 68 | 314 => 69 | n => n, fun | 9 => 9 | 31 => 46 | 3 => 3 | 4 => 4 | 0 => 0 | 105 => 76 | 21 => 21 | 5 => 5 | 46 => 61 | 119 => 100 | 139 => 103 | 138 => 102 | 146 => 86 | 51 => 85 | n => n, fun | 1 => 0 | 3 => 2 | 4 => 3 | n => n⟩
theorem Tryd.lays146 : Go.Proofs.Lays.n146 Tryd.prog Tryd.lays146_ren := {
  mixed := by kernel_rfl
  f138 := Tryd.func34.trans (congrArg some (by kernel_rfl))
  f143 := Tryd.func35.trans (congrArg some (by kernel_rfl))
  f146 := Tryd.func21.trans (congrArg some (by kernel_rfl))
  f195 := Tryd.func43.trans (congrArg some (by kernel_rfl))
  f197 := Tryd.func44.trans (congrArg some (by kernel_rfl))
  f217 := Tryd.func57.trans (congrArg some (by kernel_rfl))
  f218 := Tryd.func45.trans (congrArg some (by kernel_rfl))
  f219 := Tryd.func46.trans (congrArg some (by kernel_rfl))
  f221 := Tryd.func29.trans (congrArg some (by kernel_rfl))
  f224 := Tryd.func59.trans (congrArg some (by kernel_rfl))
  f225 := Tryd.func58.trans (congrArg some (by kernel_rfl))
  f260 := Tryd.func56.trans (congrArg some (by kernel_rfl))
  f266 := Tryd.func68.trans (congrArg some (by kernel_rfl))
  f267 := Tryd.func60.trans (congrArg some (by kernel_rfl))
  f268 := Tryd.func33.trans (congrArg some (by kernel_rfl))
  f314 := Tryd.func69.trans (congrArg some (by kernel_rfl))
  t0 := Tryd.underlying0
  a0 := Tryd.isAgg0
  z0 := Tryd.sizeOf0
  v0 := Tryd.zeroValue0
  t3 := Tryd.underlying3
  a3 := Tryd.isAgg3
  z3 := Tryd.sizeOf3
  v3 := Tryd.zeroValue3
  t4 := Tryd.underlying4
  a4 := Tryd.isAgg4
  z4 := Tryd.sizeOf4
  v4 := Tryd.zeroValue4
  t5 := Tryd.underlying5
  a5 := Tryd.isAgg5
  z5 := Tryd.sizeOf5
  v5 := Tryd.zeroValue5
  t9 := Tryd.underlying9
  a9 := Tryd.isAgg9
  z9 := Tryd.sizeOf9
  v9 := Tryd.zeroValue9
  t21 := Tryd.underlying21
  a21 := Tryd.isAgg21
  z21 := Tryd.sizeOf21
  v21 := Tryd.zeroValue21
  t31 := Tryd.underlying46
  a31 := Tryd.isAgg46
  z31 := Tryd.sizeOf46
  v31 := Tryd.zeroValue46
  t46 := Tryd.underlying61
  a46 := Tryd.isAgg61
  z46 := Tryd.sizeOf61
  v46 := Tryd.zeroValue61
  t51 := Tryd.underlying85
  a51 := Tryd.isAgg85
  z51 := Tryd.sizeOf85
  v51 := Tryd.zeroValue85
  t105 := Tryd.underlying76
  a105 := Tryd.isAgg76
  z105 := Tryd.sizeOf76
  v105 := Tryd.zeroValue76
  t119 := Tryd.underlying100
  a119 := Tryd.isAgg100
  z119 := Tryd.sizeOf100
  t138 := Tryd.underlying102
  a138 := Tryd.isAgg102
  z138 := Tryd.sizeOf102
  v138 := Tryd.zeroValue102
  t139 := Tryd.underlying103
  a139 := Tryd.isAgg103
  z139 := Tryd.sizeOf103
  v139 := Tryd.zeroValue103
  t146 := Tryd.underlying86
  a146 := Tryd.isAgg86
  z146 := Tryd.sizeOf86
  v146 := Tryd.zeroValue86
  g1 := by kernel_rfl
  g3 := by kernel_rfl
  g4 := by kernel_rfl }
open Go.RowKit Go.Lib in theorem Tryd.strings_Split (s sep : ByteArray) (m : Int) (w : World) (hs : s.size < 4294967281) (hm : w.cell? ⟨0, 0, none⟩ = some (.int .i64 m)) (h1 : 1 ≤ sep.size) :
    Calls Tryd.prog 21 #[.string s, .string sep] w fun e w' =>
      e = .returned (.slice (some ⟨w.heap.size, 0, none⟩) (Lib.countB s sep + 1) (Lib.countB s sep + 1)) ∧ w' = w.alloc (.cells ((Lib.splitB sep 0 (Lib.countB s sep) s).map Value.string).toArray 9) := Any.strings_Split Tryd.lays146 (by kernel_rfl) s sep m w hs hm h1
def Tryd.lays105_ren : Go.Shelf.Ren := ⟨fun | 105 => 31 | 212 => 37 | 99 => 38 | 165 => 39 | 166 => 40 | 170 => 41 | 169 => 42 | 263 => 51 | 264 => 52 | 206 => 53 | 240 => 54 | 241 => 55 | 276 => 66 | 277 => 67 | n => n, fun | 9 => 9 | 3 => 3 | 4 => 4 | 20 => 20 | 0 => 0 | 46 => 61 | 109 => 62 | 5 => 5 | 72 => 67 | 76 => 71 | 51 => 85 | 146 => 86 | 53 => 53 | 148 => 88 | 70 => 65 | 37 => 22 | 75 => 70 | 127 => 90 | 164 => 97 | 80 => 74 | n => n, fun | n => n⟩
theorem Tryd.lays105 : Go.Proofs.Lays.n105 Tryd.prog Tryd.lays105_ren := {
  mixed := by kernel_rfl
  f99 := Tryd.func38.trans (congrArg some (by kernel_rfl))
  f105 := Tryd.func31.trans (congrArg some (by kernel_rfl))
  f165 := Tryd.func39.trans (congrArg some (by kernel_rfl))
  f166 := Tryd.func40.trans (congrArg some (by kernel_rfl))
  f169 := Tryd.func42.trans (congrArg some (by kernel_rfl))
  f170 := Tryd.func41.trans (congrArg some (by kernel_rfl))
  f206 := Tryd.func53.trans (congrArg some (by kernel_rfl))
  f212 := Tryd.func37.trans (congrArg some (by kernel_rfl))
  f240 := Tryd.func54.trans (congrArg some (by kernel_rfl))
  f241 := Tryd.func55.trans (congrArg some (by kernel_rfl))
  f263 := Tryd.func51.trans (congrArg some (by kernel_rfl))
  f264 := Tryd.func52.trans (congrArg some (by kernel_rfl))
  f276 := Tryd.func66.trans (congrArg some (by kernel_rfl))
  f277 := Tryd.func67.trans (congrArg some (by kernel_rfl))
  t0 := Tryd.underlying0
  a0 := Tryd.isAgg0
  z0 := Tryd.sizeOf0
  v0 := Tryd.zeroValue0
  t3 := Tryd.underlying3
  a3 := Tryd.isAgg3
  z3 := Tryd.sizeOf3
  v3 := Tryd.zeroValue3
  t4 := Tryd.underlying4
  a4 := Tryd.isAgg4
  z4 := Tryd.sizeOf4
  v4 := Tryd.zeroValue4
  t5 := Tryd.underlying5
  a5 := Tryd.isAgg5
  z5 := Tryd.sizeOf5
  v5 := Tryd.zeroValue5
  t9 := Tryd.underlying9
  a9 := Tryd.isAgg9
  z9 := Tryd.sizeOf9
  v9 := Tryd.zeroValue9
  t20 := Tryd.underlying20
  a20 := Tryd.isAgg20
  z20 := Tryd.sizeOf20
  v20 := Tryd.zeroValue20
  t37 := Tryd.underlying22
  a37 := Tryd.isAgg22
  z37 := Tryd.sizeOf22
  v37 := Tryd.zeroValue22
  t46 := Tryd.underlying61
  a46 := Tryd.isAgg61
  z46 := Tryd.sizeOf61
  v46 := Tryd.zeroValue61
  t51 := Tryd.underlying85
  a51 := Tryd.isAgg85
  z51 := Tryd.sizeOf85
  v51 := Tryd.zeroValue85
  t53 := Tryd.underlying53
  a53 := Tryd.isAgg53
  z53 := Tryd.sizeOf53
  v53 := Tryd.zeroValue53
  t70 := Tryd.underlying65
  a70 := Tryd.isAgg65
  z70 := Tryd.sizeOf65
  v70 := Tryd.zeroValue65
  t72 := Tryd.underlying67
  a72 := Tryd.isAgg67
  z72 := Tryd.sizeOf67
  v72 := Tryd.zeroValue67
  t75 := Tryd.underlying70
  a75 := Tryd.isAgg70
  z75 := Tryd.sizeOf70
  v75 := Tryd.zeroValue70
  t76 := Tryd.underlying71
  a76 := Tryd.isAgg71
  z76 := Tryd.sizeOf71
  v76 := Tryd.zeroValue71
  t109 := Tryd.underlying62
  a109 := Tryd.isAgg62
  z109 := Tryd.sizeOf62
  v109 := Tryd.zeroValue62
  t127 := Tryd.underlying90
  a127 := Tryd.isAgg90
  z127 := Tryd.sizeOf90
  v127 := Tryd.zeroValue90
  t146 := Tryd.underlying86
  a146 := Tryd.isAgg86
  z146 := Tryd.sizeOf86
  v146 := Tryd.zeroValue86
  t148 := Tryd.underlying88
  a148 := Tryd.isAgg88
  z148 := Tryd.sizeOf88
  v148 := Tryd.zeroValue88
  t164 := Tryd.underlying97
  a164 := Tryd.isAgg97
  z164 := Tryd.sizeOf97
  v164 := Tryd.zeroValue97 }
theorem Tryd.Builder_Extra_105 : Builder.Extra Tryd.prog Tryd.lays105_ren := {
  sizeBuilder := by kernel_rfl
  liesBuilder := by kernel_rfl
  t5 := Tryd.underlying5
  a5 := Tryd.isAgg5
  z5 := Tryd.sizeOf5
  v5 := Tryd.zeroValue5
  infoByte := by kernel_rfl
  cellsByte := by kernel_rfl
  sizeByte := by kernel_rfl
  neB5 := by decide }
open Go.RowKit Go.Lib in theorem Tryd.strings_Repeat (s : ByteArray) (c : Nat) (w : World) (hc : c ≤ 9223372036854775807) (hlen : s.size * c ≤ 140737488355328) :
    Calls Tryd.prog 31 #[.string s, .int .i64 c] w fun e w' => e = .returned (.string ⟨(Lib.repeatL s.data.toList c).toArray⟩) ∧ Below w.heap.size w w' := Any.strings_Repeat Tryd.lays105 Tryd.Builder_Extra_105 s c w hc hlen
end Go.Proofs

/- Function 30 (strconv.FormatInt): its contract, off what is known of the library. -/
set_option linter.unusedVariables false
set_option linter.unusedSimpArgs false
set_option maxRecDepth 100000
namespace Go.Proofs.YtkgacclldpicnaaDoor
open Go Go.Am Go.Proofs

def sig30 : List AT := [AT.v (Ty.int .i64), AT.v (Ty.int .i64)]
def g30_0 (x0 x1 : Int) : ByteArray := numB x0
def P30 (x0 x1 : Int) : Prop := x1 = 10
def S30 : Am.Spec := { sig := sig30, pre := fun ⟨x0, x1, _⟩ => P30 x0 x1, res := fun ⟨x0, x1, _⟩ => [⟨Ty.str, g30_0 x0 x1⟩] }
theorem con30 : Contract Tryd.prog 30 S30 := contract_flat rfl fun w ⟨x0, x1, _⟩ vs bss hg hp hw ha => by
  obtain ⟨v0, s0, _, _, rfl, _, ⟨_, rfl, hi⟩, v1, s1, _, _, rfl, _, ⟨_, rfl, _⟩, rfl, _⟩ := ha
  obtain rfl : x1 = 10 := hp
  have hi : InR .i64 x0 := hi
  rw [i64_iff] at hi
  refine ⟨fun d hd => ?_, ?_⟩
  · rw [List.mem_singleton.1 hd]
    refine ⟨rfl, ?_⟩
    show (numB x0).size ≤ maxLen
    have := numB_size x0 hi.1 hi.2
    unfold maxLen; omega
  · refine (Tryd.strconv_FormatInt_10 x0 hi.1 hi.2 w (pow10G hg)).mono ?_
    rintro e w' ⟨rfl, n, os, rfl⟩
    exact ⟨rfl, kept_grow _ _ _⟩

end Go.Proofs.YtkgacclldpicnaaDoor

/- Function 23 (impl.Decimal): its runs between cut points. Written by a program of this repo (gen). -/
set_option linter.unusedVariables false
set_option linter.unusedSimpArgs false
set_option maxRecDepth 100000
namespace Go.Proofs.YtkgacclldpicnaaDoor
open Go Go.Am Go.Proofs
def ext23 : Ext := [(30, S30)]
theorem call23_30 : Callable Tryd.prog 30 := ⟨Tryd.f30, Tryd.func30, by kernel_rfl, by kernel_rfl⟩
theorem ext23Ok : ExtOk Tryd.prog ext23 := ⟨⟨call23_30, con30⟩, trivial⟩

noncomputable def b23 : Code := bodyOf Tryd.f23
theorem hb23 : Tryd.f23.body = some b23 := by kernel_rfl
def sig23 : List AT := [AT.v (Ty.int IntKind.i64)]
def tys23 : List Ty := [Ty.str]
def kds23 : List RK := []
def oks23 : List AT := owns sig23
def P23 (x0 : Int) : Prop := ((P30 x0 10) ∧ True)
def g23_0 (x0 : Int) : ByteArray := g30_0 x0 10
theorem p23_0 (x0 : Int) : runF tab ext23 false 5 [] 2000 [] oks23 kds23 tys23 Tryd.f23.results [] [.code b23] (entE 0 0 sig23 (x0, ())) (entL sig23 (x0, ())) = some ([Dyn.mk Ty.str (g30_0 x0 10)], [], [P30 x0 10]) := by kernel_rfl
theorem at23 (x0 : Int) (h : P23 x0) (K : Ctx) (q : Nat → Value) : AtV Tryd.prog 23 (PostR kds23 oks23 [⟨Ty.str, g23_0 x0⟩] [] [] q K) 5 K q [] [.code b23] (entE 0 0 sig23 (x0, ())) (entL sig23 (x0, ())) := by
  unfold P23 at h
  unfold g23_0
  obtain ⟨s0, h⟩ := h
  exact AtV.fin Tryd.func23 tabOk ext23Ok mixed (p23_0 x0) ⟨s0, trivial⟩

def S23 : Am.Spec := { sig := sig23, pre := fun ⟨x0, _⟩ => P23 x0, res := fun ⟨x0, _⟩ => [⟨Ty.str, g23_0 x0⟩], kds := kds23 }
theorem con23 : Contract Tryd.prog 23 S23 := contract_of Tryd.func23 hb23 (Nat.le_of_ble_eq_true (by kernel_rfl)) (fun ⟨x0, _⟩ h _ K q => at23 x0 h K q)


end Go.Proofs.YtkgacclldpicnaaDoor

/- Function 31 (strings.Repeat): its contract, off what is known of the library. -/
set_option linter.unusedVariables false
set_option linter.unusedSimpArgs false
set_option maxRecDepth 100000
namespace Go.Proofs.YtkgacclldpicnaaDoor
open Go Go.Am Go.Proofs

def sig31 : List AT := [AT.v Ty.str, AT.v (Ty.int .i64)]
def g31_0 (x0 : ByteArray) (x1 : Int) : ByteArray := ⟨(Lib.repeatL x0.data.toList x1.toNat).toArray⟩
def P31 (x0 : ByteArray) (x1 : Int) : Prop := 0 ≤ x1 ∧ (x0.size : Int) * x1 ≤ 140737488355328
def S31 : Am.Spec := { sig := sig31, pre := fun ⟨x0, x1, _⟩ => P31 x0 x1, res := fun ⟨x0, x1, _⟩ => [⟨Ty.str, g31_0 x0 x1⟩] }
theorem con31 : Contract Tryd.prog 31 S31 := contract_flat rfl fun w ⟨x0, x1, _⟩ vs bss hg hp hw ha => by
  obtain ⟨v0, s0, _, _, rfl, _, ⟨_, rfl, _⟩, v1, s1, _, _, rfl, _, ⟨_, rfl, _⟩, rfl, _⟩ := ha
  obtain ⟨h0, h1⟩ := hp
  obtain ⟨c, rfl⟩ : ∃ c : Nat, x1 = (c : Int) := Int.eq_ofNat_of_zero_le h0
  have hi : InR .i64 (c : Int) := hw.2.1
  rw [i64_iff] at hi
  have hm : x0.size * c ≤ 140737488355328 := by
    have : ((x0.size * c : Nat) : Int) = (x0.size : Int) * (c : Int) := Int.natCast_mul _ _
    omega
  refine ⟨fun d hd => ?_, ?_⟩
  · rw [List.mem_singleton.1 hd]
    refine ⟨rfl, ?_⟩
    show (ByteArray.mk (Lib.repeatL x0.data.toList c).toArray).size ≤ maxLen
    have : (ByteArray.mk (Lib.repeatL x0.data.toList c).toArray).size = c * x0.data.toList.length := by
      show (Lib.repeatL x0.data.toList c).toArray.size = _
      rw [List.size_toArray, Lib.repeatL_length]
    rw [this, Nat.mul_comm]
    have e : x0.data.toList.length = x0.size := rfl
    rw [e]
    unfold maxLen
    omega
  · refine (Tryd.strings_Repeat x0 c w (by omega) hm).mono ?_
    rintro e w' ⟨rfl, hb⟩
    exact ⟨rfl, Kept.of_below hb⟩

end Go.Proofs.YtkgacclldpicnaaDoor

/- Function 24 (impl.padded): its runs between cut points. Written by a program of this repo (gen). -/
set_option linter.unusedVariables false
set_option linter.unusedSimpArgs false
set_option maxRecDepth 100000
namespace Go.Proofs.YtkgacclldpicnaaDoor
open Go Go.Am Go.Proofs
def ext24 : Ext := [(23, S23), (31, S31)]
theorem call24_23 : Callable Tryd.prog 23 := ⟨Tryd.f23, Tryd.func23, by kernel_rfl, by kernel_rfl⟩
theorem call24_31 : Callable Tryd.prog 31 := ⟨Tryd.f31, Tryd.func31, by kernel_rfl, by kernel_rfl⟩
theorem ext24Ok : ExtOk Tryd.prog ext24 := ⟨⟨call24_23, con23⟩, ⟨call24_31, con31⟩, trivial⟩

noncomputable def b24 : Code := bodyOf Tryd.f24
theorem hb24 : Tryd.f24.body = some b24 := by kernel_rfl
def sig24 : List AT := [AT.v (Ty.int IntKind.i64), AT.v (Ty.int IntKind.i64)]
def tys24 : List Ty := [Ty.str]
def kds24 : List RK := []
def oks24 : List AT := owns sig24
def P24 (x0 : Int) (x1 : Int) : Prop := ((P23 x0) ∧ ((InR IntKind.i64 (x1 - (↑(ByteArray.size (g23_0 x0)) : Int))) ∧ ((P31 (ByteArray.mk #[48]) (if 0 < x1 - (↑(ByteArray.size (g23_0 x0)) : Int) then x1 - (↑(ByteArray.size (g23_0 x0)) : Int) else 0)) ∧ ((ByteArray.size (g31_0 (ByteArray.mk #[48]) (if 0 < x1 - (↑(ByteArray.size (g23_0 x0)) : Int) then x1 - (↑(ByteArray.size (g23_0 x0)) : Int) else 0)) + ByteArray.size (g23_0 x0) ≤ 9223372036854775807) ∧ True))))
def g24_0 (x0 : Int) (x1 : Int) : ByteArray := g31_0 (ByteArray.mk #[48]) (if 0 < x1 - (↑(ByteArray.size (g23_0 x0)) : Int) then x1 - (↑(ByteArray.size (g23_0 x0)) : Int) else 0) ++ g23_0 x0
theorem p24_0 (x0 : Int) (x1 : Int) : runF tab ext24 false 16 [] 2000 [] oks24 kds24 tys24 Tryd.f24.results [] [.code b24] (entE 0 0 sig24 (x0, x1, ())) (entL sig24 (x0, x1, ())) = some ([Dyn.mk Ty.str (g31_0 (ByteArray.mk #[48]) (if 0 < x1 - (↑(ByteArray.size (g23_0 x0)) : Int) then x1 - (↑(ByteArray.size (g23_0 x0)) : Int) else 0) ++ g23_0 x0)], [], [P23 x0, InR IntKind.i64 (x1 - (↑(ByteArray.size (g23_0 x0)) : Int)), P31 (ByteArray.mk #[48]) (if 0 < x1 - (↑(ByteArray.size (g23_0 x0)) : Int) then x1 - (↑(ByteArray.size (g23_0 x0)) : Int) else 0), ByteArray.size (g31_0 (ByteArray.mk #[48]) (if 0 < x1 - (↑(ByteArray.size (g23_0 x0)) : Int) then x1 - (↑(ByteArray.size (g23_0 x0)) : Int) else 0)) + ByteArray.size (g23_0 x0) ≤ 9223372036854775807]) := by kernel_rfl
theorem at24 (x0 : Int) (x1 : Int) (h : P24 x0 x1) (K : Ctx) (q : Nat → Value) : AtV Tryd.prog 24 (PostR kds24 oks24 [⟨Ty.str, g24_0 x0 x1⟩] [] [] q K) 16 K q [] [.code b24] (entE 0 0 sig24 (x0, x1, ())) (entL sig24 (x0, x1, ())) := by
  unfold P24 at h
  unfold g24_0
  obtain ⟨s0, h⟩ := h
  obtain ⟨s1, h⟩ := h
  obtain ⟨s2, h⟩ := h
  obtain ⟨s3, h⟩ := h
  exact AtV.fin Tryd.func24 tabOk ext24Ok mixed (p24_0 x0 x1) ⟨s0, s1, s2, s3, trivial⟩

def S24 : Am.Spec := { sig := sig24, pre := fun ⟨x0, x1, _⟩ => P24 x0 x1, res := fun ⟨x0, x1, _⟩ => [⟨Ty.str, g24_0 x0 x1⟩], kds := kds24 }
theorem con24 : Contract Tryd.prog 24 S24 := contract_of Tryd.func24 hb24 (Nat.le_of_ble_eq_true (by kernel_rfl)) (fun ⟨x0, x1, _⟩ h _ K q => at24 x0 x1 h K q)


end Go.Proofs.YtkgacclldpicnaaDoor

/- Function 9 (impl.DateText): its runs between cut points. Written by a program of this repo (gen). -/
set_option linter.unusedVariables false
set_option linter.unusedSimpArgs false
set_option maxRecDepth 100000
namespace Go.Proofs.YtkgacclldpicnaaDoor
open Go Go.Am Go.Proofs
def ext9 : Ext := [(16, S16), (17, S17), (23, S23), (24, S24)]
theorem call9_16 : Callable Tryd.prog 16 := ⟨Tryd.f16, Tryd.func16, by kernel_rfl, by kernel_rfl⟩
theorem call9_17 : Callable Tryd.prog 17 := ⟨Tryd.f17, Tryd.func17, by kernel_rfl, by kernel_rfl⟩
theorem call9_23 : Callable Tryd.prog 23 := ⟨Tryd.f23, Tryd.func23, by kernel_rfl, by kernel_rfl⟩
theorem call9_24 : Callable Tryd.prog 24 := ⟨Tryd.f24, Tryd.func24, by kernel_rfl, by kernel_rfl⟩
theorem ext9Ok : ExtOk Tryd.prog ext9 := ⟨⟨call9_16, con16⟩, ⟨call9_17, con17⟩, ⟨call9_23, con23⟩, ⟨call9_24, con24⟩, trivial⟩

noncomputable def b9 : Code := bodyOf Tryd.f9
theorem hb9 : Tryd.f9.body = some b9 := by kernel_rfl
def sig9 : List AT := [AT.v (Ty.int IntKind.i64)]
def tys9 : List Ty := [Ty.str]
def kds9 : List RK := []
def oks9 : List AT := owns sig9
def P9 (x0 : Int) : Prop := (if (!g16_0 x0) = true then True else ((P17 x0) ∧ ((P23 (g17_0 x0)) ∧ ((ByteArray.size (g23_0 (g17_0 x0)) + 1 ≤ 9223372036854775807) ∧ ((P24 (g17_1 x0) 2) ∧ ((ByteArray.size (g23_0 (g17_0 x0) ++ ByteArray.mk #[45]) + ByteArray.size (g24_0 (g17_1 x0) 2) ≤ 9223372036854775807) ∧ ((ByteArray.size (g23_0 (g17_0 x0) ++ ByteArray.mk #[45] ++ g24_0 (g17_1 x0) 2) + 1 ≤ 9223372036854775807) ∧ ((P24 (g17_2 x0) 2) ∧ ((ByteArray.size (g23_0 (g17_0 x0) ++ ByteArray.mk #[45] ++ g24_0 (g17_1 x0) 2 ++ ByteArray.mk #[45]) + ByteArray.size (g24_0 (g17_2 x0) 2) ≤ 9223372036854775807) ∧ True)))))))))
def g9_0 (x0 : Int) : ByteArray := (if (!g16_0 x0) = true then ByteArray.mk #[] else g23_0 (g17_0 x0) ++ ByteArray.mk #[45] ++ g24_0 (g17_1 x0) 2 ++ ByteArray.mk #[45] ++ g24_0 (g17_2 x0) 2)
theorem p9_0 (x0 : Int) : runF tab ext9 false 25 [] 2000 [] oks9 kds9 tys9 Tryd.f9.results [true] [.code b9] (entE 0 0 sig9 (x0, ())) (entL sig9 (x0, ())) = some ([Dyn.mk Ty.str (ByteArray.mk #[])], [], [True, (!g16_0 x0) = Bool.true]) := by kernel_rfl
theorem p9_1 (x0 : Int) : runF tab ext9 false 25 [] 2000 [] oks9 kds9 tys9 Tryd.f9.results [false] [.code b9] (entE 0 0 sig9 (x0, ())) (entL sig9 (x0, ())) = some ([Dyn.mk Ty.str (g23_0 (g17_0 x0) ++ ByteArray.mk #[45] ++ g24_0 (g17_1 x0) 2 ++ ByteArray.mk #[45] ++ g24_0 (g17_2 x0) 2)], [], [True, (!g16_0 x0) = Bool.false, P17 x0, P23 (g17_0 x0), ByteArray.size (g23_0 (g17_0 x0)) + 1 ≤ 9223372036854775807, P24 (g17_1 x0) 2, ByteArray.size (g23_0 (g17_0 x0) ++ ByteArray.mk #[45]) + ByteArray.size (g24_0 (g17_1 x0) 2) ≤ 9223372036854775807, ByteArray.size (g23_0 (g17_0 x0) ++ ByteArray.mk #[45] ++ g24_0 (g17_1 x0) 2) + 1 ≤ 9223372036854775807, P24 (g17_2 x0) 2, ByteArray.size (g23_0 (g17_0 x0) ++ ByteArray.mk #[45] ++ g24_0 (g17_1 x0) 2 ++ ByteArray.mk #[45]) + ByteArray.size (g24_0 (g17_2 x0) 2) ≤ 9223372036854775807]) := by kernel_rfl
theorem at9 (x0 : Int) (h : P9 x0) (K : Ctx) (q : Nat → Value) : AtV Tryd.prog 9 (PostR kds9 oks9 [⟨Ty.str, g9_0 x0⟩] [] [] q K) 25 K q [] [.code b9] (entE 0 0 sig9 (x0, ())) (entL sig9 (x0, ())) := by
  unfold P9 at h
  unfold g9_0
  by_cases b0 : (!g16_0 x0) = true
  · try simp only [if_pos b0] at h ⊢
    exact AtV.fin Tryd.func9 tabOk ext9Ok mixed (p9_0 x0) ⟨trivial, b0, trivial⟩
  · try simp only [if_neg b0] at h ⊢
    replace b0 := Bool.eq_false_iff.2 b0
    obtain ⟨s0, h⟩ := h
    obtain ⟨s1, h⟩ := h
    obtain ⟨s2, h⟩ := h
    obtain ⟨s3, h⟩ := h
    obtain ⟨s4, h⟩ := h
    obtain ⟨s5, h⟩ := h
    obtain ⟨s6, h⟩ := h
    obtain ⟨s7, h⟩ := h
    exact AtV.fin Tryd.func9 tabOk ext9Ok mixed (p9_1 x0) ⟨trivial, b0, s0, s1, s2, s3, s4, s5, s6, s7, trivial⟩

def S9 : Am.Spec := { sig := sig9, pre := fun ⟨x0, _⟩ => P9 x0, res := fun ⟨x0, _⟩ => [⟨Ty.str, g9_0 x0⟩], kds := kds9 }
theorem con9 : Contract Tryd.prog 9 S9 := contract_of Tryd.func9 hb9 (Nat.le_of_ble_eq_true (by kernel_rfl)) (fun ⟨x0, _⟩ h _ K q => at9 x0 h K q)


end Go.Proofs.YtkgacclldpicnaaDoor

/- Function 21 (strings.Split): its contract, off what is known of the library. -/
set_option linter.unusedVariables false
set_option linter.unusedSimpArgs false
set_option maxRecDepth 100000
namespace Go.Proofs.YtkgacclldpicnaaDoor
open Go Go.Am Go.Proofs

def sig21 : List AT := [AT.v Ty.str, AT.v Ty.str]
def g21_0 (x0 x1 : ByteArray) : List ByteArray := Lib.splitB x1 0 (Lib.countB x0 x1) x0
def P21 (x0 x1 : ByteArray) : Prop := x0.size < 4294967281 ∧ 1 ≤ x1.size
def S21 : Am.Spec := { sig := sig21, pre := fun ⟨x0, x1, _⟩ => P21 x0 x1, res := fun ⟨x0, x1, _⟩ => [⟨Ty.sl Ty.str, g21_0 x0 x1⟩] }

theorem con21 : Contract Tryd.prog 21 S21 := by
  refine Contract0.up rfl rfl ?_
  rintro w ⟨x0, x1, u⟩ vs bss hgo hp ⟨v0, s0, b0, bs0, rfl, rfl, ⟨rfl, rfl, _⟩, v1, s1, b1, bs1, rfl, rfl, ⟨rfl, rfl, _⟩, rfl, rfl⟩ hn
  obtain ⟨hs, h1⟩ : x0.size < 4294967281 ∧ 1 ≤ x1.size := hp
  obtain ⟨m, hm⟩ := maxLenG hgo.inv
  refine (Tryd.strings_Split x0 x1 m w hs hm h1).mono ?_
  rintro e w' ⟨rfl, rfl⟩
  have hlen : (g21_0 x0 x1).length = Lib.countB x0 x1 + 1 := Lib.splitB_all x1 h1 0 _ _ rfl
  have hle := Lib.countB_le x1 h1 x0.size x0 (Nat.le_refl _)
  have hparts : ∀ y ∈ g21_0 x0 x1, y.size ≤ maxLen := fun y hy => by
    have := splitB_part x1 0 _ _ y hy
    unfold maxLen; omega
  have e1 : ∀ xs : List ByteArray, fcs .str xs = xs.map Value.string := by
    intro xs
    induction xs with
    | nil => rfl
    | cons a r ih => unfold fcs at ih ⊢; rw [List.map_cons, List.flatten_cons, ih]; rfl
  have ho : OwnC (w.alloc (.cells ((g21_0 x0 x1).map Value.string).toArray 9)) (.sl .str) (g21_0 x0 x1) [.slice (some ⟨w.heap.size, 0, none⟩) (Lib.countB x0 x1 + 1) (Lib.countB x0 x1 + 1)] [w.heap.size] :=
    own_flat_mk rfl hparts hlen.symm (Nat.le_of_eq hlen) (by unfold maxLen; omega) (by rw [List.size_toArray, List.length_map, hlen]; simp [Ty.size]) (heap_new w _) (freeS_zero _ _) (fun j u hj => by
      rw [e1] at hj
      rw [Nat.zero_add, ← Array.getElem?_toList]
      exact hj)
  refine ⟨[_], [], [[w.heap.size]], rfl, (Kept.refl _ _).alloc _, ⟨_, _, _, _, _, rfl, rfl, ho, rfl, rfl, rfl⟩, ⟨rfl, rfl⟩, by simp, fun b hb hg => ?_⟩
  simp at hb
  have := hg.1
  omega

end Go.Proofs.YtkgacclldpicnaaDoor
