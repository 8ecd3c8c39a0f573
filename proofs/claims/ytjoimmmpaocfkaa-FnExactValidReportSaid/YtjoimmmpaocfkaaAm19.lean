/- The abstract machine, part 19: regions are sound. -/
import Derived.Test.YtjoimmmpaocfkaaAm27
namespace Go.Am
set_option linter.unusedVariables false
set_option linter.unusedSimpArgs false

section
variable {P : Program} {n : Nat} {q : Nat → Value} {w0 w : World} {O : List Nat} {a : Act} {V : Nat → Value} {own : Nat → List Nat}

theorem getD_some {tm : Array Value} {t : Nat} {v : Value} (h : tm.getD t undef = v) (hv : v ≠ undef) : tm[t]? = some v := by
  rw [Array.getD_eq_getD_getElem?] at h
  cases h1 : tm[t]? with
  | none => rw [h1] at h; exact absurd h.symm hv
  | some u => rw [h1] at h; simpa using h

theorem yield_bool {ops : Array Oper} {j : Nat} {o : Oper} {t : Nat} {d : Bool} (ho : ops[j]? = some o) (hd : o.dst = some t) (ht : a.tmps.getD t undef = .bool d) : yielded ops a.tmps j = some d := by
  unfold yielded
  have := getD_some ht (by intro h; cases h)
  simp [ho, hd, this]

theorem yield_none {ops : Array Oper} {j : Nat} {o : Oper} {t : Nat} {x : Array Value} (ho : ops[j]? = some o) (hd : o.dst = some t) (ht : a.tmps.getD t undef = .tuple x) : yielded ops a.tmps j = none := by
  unfold yielded
  rw [Array.getD_eq_getD_getElem?] at ht
  cases h1 : a.tmps[t]? with
  | none => simp [ho, hd, h1]
  | some u => rw [h1] at ht; simp at ht; subst ht; simp [ho, hd, h1]

theorem guardS_spec {ops : Array Oper} {S S' : St} {o : Oper} {b : Bool} (hR : RelV n w0 O w a S.E S.L V own) (hd : DecOk q a S) (h : guardS ops.toList S o.guard = some (b, S')) (hc : All S'.cs) :
    Region.wanted o (yielded ops a.tmps) = b ∧ S'.E = S.E ∧ S'.L = S.L ∧ DecOk q a S' ∧ All S.cs := by
  unfold guardS at h
  split at h
  · rename_i hg
    cases h
    exact ⟨by simp [Region.wanted, hg], rfl, rfl, hd, hc⟩
  · rename_i j want hg
    split at h
    · rename_i p hp
      rw [nthO_eq] at hp
      have hp' : ops[j]? = some p := by simpa using hp
      split at h
      · rename_i t ht
        split at h
        · rename_i x hx
          cases h
          have hv := hR.valEq (x := .tmp t) (v := .tuple x) (by simp only [opnd]; rw [hx])
          refine ⟨?_, rfl, rfl, hd, hc⟩
          simp [Region.wanted, hg, yield_none hp' ht hv.1]
        · split at h
          · rename_i d S1 hdec
            cases h
            obtain ⟨h1, h2, h3, h4, h5⟩ := decideS_spec hR hd hdec hc
            refine ⟨?_, h2, h3, h4, h5⟩
            simp only [Region.wanted, hg, yield_bool hp' ht h1]
            cases d <;> cases want <;> rfl
          · cases h
      · cases h
    · cases h

theorem putS_spec {S S' : St} {E : Env} {L : Heap} {cs : List Prop} {d : Option Nat} {pv : PV} {v : Value} {w' : World} {V' : Nat → Value} {own' : Nat → List Nat}
    (h : putS n S E L cs d pv = some S') (hR : RelV n w0 O w' a E L V' own') (hd : DecOk q a S) (hv : RepP w0 (Good w0 O) L V' pv v) :
    RelV n w0 O w' (a.put d v) S'.E S'.L V' own' ∧ DecOk q (a.put d v) S' ∧ S'.cs = S.cs ++ cs := by
  cases d with
  | none =>
    cases h
    exact ⟨hR, hd, rfl⟩
  | some d =>
    simp only [putS] at h
    split at h
    · rename_i hlt
      cases h
      simp only [Bool.and_eq_true, Bool.not_eq_true'] at hlt
      exact ⟨hR.put (Nat.le_of_ble_eq_true hlt.1) hv, hd.put d v (fun hm => by rw [memB_iff.2 hm] at hlt; cases hlt.2) rfl rfl, rfl⟩
    · cases h

theorem putS_cs {S S' : St} {E : Env} {L : Heap} {cs : List Prop} {d : Option Nat} {pv : PV} (h : putS n S E L cs d pv = some S') : S'.cs = S.cs ++ cs := by
  cases d with
  | none => cases h; rfl
  | some d =>
    simp only [putS] at h
    split at h
    · cases h; rfl
    · cases h

theorem decideS_cs {S S' : St} {t : Nat} {d : Bool} (h : decideS S t = some (d, S')) (hc : All S'.cs) : All S.cs := by
  unfold decideS at h
  split at h
  · cases h; exact hc
  · split at h
    · cases h; exact (All.append.1 hc).1
    · cases h

theorem guardS_cs {all : List Oper} {S S' : St} {g : Option (Nat × Bool)} {b : Bool} (h : guardS all S g = some (b, S')) (hc : All S'.cs) : All S.cs := by
  unfold guardS at h
  split at h
  · cases h; exact hc
  · split at h
    · split at h
      · split at h
        · cases h; exact hc
        · split at h
          · rename_i hdec; cases h; exact decideS_cs hdec hc
          · cases h
      · cases h
    · cases h

theorem stepO_cs {tab : List TI} {ext : Ext} {wr q : Bool} {all : List Oper} {S S' : St} {o : Oper} (h : stepO tab ext wr n q all S o = some S') (hc : All S'.cs) : All S.cs := by
  unfold stepO at h
  split at h
  · cases h
  · rename_i S1 hg
    have := putS_cs h
    rw [this] at hc
    exact guardS_cs hg (All.append.1 hc).1
  · rename_i S1 hg
    refine guardS_cs hg ?_
    split at h
    · split at h
      · rename_i d S2 hdec
        have := putS_cs h
        rw [this] at hc
        exact decideS_cs hdec (All.append.1 hc).1
      · cases h
    · split at h
      · split at h
        · have := putS_cs h
          rw [this] at hc
          exact (All.append.1 hc).1
        · cases h
      · split at h
        · have := putS_cs h
          rw [this] at hc
          exact (All.append.1 hc).1
        · cases h

theorem stepsO_cs {tab : List TI} {ext : Ext} {wr q : Bool} {all : List Oper} : ∀ {l : List Oper} {S S' : St} (h : stepsO tab ext wr n q all l S = some S') (hc : All S'.cs), All S.cs
  | [], S, S', h, hc => by cases h; exact hc
  | o :: r, S, S', h, hc => by
    simp only [stepsO] at h
    split at h
    · rename_i S1 h1
      exact stepO_cs h1 (stepsO_cs h hc)
    · cases h

theorem pick_run {ρ : Operand → Value} {o : Oper} {c x y : Operand} {d : Bool} (ho : o.op = .pick c x y) (hc : ρ c = .bool d) (w : World) : (execOp ρ o).run P w = .ok (.value (if d then ρ x else ρ y)) w := by
  simp only [execOp, ho, hc]
  simp [asBool]

theorem cond_rep {L : Heap} {p q : PV} {u v : Value} {d : Bool} (hp : RepP w0 (Good w0 O) L V p u) (hq : RepP w0 (Good w0 O) L V q v) : RepP w0 (Good w0 O) L V (cond d p q) (if d then u else v) := by
  cases d
  · exact hq
  · exact hp

/-- One operation, in a region in lexical order. -/
theorem stepO_wp {tab : List TI} {ext : Ext} (hT : TabOk P tab) (hX : ExtOk P ext) {wr : Bool} {ops : Array Oper} {S S' : St} {o : Oper} (hR : RelV n w0 O w a S.E S.L V own) (hd : DecOk q a S)
    (h : stepO tab ext wr n false ops.toList S o = some S') (hc : All S'.cs) {K : Act → World → Prop} {Q : Exit → Act → World → Prop}
    (hK : ∀ a' w' V' own', RelV n w0 O w' a' S'.E S'.L V' own' → DecOk q a' S' → K a' w') :
    if Region.wanted o (yielded ops a.tmps) then o.wp P a w K Q else K (a.put o.dst undef) w := by
  unfold stepO at h
  split at h
  · cases h
  · rename_i S1 hg
    have hcs := putS_cs h
    rw [hcs] at hc
    obtain ⟨h1, h2, h3, h4, h5⟩ := guardS_spec hR hd hg (All.append.1 hc).1
    rw [h1, if_neg (by simp)]
    have hR1 : RelV n w0 O w a S1.E S1.L V own := by rw [h2, h3]; exact hR
    obtain ⟨g1, g2, _⟩ := putS_spec (v := undef) h hR1 h4 ⟨rfl, trivial⟩
    exact hK _ _ _ _ g1 g2
  · rename_i S1 hg
    have hc1 : All S1.cs := by
      split at h
      · split at h
        · rename_i d S2 hdec
          have hcs := putS_cs h
          rw [hcs] at hc
          exact decideS_cs hdec (All.append.1 hc).1
        · cases h
      · dsimp only at h
        split at h
        · have hcs := putS_cs h
          rw [hcs] at hc
          exact (All.append.1 hc).1
        · cases h
    obtain ⟨h1, h2, h3, h4, h5⟩ := guardS_spec hR hd hg hc1
    rw [h1, if_pos rfl]
    have hR1 : RelV n w0 O w a S1.E S1.L V own := by rw [h2, h3]; exact hR
    split at h
    · rename_i c x y ho
      split at h
      · rename_i d S2 hdec
        have hcs := putS_cs h
        rw [hcs] at hc
        obtain ⟨k1, k2, k3, k4, k5⟩ := decideS_spec hR1 h4 hdec (All.append.1 hc).1
        have hR2 : RelV n w0 O w a S2.E S2.L V own := by rw [k2, k3]; exact hR1
        obtain ⟨g1, g2, _⟩ := putS_spec h hR2 k4 (cond_rep (d := d) (hR2.opnd x) (hR2.opnd y))
        exact wp_of_value (w' := w) (pick_run ho k1 w) (hK _ _ _ _ g1 g2)
      · cases h
    · dsimp only at h
      split at h
      · rename_i cs pv E L hop
        have hcs := putS_cs h
        rw [hcs] at hc
        refine opM_spec hT hX hR1 hop (All.append.1 hc).2 fun v w' V' own' hR' hv => ?_
        obtain ⟨g1, g2, _⟩ := putS_spec h hR' h4 hv
        exact hK _ _ _ _ g1 g2
      · cases h

theorem stepsO_wp {tab : List TI} {ext : Ext} (hT : TabOk P tab) (hX : ExtOk P ext) {wr : Bool} {ops : Array Oper} {Q : Exit → Act → World → Prop} : ∀ {l : List Oper} {S S' : St} {a : Act} {w : World} {V : Nat → Value} {own : Nat → List Nat} (hR : RelV n w0 O w a S.E S.L V own) (hd : DecOk q a S)
    (h : stepsO tab ext wr n false ops.toList l S = some S') (hc : All S'.cs) (hK : ∀ a' w' V' own', RelV n w0 O w' a' S'.E S'.L V' own' → DecOk q a' S' → Q .normal a' w'), wpList P ops Q l a w
  | [], S, S', a, w, V, own, hR, hd, h, hc, hK => by
    cases h
    exact hK _ _ _ _ hR hd
  | o :: r, S, S', a, w, V, own, hR, hd, h, hc, hK => by
    simp only [stepsO] at h
    split at h
    · rename_i S1 h1
      refine wpList_step fun K hKK => ?_
      exact stepO_wp hT hX hR hd h1 (stepsO_cs h hc) fun a' w' V' own' hR' hd' => hKK _ _ (stepsO_wp hT hX hR' hd' h hc hK)
    · cases h

/-- One operation, in a region whose order is drawn. -/
theorem stepO_quiet {tab : List TI} {ext : Ext} (hT : TabOk P tab) (hX : ExtOk P ext) {wr : Bool} {ops : Array Oper} {S S' : St} {o : Oper} (hR : RelV n w0 O w a S.E S.L V own) (hd : DecOk q a S)
    (h : stepO tab ext wr n true ops.toList S o = some S') (hc : All S'.cs) :
    ∃ v, YieldsK P ops o v a w ∧ RelV n w0 O w (a.put o.dst v) S'.E S'.L V own ∧ DecOk q (a.put o.dst v) S' := by
  unfold stepO at h
  split at h
  · cases h
  · rename_i S1 hg
    have hcs := putS_cs h
    rw [hcs] at hc
    obtain ⟨h1, h2, h3, h4, h5⟩ := guardS_spec hR hd hg (All.append.1 hc).1
    have hR1 : RelV n w0 O w a S1.E S1.L V own := by rw [h2, h3]; exact hR
    obtain ⟨g1, g2, _⟩ := putS_spec (v := undef) h hR1 h4 ⟨rfl, trivial⟩
    exact ⟨undef, .inr ⟨h1, rfl⟩, g1, g2⟩
  · rename_i S1 hg
    have hc1 : All S1.cs := by
      split at h
      · split at h
        · rename_i d S2 hdec
          have hcs := putS_cs h
          rw [hcs] at hc
          exact decideS_cs hdec (All.append.1 hc).1
        · cases h
      · dsimp only at h
        split at h
        · have hcs := putS_cs h
          rw [hcs] at hc
          exact (All.append.1 hc).1
        · cases h
    obtain ⟨h1, h2, h3, h4, h5⟩ := guardS_spec hR hd hg hc1
    have hR1 : RelV n w0 O w a S1.E S1.L V own := by rw [h2, h3]; exact hR
    split at h
    · rename_i c x y ho
      split at h
      · rename_i d S2 hdec
        have hcs := putS_cs h
        rw [hcs] at hc
        obtain ⟨k1, k2, k3, k4, k5⟩ := decideS_spec hR1 h4 hdec (All.append.1 hc).1
        have hR2 : RelV n w0 O w a S2.E S2.L V own := by rw [k2, k3]; exact hR1
        obtain ⟨g1, g2, _⟩ := putS_spec h hR2 k4 (cond_rep (d := d) (hR2.opnd x) (hR2.opnd y))
        refine ⟨_, .inl ⟨h1, fun w' k => ?_⟩, g1, g2⟩
        unfold Oper.quietAt
        rw [pick_run ho k1 w']
        exact ⟨rfl, rfl⟩
      · cases h
    · dsimp only at h
      split at h
      · rename_i cs pv hop
        have hcs := putS_cs h
        rw [hcs] at hc
        obtain ⟨v, hv, hq⟩ := opQ_spec hT hX hR1 hop (All.append.1 hc).2
        obtain ⟨g1, g2, _⟩ := putS_spec h hR1 h4 hv
        exact ⟨v, .inl ⟨h1, hq⟩, g1, g2⟩
      · cases h

/-- The tests of an operation, ahead of it. -/
def decO1 (all : List Oper) (S : St) (o : Oper) : Option St :=
  match guardS all S o.guard with
  | none => none
  | some (false, S) => some S
  | some (true, S) => match o.op with
    | .pick (.tmp c) _ _ => match decideS S c with
      | some (_, S) => some S
      | none => none
    | _ => some S

def decOs (all : List Oper) : List Nat → St → Option St
  | [], S => some S
  | i :: r, S => match nthO all i with
    | some o => match decO1 all S o with
      | some S => decOs all r S
      | none => none
    | none => none

/-- The first quiet operation that may be taken. -/
def firstQ (tab : List TI) (ext : Ext) (wr : Bool) (n : Nat) (ops : Array Oper) (listed : Array Bool) (S : St) : List Nat → Option (Nat × St)
  | [] => none
  | i :: r => match nthO ops.toList i, Region.free .any ops listed i with
    | some o, true => match stepO tab ext wr n true ops.toList S o with
      | some S' => some (i, S')
      | none => firstQ tab ext wr n ops listed S r
    | _, _ => firstQ tab ext wr n ops listed S r

/-- An operation that makes memory. -/
def stepK (tab : List TI) (ext : Ext) (n : Nat) (all : List Oper) (S : St) (o : Oper) : Option St :=
  match guardS all S o.guard with
  | some (true, S) => match opK tab ext S.E S.L o.op with
    | some (cs, pv, L) => putS n S S.E L cs o.dst pv
    | none => none
  | _ => none

/-- The only operation that may come up. -/
def stepB (tab : List TI) (ext : Ext) (wr : Bool) (n : Nat) (ops : Array Oper) (listed : Array Bool) (i : Nat) (S : St) (o : Oper) : Option St :=
  match stepK tab ext n ops.toList S o with
  | some S' => some S'
  | none => match barB ops listed i with
    | true => stepO tab ext wr n false ops.toList S o
    | false => none

def schedS (tab : List TI) (ext : Ext) (wr : Bool) (n : Nat) (ops : Array Oper) : Nat → Array Bool → St → Option St
  | 0, listed, S => match Region.ready .any ops listed with
    | [] => some S
    | _ => none
  | m + 1, listed, S => match Region.ready .any ops listed with
    | [] => some S
    | i :: r => match decOs ops.toList (i :: r) S with
      | none => none
      | some S => match firstQ tab ext wr n ops listed S (i :: r) with
        | some (j, S') => schedS tab ext wr n ops m (listed.setIfInBounds j true) S'
        | none => match r, nthO ops.toList i with
          | [], some o => match stepB tab ext wr n ops listed i S o with
            | some S' => schedS tab ext wr n ops m (listed.setIfInBounds i true) S'
            | none => none
          | _, _ => none

theorem decO1_cs {all : List Oper} {S S' : St} {o : Oper} (h : decO1 all S o = some S') (hc : All S'.cs) : All S.cs := by
  unfold decO1 at h
  split at h
  · cases h
  · rename_i hg; cases h; exact guardS_cs hg hc
  · rename_i hg
    refine guardS_cs hg ?_
    split at h
    · split at h
      · rename_i hd; cases h; exact decideS_cs hd hc
      · cases h
    · cases h; exact hc

theorem decO1_spec {ops : Array Oper} {S S' : St} {o : Oper} (hR : RelV n w0 O w a S.E S.L V own) (hd : DecOk q a S) (h : decO1 ops.toList S o = some S') (hc : All S'.cs) :
    S'.E = S.E ∧ S'.L = S.L ∧ DecOk q a S' := by
  unfold decO1 at h
  split at h
  · cases h
  · rename_i S1 hg
    cases h
    obtain ⟨_, h2, h3, h4, _⟩ := guardS_spec hR hd hg hc
    exact ⟨h2, h3, h4⟩
  · rename_i S1 hg
    split at h
    · split at h
      · rename_i hdec
        cases h
        obtain ⟨_, h2, h3, h4, _⟩ := guardS_spec hR hd hg (decideS_cs hdec hc)
        have hR1 : RelV n w0 O w a S1.E S1.L V own := by rw [h2, h3]; exact hR
        obtain ⟨_, k2, k3, k4, _⟩ := decideS_spec hR1 h4 hdec hc
        exact ⟨k2.trans h2, k3.trans h3, k4⟩
      · cases h
    · cases h
      obtain ⟨_, h2, h3, h4, _⟩ := guardS_spec hR hd hg hc
      exact ⟨h2, h3, h4⟩

theorem decOs_cs {all : List Oper} : ∀ {is : List Nat} {S S' : St}, decOs all is S = some S' → All S'.cs → All S.cs
  | [], _, _, h, hc => by cases h; exact hc
  | i :: r, S, S', h, hc => by
    simp only [decOs] at h
    split at h
    · split at h
      · rename_i h1
        exact decO1_cs h1 (decOs_cs h hc)
      · cases h
    · cases h

theorem decOs_spec {ops : Array Oper} : ∀ {is : List Nat} {S S' : St}, RelV n w0 O w a S.E S.L V own → DecOk q a S → decOs ops.toList is S = some S' → All S'.cs → S'.E = S.E ∧ S'.L = S.L ∧ DecOk q a S'
  | [], _, _, _, hd, h, hc => by cases h; exact ⟨rfl, rfl, hd⟩
  | i :: r, S, S', hR, hd, h, hc => by
    simp only [decOs] at h
    split at h
    · split at h
      · rename_i S1 h1
        obtain ⟨e1, e2, e3⟩ := decO1_spec hR hd h1 (decOs_cs h hc)
        obtain ⟨f1, f2, f3⟩ := decOs_spec (S := S1) (by rw [e1, e2]; exact hR) e3 h hc
        exact ⟨f1.trans e1, f2.trans e2, f3⟩
      · cases h
    · cases h

theorem firstQ_spec {tab : List TI} {ext : Ext} {wr : Bool} {ops : Array Oper} {listed : Array Bool} {S : St} {j : Nat} {S' : St} : ∀ {rs : List Nat}, firstQ tab ext wr n ops listed S rs = some (j, S') →
    j ∈ rs ∧ ∃ o, ops[j]? = some o ∧ Region.free .any ops listed j = true ∧ stepO tab ext wr n true ops.toList S o = some S'
  | [], h => by cases h
  | i :: r, h => by
    simp only [firstQ] at h
    have rest : firstQ tab ext wr n ops listed S r = some (j, S') → j ∈ i :: r ∧ ∃ o, ops[j]? = some o ∧ Region.free .any ops listed j = true ∧ stepO tab ext wr n true ops.toList S o = some S' := fun h => by
      obtain ⟨h1, h2⟩ := firstQ_spec h
      exact ⟨List.mem_cons_of_mem _ h1, h2⟩
    split at h
    · rename_i o ho hf
      split at h
      · rename_i S1 h1
        cases h
        rw [nthO_eq] at ho
        exact ⟨List.mem_cons_self .., o, by simpa using ho, hf, h1⟩
      · exact rest h
    · exact rest h

theorem stepK_cs {tab : List TI} {ext : Ext} {all : List Oper} {S S' : St} {o : Oper} (h : stepK tab ext n all S o = some S') (hc : All S'.cs) : All S.cs := by
  unfold stepK at h
  split at h
  · rename_i hg
    split at h
    · have := putS_cs h
      rw [this] at hc
      exact guardS_cs hg (All.append.1 hc).1
    · cases h
  · cases h

theorem stepB_cs {tab : List TI} {ext : Ext} {wr : Bool} {ops : Array Oper} {listed : Array Bool} {i : Nat} {S S' : St} {o : Oper} (h : stepB tab ext wr n ops listed i S o = some S') (hc : All S'.cs) : All S.cs := by
  unfold stepB at h
  split at h
  · rename_i h1; cases h; exact stepK_cs h1 hc
  · split at h
    · exact stepO_cs h hc
    · cases h

theorem stepK_wp {tab : List TI} {ext : Ext} (hT : TabOk P tab) (hX : ExtOk P ext) {ops : Array Oper} {S S' : St} {o : Oper} (hR : RelV n w0 O w a S.E S.L V own) (hd : DecOk q a S)
    (h : stepK tab ext n ops.toList S o = some S') (hc : All S'.cs) {K : Act → World → Prop} {Q : Exit → Act → World → Prop}
    (hK : ∀ a' w' V' own', Kept [] w w' → RelV n w0 O w' a' S'.E S'.L V' own' → DecOk q a' S' → K a' w') :
    if Region.wanted o (yielded ops a.tmps) then o.wp P a w K Q else K (a.put o.dst undef) w := by
  unfold stepK at h
  split at h
  · rename_i S1 hg
    split at h
    · rename_i cs pv L hop
      have hcs := putS_cs h
      rw [hcs] at hc
      obtain ⟨h1, h2, h3, h4, h5⟩ := guardS_spec hR hd hg (All.append.1 hc).1
      rw [h1, if_pos rfl]
      have hR1 : RelV n w0 O w a S1.E S1.L V own := by rw [h2, h3]; exact hR
      refine opK_spec hT hX hR1 hop (All.append.1 hc).2 fun v w' V' own' k hR' hv => ?_
      obtain ⟨g1, g2, _⟩ := putS_spec h hR' h4 hv
      exact hK _ _ _ _ k g1 g2
    · cases h
  · cases h

theorem stepB_wp {tab : List TI} {ext : Ext} (hT : TabOk P tab) (hX : ExtOk P ext) {wr : Bool} {ops : Array Oper} {listed : Array Bool} {i : Nat} {S S' : St} {o : Oper} (hR : RelV n w0 O w a S.E S.L V own) (hd : DecOk q a S)
    (h : stepB tab ext wr n ops listed i S o = some S') (hc : All S'.cs) {K : Act → World → Prop} {Q : Exit → Act → World → Prop}
    (hK : ∀ a' w' V' own', (barB ops listed i = true ∨ Kept [] w w') → RelV n w0 O w' a' S'.E S'.L V' own' → DecOk q a' S' → K a' w') :
    if Region.wanted o (yielded ops a.tmps) then o.wp P a w K Q else K (a.put o.dst undef) w := by
  unfold stepB at h
  split at h
  · rename_i h1
    cases h
    exact stepK_wp hT hX hR hd h1 hc fun a' w' V' own' k => hK a' w' V' own' (.inr k)
  · split at h
    · rename_i hb
      exact stepO_wp hT hX hR hd h hc fun a' w' V' own' => hK a' w' V' own' (.inl hb)
    · cases h

theorem schedS_cs {tab : List TI} {ext : Ext} {wr : Bool} {ops : Array Oper} {S' : St} : ∀ {m : Nat} {listed : Array Bool} {S : St}, schedS tab ext wr n ops m listed S = some S' → All S'.cs → All S.cs
  | 0, listed, S, h, hc => by
    simp only [schedS] at h
    split at h
    · cases h; exact hc
    · cases h
  | m + 1, listed, S, h, hc => by
    simp only [schedS] at h
    split at h
    · cases h; exact hc
    · split at h
      · cases h
      · rename_i S1 hdec
        refine decOs_cs hdec ?_
        split at h
        · rename_i j S2 hq
          obtain ⟨_, o, _, _, hst⟩ := firstQ_spec hq
          exact stepO_cs hst (schedS_cs h hc)
        · split at h
          · split at h
            · rename_i S2 hB
              exact stepB_cs hB (schedS_cs h hc)
            · cases h
          · cases h

/-- **The walk in one order serves every order.** -/
theorem schedS_spec {tab : List TI} {ext : Ext} (hT : TabOk P tab) (hX : ExtOk P ext) {wr : Bool} {ops : Array Oper} {Q : Exit → Act → World → Prop} (hs : Region.noSelect ops = true) (hQ : ∀ c a w, ¬ Q (.panic c) a w) {S' : St}
    (hc : All S'.cs) (hK : ∀ a' w' V' own', RelV n w0 O w' a' S'.E S'.L V' own' → DecOk q a' S' → Q .normal a' w') : ∀ {m : Nat} {listed : Array Bool} {S : St} {a : Act} {w : World} {V : Nat → Value} {own : Nat → List Nat},
    RelV n w0 O w a S.E S.L V own → DecOk q a S → Down ops listed → schedS tab ext wr n ops m listed S = some S' → wpAnyK P ops Q m listed a w
  | 0, listed, S, a, w, V, own, hR, hd, hD, h => by
    simp only [schedS] at h
    split at h
    · rename_i hr
      cases h
      exact fun w1 k => ⟨hr, hK _ _ _ _ (hR.ext k) hd⟩
    · cases h
  | m + 1, listed, S, a, w, V, own, hR, hd, hD, h => by
    simp only [schedS] at h
    split at h
    · rename_i hr
      cases h
      exact fun w1 k => ⟨fun _ => hK _ _ _ _ (hR.ext k) hd, by rw [hr]; simp⟩
    · rename_i i r hr
      split at h
      · cases h
      · rename_i S1 hdec
        split at h
        · rename_i j S2 hq
          obtain ⟨hjr, o, ho, hf, hst⟩ := firstQ_spec hq
          rw [← hr] at hjr
          have hc2 : All S2.cs := schedS_cs h hc
          have hc1 : All S1.cs := stepO_cs hst hc2
          obtain ⟨e1, e2, e3⟩ := decOs_spec hR hd hdec hc1
          have hR1 : RelV n w0 O w a S1.E S1.L V own := by rw [e1, e2]; exact hR
          obtain ⟨v, hy, g1, g2⟩ := stepO_quiet hT hX hR1 e3 hst hc2
          refine wpAnyK_first ho (Region.noSelect_spec hs) hQ m listed a w hD (Region.free_spec ho hf) hjr hy ?_
          exact schedS_spec hT hX hs hQ hc hK g1 g2 (hD.set hjr) h
        · split at h
          · rename_i o hno _
            rw [nthO_eq] at hno
            have ho : ops[i]? = some o := by simpa using hno
            split at h
            · rename_i S2 hB
              have hc2 : All S2.cs := schedS_cs h hc
              have hc1 : All S1.cs := stepB_cs hB hc2
              obtain ⟨e1, e2, e3⟩ := decOs_spec hR hd hdec hc1
              have hir : i ∈ Region.ready .any ops listed := by rw [hr]; simp
              refine fun w1 k => ⟨fun h0 => by (rw [hr] at h0; cases h0), fun j hj => ?_⟩
              have hji : j = i := by rw [hr] at hj; simpa using hj
              subst hji
              have hR1 : RelV n w0 O w1 a S1.E S1.L V own := by rw [e1, e2]; exact hR.ext k
              unfold wpOp
              simp only [ho]
              have := stepB_wp (K := fun a' w' => (barB ops listed j = true ∨ Kept [] w1 w') ∧ wpAnyK P ops Q m (listed.setIfInBounds j true) a' w') (Q := Q) hT hX hR1 e3 hB hc2 (fun a' w' V' own' hb hR' hd' => ⟨hb, schedS_spec hT hX hs hQ hc hK hR' hd' (hD.set hir) h⟩)
              split
              · rename_i hw; rw [if_pos hw] at this; exact .inl this
              · rename_i hw; rw [if_neg hw] at this; exact this
            · cases h
          · cases h

/-- A region. -/
def regionS (tab : List TI) (ext : Ext) (wr : Bool) (n : Nat) (ops : Array Oper) (draw : Bool) (S : St) : Option St :=
  match draw with
  | false => stepsO tab ext wr n false ops.toList ops.toList S
  | true => match Region.noSelect ops with
    | true => schedS tab ext wr n ops ops.size (Array.replicate ops.size false) S
    | false => none

theorem regionS_cs {tab : List TI} {ext : Ext} {wr : Bool} {ops : Array Oper} {draw : Bool} {S S' : St} (h : regionS tab ext wr n ops draw S = some S') (hc : All S'.cs) : All S.cs := by
  unfold regionS at h
  split at h
  · exact stepsO_cs h hc
  · split at h
    · exact schedS_cs h hc
    · cases h

/-- **A region is sound.** -/
theorem regionS_wp {tab : List TI} {ext : Ext} (hT : TabOk P tab) (hX : ExtOk P ext) (hm : P.follows .mixedOrders = true) {wr : Bool} {id : Nat} {ops : Array Oper} {draw : Bool} {Q : Exit → Act → World → Prop} (hQ : ∀ c a w, ¬ Q (.panic c) a w) {S S' : St}
    (hR : RelV n w0 O w a S.E S.L V own) (hd : DecOk q a S)
    (h : regionS tab ext wr n ops draw S = some S') (hc : All S'.cs) (hK : ∀ a' w' V' own', RelV n w0 O w' a' S'.E S'.L V' own' → DecOk q a' S' → Q .normal a' w') : (Code.region id ops draw).wp P Q a w := by
  unfold regionS at h
  split at h
  · exact wp_region_list (stepsO_wp hT hX hR hd h hc hK)
  · split at h
    · rename_i hs
      refine wp_region_any hm (wpAny_of_K _ _ _ _ ?_)
      exact schedS_spec hT hX hs hQ hc hK (hR.ext (Kept.refl _ _).drew) hd (Down.start ops _) h
    · cases h
end
end Go.Am
