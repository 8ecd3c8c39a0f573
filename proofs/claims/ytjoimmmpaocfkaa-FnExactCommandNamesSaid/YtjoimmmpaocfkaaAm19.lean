/- The abstract machine, part 19: regions are sound. -/
import Derived.Test.YtjoimmmpaocfkaaAm18
namespace Go.Am
set_option linter.unusedVariables false
set_option linter.unusedSimpArgs false

section
variable {P : Program} {n : Nat} {q : Nat → Value} {w0 w : World} {O : List Nat} {a : Act} {V : Nat → Value} {own : Nat → List Nat}

theorem getD_some {tm : Array Value} {t : Nat} {v : Value} (h : tm.getD t undef = v) (hv : v ≠ undef) : tm[t]? = some v := by
  rw [Array.getD_eq_getD_getElem?] at h
  cases h1 : tm[t]? with
  | none => rw [h1] at h; exact absurd h.symm hv
  | some u => rw [h1] at h; simpa using h

theorem yield_bool {ops : Array Oper} {j : Nat} {o : Oper} {t : Nat} {d : Bool} (ho : ops[j]? = some o) (hd : o.dst = some t) (ht : a.tmps.getD t undef = .bool d) : yielded ops a.tmps j = some d := by
  unfold yielded
  have := getD_some ht (by intro h; cases h)
  simp [ho, hd, this]

theorem yield_none {ops : Array Oper} {j : Nat} {o : Oper} {t : Nat} {x : Array Value} (ho : ops[j]? = some o) (hd : o.dst = some t) (ht : a.tmps.getD t undef = .tuple x) : yielded ops a.tmps j = none := by
  unfold yielded
  rw [Array.getD_eq_getD_getElem?] at ht
  cases h1 : a.tmps[t]? with
  | none => simp [ho, hd, h1]
  | some u => rw [h1] at ht; simp at ht; subst ht; simp [ho, hd, h1]

theorem guardS_spec {ops : Array Oper} {S S' : St} {o : Oper} {b : Bool} (hR : RelV n w0 O w a S.E S.L V own) (hd : DecOk q a S) (h : guardS ops.toList S o.guard = some (b, S')) (hc : All S'.cs) :
    Region.wanted o (yielded ops a.tmps) = b ∧ S'.E = S.E ∧ S'.L = S.L ∧ DecOk q a S' ∧ All S.cs := by
  unfold guardS at h
  split at h
  · rename_i hg
    cases h
    exact ⟨by simp [Region.wanted, hg], rfl, rfl, hd, hc⟩
  · rename_i j want hg
    split at h
    · rename_i p hp
      rw [nthO_eq] at hp
      have hp' : ops[j]? = some p := by simpa using hp
      split at h
      · rename_i t ht
        split at h
        · rename_i x hx
          cases h
          have hv := hR.valEq (x := .tmp t) (v := .tuple x) (by simp only [opnd]; rw [hx])
          refine ⟨?_, rfl, rfl, hd, hc⟩
          simp [Region.wanted, hg, yield_none hp' ht hv.1]
        · split at h
          · rename_i d S1 hdec
            cases h
            obtain ⟨h1, h2, h3, h4, h5⟩ := decideS_spec hR hd hdec hc
            refine ⟨?_, h2, h3, h4, h5⟩
            simp only [Region.wanted, hg, yield_bool hp' ht h1]
            cases d <;> cases want <;> rfl
          · cases h
      · cases h
    · cases h

theorem putS_spec {S S' : St} {E : Env} {L : Heap} {cs : List Prop} {d : Option Nat} {pv : PV} {v : Value} {w' : World} {V' : Nat → Value} {own' : Nat → List Nat}
    (h : putS n S E L cs d pv = some S') (hR : RelV n w0 O w' a E L V' own') (hd : DecOk q a S) (hv : RepP w0 (Good w0 O) L V' pv v) :
    RelV n w0 O w' (a.put d v) S'.E S'.L V' own' ∧ DecOk q (a.put d v) S' ∧ S'.cs = S.cs ++ cs := by
  cases d with
  | none =>
    cases h
    exact ⟨hR, hd, rfl⟩
  | some d =>
    simp only [putS] at h
    split at h
    · rename_i hlt
      cases h
      simp only [Bool.and_eq_true, Bool.not_eq_true'] at hlt
      exact ⟨hR.put (Nat.le_of_ble_eq_true hlt.1) hv, hd.put d v (fun hm => by rw [memB_iff.2 hm] at hlt; cases hlt.2) rfl rfl, rfl⟩
    · cases h

theorem putS_cs {S S' : St} {E : Env} {L : Heap} {cs : List Prop} {d : Option Nat} {pv : PV} (h : putS n S E L cs d pv = some S') : S'.cs = S.cs ++ cs := by
  cases d with
  | none => cases h; rfl
  | some d =>
    simp only [putS] at h
    split at h
    · cases h; rfl
    · cases h

theorem decideS_cs {S S' : St} {t : Nat} {d : Bool} (h : decideS S t = some (d, S')) (hc : All S'.cs) : All S.cs := by
  unfold decideS at h
  split at h
  · cases h; exact hc
  · split at h
    · cases h; exact (All.append.1 hc).1
    · cases h

theorem guardS_cs {all : List Oper} {S S' : St} {g : Option (Nat × Bool)} {b : Bool} (h : guardS all S g = some (b, S')) (hc : All S'.cs) : All S.cs := by
  unfold guardS at h
  split at h
  · cases h; exact hc
  · split at h
    · split at h
      · split at h
        · cases h; exact hc
        · split at h
          · rename_i hdec; cases h; exact decideS_cs hdec hc
          · cases h
      · cases h
    · cases h

theorem stepO_cs {tab : List TI} {ext : Ext} {wr q : Bool} {all : List Oper} {S S' : St} {o : Oper} (h : stepO tab ext wr n q all S o = some S') (hc : All S'.cs) : All S.cs := by
  unfold stepO at h
  split at h
  · cases h
  · rename_i S1 hg
    have := putS_cs h
    rw [this] at hc
    exact guardS_cs hg (All.append.1 hc).1
  · rename_i S1 hg
    refine guardS_cs hg ?_
    split at h
    · split at h
      · rename_i d S2 hdec
        have := putS_cs h
        rw [this] at hc
        exact decideS_cs hdec (All.append.1 hc).1
      · cases h
    · split at h
      · split at h
        · have := putS_cs h
          rw [this] at hc
          exact (All.append.1 hc).1
        · cases h
      · split at h
        · have := putS_cs h
          rw [this] at hc
          exact (All.append.1 hc).1
        · cases h

theorem stepsO_cs {tab : List TI} {ext : Ext} {wr q : Bool} {all : List Oper} : ∀ {l : List Oper} {S S' : St} (h : stepsO tab ext wr n q all l S = some S') (hc : All S'.cs), All S.cs
  | [], S, S', h, hc => by cases h; exact hc
  | o :: r, S, S', h, hc => by
    simp only [stepsO] at h
    split at h
    · rename_i S1 h1
      exact stepO_cs h1 (stepsO_cs h hc)
    · cases h

theorem pick_run {ρ : Operand → Value} {o : Oper} {c x y : Operand} {d : Bool} (ho : o.op = .pick c x y) (hc : ρ c = .bool d) (w : World) : (execOp ρ o).run P w = .ok (.value (if d then ρ x else ρ y)) w := by
  simp only [execOp, ho, hc]
  simp [asBool]

theorem cond_rep {L : Heap} {p q : PV} {u v : Value} {d : Bool} (hp : RepP w0 (Good w0 O) L V p u) (hq : RepP w0 (Good w0 O) L V q v) : RepP w0 (Good w0 O) L V (cond d p q) (if d then u else v) := by
  cases d
  · exact hq
  · exact hp

/-- One operation, in a region in lexical order. -/
theorem stepO_wp {tab : List TI} {ext : Ext} (hT : TabOk P tab) (hX : ExtOk P ext) {wr : Bool} {ops : Array Oper} {S S' : St} {o : Oper} (hR : RelV n w0 O w a S.E S.L V own) (hd : DecOk q a S)
    (h : stepO tab ext wr n false ops.toList S o = some S') (hc : All S'.cs) {K : Act → World → Prop} {Q : Exit → Act → World → Prop}
    (hK : ∀ a' w' V' own', RelV n w0 O w' a' S'.E S'.L V' own' → DecOk q a' S' → K a' w') :
    if Region.wanted o (yielded ops a.tmps) then o.wp P a w K Q else K (a.put o.dst undef) w := by
  unfold stepO at h
  split at h
  · cases h
  · rename_i S1 hg
    have hcs := putS_cs h
    rw [hcs] at hc
    obtain ⟨h1, h2, h3, h4, h5⟩ := guardS_spec hR hd hg (All.append.1 hc).1
    rw [h1, if_neg (by simp)]
    have hR1 : RelV n w0 O w a S1.E S1.L V own := by rw [h2, h3]; exact hR
    obtain ⟨g1, g2, _⟩ := putS_spec (v := undef) h hR1 h4 ⟨rfl, trivial⟩
    exact hK _ _ _ _ g1 g2
  · rename_i S1 hg
    have hc1 : All S1.cs := by
      split at h
      · split at h
        · rename_i d S2 hdec
          have hcs := putS_cs h
          rw [hcs] at hc
          exact decideS_cs hdec (All.append.1 hc).1
        · cases h
      · dsimp only at h
        split at h
        · have hcs := putS_cs h
          rw [hcs] at hc
          exact (All.append.1 hc).1
        · cases h
    obtain ⟨h1, h2, h3, h4, h5⟩ := guardS_spec hR hd hg hc1
    rw [h1, if_pos rfl]
    have hR1 : RelV n w0 O w a S1.E S1.L V own := by rw [h2, h3]; exact hR
    split at h
    · rename_i c x y ho
      split at h
      · rename_i d S2 hdec
        have hcs := putS_cs h
        rw [hcs] at hc
        obtain ⟨k1, k2, k3, k4, k5⟩ := decideS_spec hR1 h4 hdec (All.append.1 hc).1
        have hR2 : RelV n w0 O w a S2.E S2.L V own := by rw [k2, k3]; exact hR1
        obtain ⟨g1, g2, _⟩ := putS_spec h hR2 k4 (cond_rep (d := d) (hR2.opnd x) (hR2.opnd y))
        exact wp_of_value (w' := w) (pick_run ho k1 w) (hK _ _ _ _ g1 g2)
      · cases h
    · dsimp only at h
      split at h
      · rename_i cs pv E L hop
        have hcs := putS_cs h
        rw [hcs] at hc
        refine opM_spec hT hX hR1 hop (All.append.1 hc).2 fun v w' V' own' hR' hv => ?_
        obtain ⟨g1, g2, _⟩ := putS_spec h hR' h4 hv
        exact hK _ _ _ _ g1 g2
      · cases h

theorem stepsO_wp {tab : List TI} {ext : Ext} (hT : TabOk P tab) (hX : ExtOk P ext) {wr : Bool} {ops : Array Oper} {Q : Exit → Act → World → Prop} : ∀ {l : List Oper} {S S' : St} {a : Act} {w : World} {V : Nat → Value} {own : Nat → List Nat} (hR : RelV n w0 O w a S.E S.L V own) (hd : DecOk q a S)
    (h : stepsO tab ext wr n false ops.toList l S = some S') (hc : All S'.cs) (hK : ∀ a' w' V' own', RelV n w0 O w' a' S'.E S'.L V' own' → DecOk q a' S' → Q .normal a' w'), wpList P ops Q l a w
  | [], S, S', a, w, V, own, hR, hd, h, hc, hK => by
    cases h
    exact hK _ _ _ _ hR hd
  | o :: r, S, S', a, w, V, own, hR, hd, h, hc, hK => by
    simp only [stepsO] at h
    split at h
    · rename_i S1 h1
      refine wpList_step fun K hKK => ?_
      exact stepO_wp hT hX hR hd h1 (stepsO_cs h hc) fun a' w' V' own' hR' hd' => hKK _ _ (stepsO_wp hT hX hR' hd' h hc hK)
    · cases h

/-- One operation, in a region whose order is drawn. -/
theorem stepO_quiet {tab : List TI} {ext : Ext} (hT : TabOk P tab) (hX : ExtOk P ext) {wr : Bool} {ops : Array Oper} {S S' : St} {o : Oper} (hR : RelV n w0 O w a S.E S.L V own) (hd : DecOk q a S)
    (h : stepO tab ext wr n true ops.toList S o = some S') (hc : All S'.cs) {K : Act → Prop}
    (hK : ∀ a', RelV n w0 O w a' S'.E S'.L V own → DecOk q a' S' → K a') :
    if Region.wanted o (yielded ops a.tmps) then o.quiet P a (Kept [] w) K else K (a.put o.dst undef) := by
  unfold stepO at h
  split at h
  · cases h
  · rename_i S1 hg
    have hcs := putS_cs h
    rw [hcs] at hc
    obtain ⟨h1, h2, h3, h4, h5⟩ := guardS_spec hR hd hg (All.append.1 hc).1
    rw [h1, if_neg (by simp)]
    have hR1 : RelV n w0 O w a S1.E S1.L V own := by rw [h2, h3]; exact hR
    obtain ⟨g1, g2, _⟩ := putS_spec (v := undef) h hR1 h4 ⟨rfl, trivial⟩
    exact hK _ g1 g2
  · rename_i S1 hg
    have hc1 : All S1.cs := by
      split at h
      · split at h
        · rename_i d S2 hdec
          have hcs := putS_cs h
          rw [hcs] at hc
          exact decideS_cs hdec (All.append.1 hc).1
        · cases h
      · dsimp only at h
        split at h
        · have hcs := putS_cs h
          rw [hcs] at hc
          exact (All.append.1 hc).1
        · cases h
    obtain ⟨h1, h2, h3, h4, h5⟩ := guardS_spec hR hd hg hc1
    rw [h1, if_pos rfl]
    have hR1 : RelV n w0 O w a S1.E S1.L V own := by rw [h2, h3]; exact hR
    split at h
    · rename_i c x y ho
      split at h
      · rename_i d S2 hdec
        have hcs := putS_cs h
        rw [hcs] at hc
        obtain ⟨k1, k2, k3, k4, k5⟩ := decideS_spec hR1 h4 hdec (All.append.1 hc).1
        have hR2 : RelV n w0 O w a S2.E S2.L V own := by rw [k2, k3]; exact hR1
        obtain ⟨g1, g2, _⟩ := putS_spec h hR2 k4 (cond_rep (d := d) (hR2.opnd x) (hR2.opnd y))
        refine ⟨_, fun w' k => ?_, hK _ g1 g2⟩
        unfold Oper.quietAt
        rw [pick_run ho k1 w']
        exact ⟨rfl, rfl⟩
      · cases h
    · dsimp only at h
      split at h
      · rename_i cs pv hop
        have hcs := putS_cs h
        rw [hcs] at hc
        obtain ⟨v, hv, hq⟩ := opQ_spec hT hX hR1 hop (All.append.1 hc).2
        obtain ⟨g1, g2, _⟩ := putS_spec h hR1 h4 hv
        exact ⟨v, hq, hK _ g1 g2⟩
      · cases h

theorem stepsO_quiet {tab : List TI} {ext : Ext} (hT : TabOk P tab) (hX : ExtOk P ext) {wr : Bool} {ops : Array Oper} {Q : Act → Prop} : ∀ {l : List Oper} {S S' : St} {a : Act} (hR : RelV n w0 O w a S.E S.L V own) (hd : DecOk q a S)
    (h : stepsO tab ext wr n true ops.toList l S = some S') (hc : All S'.cs) (hK : ∀ a', RelV n w0 O w a' S'.E S'.L V own → DecOk q a' S' → Q a'), wpQuiet P ops (Kept [] w) Q l a
  | [], S, S', a, hR, hd, h, hc, hK => by
    cases h
    exact hK _ hR hd
  | o :: r, S, S', a, hR, hd, h, hc, hK => by
    simp only [stepsO] at h
    split at h
    · rename_i S1 h1
      refine wpQuiet_step fun K hKK => ?_
      exact stepO_quiet hT hX hR hd h1 (stepsO_cs h hc) fun a' hR' hd' => hKK _ (stepsO_quiet hT hX hR' hd' h hc hK)
    · cases h

/-- A region. -/
def regionS (tab : List TI) (ext : Ext) (wr : Bool) (n : Nat) (ops : Array Oper) (draw : Bool) (S : St) : Option St :=
  match draw with
  | false => stepsO tab ext wr n false ops.toList ops.toList S
  | true => match Region.lexB .any ops with
    | true => stepsO tab ext wr n true ops.toList ops.toList S
    | false => none

theorem regionS_cs {tab : List TI} {ext : Ext} {wr : Bool} {ops : Array Oper} {draw : Bool} {S S' : St} (h : regionS tab ext wr n ops draw S = some S') (hc : All S'.cs) : All S.cs := by
  unfold regionS at h
  split at h
  · exact stepsO_cs h hc
  · split at h
    · exact stepsO_cs h hc
    · cases h

/-- **A region is sound.** -/
theorem regionS_wp {tab : List TI} {ext : Ext} (hT : TabOk P tab) (hX : ExtOk P ext) (hm : P.follows .mixedOrders = true) {wr : Bool} {id : Nat} {ops : Array Oper} {draw : Bool} {Q : Exit → Act → World → Prop} {S S' : St}
    (hR : RelV n w0 O w a S.E S.L V own) (hd : DecOk q a S)
    (h : regionS tab ext wr n ops draw S = some S') (hc : All S'.cs) (hK : ∀ a' w' V' own', RelV n w0 O w' a' S'.E S'.L V' own' → DecOk q a' S' → Q .normal a' w') : (Code.region id ops draw).wp P Q a w := by
  unfold regionS at h
  split at h
  · exact wp_region_list (stepsO_wp hT hX hR hd h hc hK)
  · split at h
    · rename_i hB
      refine wp_region_quiet (C := Kept [] w) hm hB (Kept.refl _ _).drew ?_
      exact stepsO_quiet hT hX hR hd h hc fun a' hR' hd' w' k => hK _ _ _ _ (hR'.ext k) hd'
    · cases h
end
end Go.Am
