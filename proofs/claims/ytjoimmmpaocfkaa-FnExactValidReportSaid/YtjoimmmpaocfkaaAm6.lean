/- The abstract machine, part 6: slices, lengths, strings, conversions, structs built in place. -/
import Derived.Test.YtjoimmmpaocfkaaAm5
namespace Go.Am
set_option linter.unusedVariables false
set_option linter.unusedSimpArgs false

/-! ### Slicing -/

def optV : Option (IntKind × Int) → Option Value
  | none => none
  | some (k, n) => some (.int k n)

def optI : Option (IntKind × Int) → Option Int
  | some (_, n) => some n
  | none => none

theorem sliceBounds_run {P : Program} {w : World} (isS : Bool) (len cap : Nat) (lo hi : Option (IntKind × Int)) (hlc : len ≤ cap) {l h : Int}
    (hl : l = (optI lo).getD 0) (hh : h = (optI hi).getD len) (h0 : 0 ≤ l) (h1 : l ≤ h) (h2 : h ≤ len) :
    (Instr.sliceBounds isS len cap (optV lo) (optV hi) none).run P w = .ok (l.toNat, h.toNat, cap) w := by
  have hcap : h ≤ (cap : Int) := by omega
  unfold Instr.sliceBounds
  cases lo with
  | none => cases hi with
    | none => simp only [optI, Option.getD] at hl hh; subst hl hh; simp [optV]
    | some y =>
      obtain ⟨k, m⟩ := y
      simp only [optI, Option.getD] at hl hh
      subst hl hh
      simp [optV, run_sliceBound (P := P) w k h cap _ h1 hcap]
  | some x =>
    obtain ⟨k, m⟩ := x
    simp only [optI, Option.getD] at hl
    subst hl
    cases hi with
    | none =>
      simp only [optI, Option.getD] at hh
      subst hh
      simp [optV, run_sliceBound (P := P) w k l len _ h0 h1]
    | some y =>
      obtain ⟨k', m'⟩ := y
      simp only [optI, Option.getD] at hh
      subst hh
      have e : (h.toNat : Int) = h := by omega
      simp [optV, run_sliceBound (P := P) w k' h cap _ (by omega) hcap, run_sliceBound (P := P) w k l h.toNat _ h0 (by omega)]

/-- The conditions of a slice expression, and its two bounds. -/
def bounds (len : Int) : Option Int → Option Int → List Prop × Int × Int
  | none, none => ([], 0, len)
  | some l, none => ([0 ≤ l, l ≤ len], l, len)
  | none, some h => ([0 ≤ h, h ≤ len], 0, h)
  | some l, some h => ([0 ≤ l, l ≤ h, h ≤ len], l, h)

def subL {α : Type} (xs : List α) : Option Int → Option Int → List α
  | none, none => xs
  | some l, none => xs.drop l.toNat
  | none, some h => xs.take h.toNat
  | some l, some h => (xs.take h.toNat).drop l.toNat

def sliceA (L : Heap) (lo hi : Option Int) : Atom → Option (List Prop × Atom)
  | .val (.string s) => match bounds s.size lo hi with
    | (cs, l, h) => some (cs, .val (.string (s.extract l.toNat h.toNat)))
  | .sl t xs => match bounds xs.length lo hi with
    | (cs, _, _) => some (cs, .sl t (subL xs lo hi))
  | .osl r rg => match hget L r with
    | some A => match bounds ((rgHi A.xs.length rg - rgLo rg : Nat) : Int) lo hi with
      | (cs, l, h) => some (cs, .osl r (some (rgLo rg + l.toNat, rgLo rg + h.toNat)))
    | none => none
  | _ => none

theorem bounds_ok {len : Nat} {lo hi : Option Int} {cs : List Prop} {l h : Int} (hb : bounds len lo hi = (cs, l, h)) (hc : All cs) :
    0 ≤ l ∧ l ≤ h ∧ h ≤ len ∧ l = lo.getD 0 ∧ h = hi.getD len := by
  unfold bounds at hb
  split at hb <;> cases hb <;> simp_all [All]

theorem subL_get {α : Type} {xs : List α} {lo hi : Option Int} {cs : List Prop} {l h : Int} (hb : bounds xs.length lo hi = (cs, l, h)) (hc : All cs) :
    (subL xs lo hi).length = h.toNat - l.toNat ∧ ∀ i y, (subL xs lo hi)[i]? = some y → xs[l.toNat + i]? = some y := by
  obtain ⟨h0, h1, h2, hl, hh⟩ := bounds_ok hb hc
  unfold subL
  split <;> simp only [Option.getD] at hl hh <;> subst hl hh
  · refine ⟨?_, fun i y hy => ?_⟩ <;> simp_all
  · refine ⟨by simp <;> omega, fun i y hy => by rw [List.getElem?_drop] at hy; exact hy⟩
  · refine ⟨by simp <;> omega, fun i y hy => ?_⟩
    rw [List.getElem?_take] at hy
    split at hy
    · simpa using hy
    · cases hy
  · refine ⟨by simp <;> omega, fun i y hy => ?_⟩
    rw [List.getElem?_drop, List.getElem?_take] at hy
    split at hy
    · exact hy
    · cases hy

section
variable {P : Program} {n : Nat} {w0 w : World} {O : List Nat} {a : Act} {E : Env} {L : Heap} {V : Nat → Value} {own : Nat → List Nat}

theorem sliceAt_slice_run {T e : TypeId} {t : Ty} {by' : Nat} (hT : TIOk P T (.slice e t by')) (w : World) (adr : Option Addr) (len cap : Nat) (lo hi : Option (IntKind × Int)) (hlc : len ≤ cap) {l h : Int}
    (hl : l = (optI lo).getD 0) (hh : h = (optI hi).getD len) (h0 : 0 ≤ l) (h1 : l ≤ h) (h2 : h ≤ len) :
    (Instr.sliceAt T (.slice adr len cap) (optV lo) (optV hi) none).run P w = .ok (.slice (if cap = l.toNat then adr else adr.map (·.add (l.toNat * t.size))) (h.toNat - l.toNat) (cap - l.toNat)) w := by
  obtain ⟨_, hu, he, _⟩ := hT
  have hb := sliceBounds_run (P := P) (w := w) true len cap lo hi hlc hl hh h0 h1 h2
  unfold Instr.sliceAt Instr.slice
  simp only [Sem.run_bind, run_underlying hu, Result.andThen_ok, hb, he.size_run, Sem.run_pure]

theorem sliceAt_string_run {T : TypeId} (hT : TyOk P T .str) (w : World) (s : ByteArray) (lo hi : Option (IntKind × Int)) {l h : Int}
    (hl : l = (optI lo).getD 0) (hh : h = (optI hi).getD s.size) (h0 : 0 ≤ l) (h1 : l ≤ h) (h2 : h ≤ s.size) :
    (Instr.sliceAt T (.string s) (optV lo) (optV hi) none).run P w = .ok (.string (s.extract l.toNat h.toNat)) w := by
  obtain ⟨d, hd, hf⟩ := hT.und
  have hd' : d = .string := by cases d <;> simp [descFits] at hf; rfl
  subst hd'
  have hb := sliceBounds_run (P := P) (w := w) false s.size s.size lo hi (Nat.le_refl _) hl hh h0 h1 h2
  unfold Instr.sliceAt Instr.slice
  simp [run_underlying hd, hb]

theorem extract_size_le (s : ByteArray) (l h : Nat) : (s.extract l h).size ≤ s.size := by
  rw [ByteArray.size_extract]; omega

theorem rgLo_some (x y : Nat) : rgLo (some (x, y)) = x := rfl
theorem rgHi_some (n x y : Nat) : rgHi n (some (x, y)) = y := rfl

def SlTy (L : Heap) (ti : TI) : Atom → Prop
  | .sl t _ => ∃ e b, ti = .slice e t b
  | .osl r _ => ∃ B, hget L r = some B ∧ ∃ e b, ti = .slice e B.t b
  | .val (.string _) => ti = .scal .str
  | _ => True

def LenTy (ti : TI) : Atom → Prop
  | .val (.string _) => ti = .scal .str
  | _ => ∃ e t b, ti = .slice e t b

theorem sliceA_spec {T : TypeId} {ti : TI} (hT : TIOk P T ti) (hok : (∃ e t b, ti = .slice e t b) ∨ ti = .scal .str) {lo hi : Option (IntKind × Int)} {A A' : Atom} {cs : List Prop} {u : Value} (hu : RepA w0 (Good w0 O) L V A u)
    (hty : SlTy L ti A)
    (h : sliceA L (optI lo) (optI hi) A = some (cs, A')) (hc : All cs) :
    ∃ v, RepA w0 (Good w0 O) L V A' v ∧ ∀ w', (Instr.sliceAt T u (optV lo) (optV hi) none).run P w' = .ok v w' := by
  unfold sliceA at h
  split at h
  · rename_i s
    simp only [SlTy, LenTy] at hty
    subst hty
    split at h
    rename_i cs' l h' hb
    cases h
    obtain ⟨h0, h1, h2, hl, hh⟩ := bounds_ok hb hc
    obtain ⟨rfl, hs⟩ := hu
    exact ⟨_, ⟨rfl, Nat.le_trans (extract_size_le _ _ _) hs⟩, fun w' => sliceAt_string_run hT w' s lo hi hl hh h0 h1 h2⟩
  · rename_i t xs
    obtain ⟨e, b, rfl⟩ := hty
    split at h
    rename_i cs' l h' hb
    cases h
    obtain ⟨h0, h1, h2, hl, hh⟩ := bounds_ok hb hc
    obtain ⟨hlen, hget⟩ := subL_get hb hc
    rcases hu.2 with ⟨rfl, rfl⟩ | ⟨b', off, cap, rfl, h3, h4, h5, h6⟩
    · refine ⟨.slice none 0 0, ⟨by rw [hlen]; simp at h2; unfold maxLen; omega, .inl ⟨rfl, List.eq_nil_of_length_eq_zero (by rw [hlen]; simp at h2; omega)⟩⟩, fun w' => ?_⟩
      simp at h2
      have e0 : l = 0 := by omega
      have e1 : h' = 0 := by omega
      subst e0 e1
      rw [sliceAt_slice_run hT w' none 0 0 lo hi (Nat.le_refl _) hl hh h0 h1 h2]
      rfl
    · refine ⟨_, ⟨?_, .inr ⟨b', if cap = l.toNat then off else off + l.toNat * t.size, cap - l.toNat, rfl, ?_, ?_, h5, ?_⟩⟩, fun w' => ?_⟩
      · have := hu.1; rw [hlen]; omega
      · rw [hlen]; omega
      · omega
      · intro i y hy
        have hi : i < h'.toNat - l.toNat := by rw [← hlen]; exact (List.getElem?_eq_some_iff.1 hy).1
        obtain ⟨cs, hl', hc', hr'⟩ := h6 _ y (hget i y hy)
        refine ⟨cs, hl', fun j c hj => ?_, hr'⟩
        rw [if_neg (by omega)]
        have := hc' j c hj
        rwa [Nat.add_mul, ← Nat.add_assoc] at this
      · rw [sliceAt_slice_run hT w' _ xs.length cap lo hi h3 hl hh h0 h1 h2, hlen]
        by_cases hcl : cap = l.toNat
        · rw [if_pos hcl, if_pos hcl]
        · rw [if_neg hcl, if_neg hcl]; simp [Addr.add_lit]
  · rename_i r rg
    obtain ⟨B, hB, e, b, rfl⟩ := hty
    obtain ⟨B', hB', _, hs1, hs2, hs3⟩ := hu
    rw [hB] at hB'; cases hB'
    rw [hB] at h
    obtain ⟨cs', l, h', hb⟩ : ∃ cs' l h', bounds ((rgHi B.xs.length rg - rgLo rg : Nat) : Int) (optI lo) (optI hi) = (cs', l, h') := ⟨_, _, _, rfl⟩
    simp only [hb] at h
    cases h
    obtain ⟨h0, h1, h2, hl, hh⟩ := bounds_ok hb hc
    rcases hs3 with ⟨hV, rfl, hz⟩ | ⟨b', off, m, cap, o, c, hV, rfl, hle, hcase⟩
    · have e2 : rgHi B.xs.length rg - rgLo rg = 0 := by omega
      rw [e2] at h2 hh
      have e0 : l = 0 := by omega
      have e1 : h' = 0 := by omega
      subst e0 e1
      refine ⟨_, ⟨B, hB, (fun h => by cases h), ?_, ?_, .inl ⟨hV, rfl, hz⟩⟩, fun w' => ?_⟩
      · simp only [rgLo_some, rgHi_some]; simp
      · simp only [rgHi_some]; simp; omega
      · rw [sliceAt_slice_run hT w' none 0 0 lo hi (Nat.le_refl _) hl hh h0 h1 h2]
        rfl
    · refine ⟨_, ⟨B, hB, (fun h => by cases h), ?_, ?_, .inr ⟨b', off, m, cap, if c = l.toNat then o else o + l.toNat * B.t.size, c - l.toNat, hV, rfl, ?_, ?_⟩⟩, fun w' => ?_⟩
      · simp only [rgLo_some, rgHi_some]; omega
      · simp only [rgHi_some]; omega
      · simp only [rgLo_some, rgHi_some]; omega
      · by_cases hcl : c = l.toNat
        · right
          refine ⟨by omega, ?_⟩
          rw [if_pos hcl]
          rcases hcase with ⟨ho, hcap⟩ | ⟨_, ho⟩
          · rw [ho]
            exact Nat.add_le_add_left (Nat.mul_le_mul_right _ (by omega)) _
          · exact ho
        · left
          rw [if_neg hcl]
          obtain ⟨ho, hcap⟩ := hcase.resolve_right (by omega)
          refine ⟨?_, ?_⟩
          · rw [ho]; simp only [rgLo_some, Nat.add_mul, Nat.add_assoc]
          · simp only [rgLo_some]; omega
      · rw [sliceAt_slice_run hT w' _ _ c lo hi hle hl hh h0 h1 h2]
        simp only [rgLo_some, rgHi_some]
        have e3 : rgLo rg + h'.toNat - (rgLo rg + l.toNat) = h'.toNat - l.toNat := by omega
        rw [e3]
        by_cases hcl : c = l.toNat
        · rw [if_pos hcl, if_pos hcl]
        · rw [if_neg hcl, if_neg hcl]; simp [Addr.add_lit]
  · cases h

/-! ### Lengths -/

theorem lenA_spec (hR : RelV n w0 O w a E L V own) {T : TypeId} {ti : TI} (hT : TIOk P T ti) (hok : (∃ e t b, ti = .slice e t b) ∨ ti = .scal .str) {A : Atom} {i : Int} {u : Value} (hu : RepA w0 (Good w0 O) L V A u) (h : lenA L A = some i)
    (hty : LenTy ti A) (ty : TypeId) :
    OkV (.int .i64 i) ∧ ∀ w', (Builtin.len_ #[T] ty #[u]).run P w' = .ok (.int .i64 i) w' := by
  have slrun : ∀ (e : TypeId) (t : Ty) (b : Nat), ti = .slice e t b → ∀ (adr : Option Addr) (l c : Nat) (w' : World), (Builtin.len_ #[T] ty #[.slice adr l c]).run P w' = .ok (.int .i64 l) w' := by
    rintro e t b rfl adr l c w'
    obtain ⟨_, hu, _, _⟩ := hT
    simp [Builtin.len_, run_underlying hu, goInt]
  have i64 : ∀ m : Nat, m ≤ maxLen → OkV (.int .i64 (m : Int)) := by
    intro m hm; unfold maxLen at hm; simp [OkV, InR, IntKind.min, IntKind.max, IntKind.bits, IntKind.signed]; omega
  unfold lenA at h
  split at h
  · rename_i s
    cases h
    simp only [SlTy, LenTy] at hty
    subst hty
    obtain ⟨rfl, hs⟩ := hu
    refine ⟨i64 _ hs, fun w' => ?_⟩
    obtain ⟨d, hd, hf⟩ := hT.und
    have hd' : d = .string := by cases d <;> simp [descFits] at hf; rfl
    subst hd'
    simp [Builtin.len_, run_underlying hd, goInt]
  · cases h
    obtain ⟨e, t, b, rfl⟩ := hty
    obtain ⟨rfl, h1, h2⟩ := hu
    subst h1
    exact ⟨i64 0 (Nat.zero_le _), fun w' => slrun e t b rfl _ _ _ w'⟩
  · rename_i t xs
    cases h
    obtain ⟨e, t', b, rfl⟩ := hty
    refine ⟨i64 _ hu.1, fun w' => ?_⟩
    rcases hu.2 with ⟨rfl, rfl⟩ | ⟨b', off, cap, rfl, _⟩
    · exact slrun e t' b rfl _ _ _ w'
    · exact slrun e t' b rfl _ _ _ w'
  · rename_i r rg
    obtain ⟨e, t', b, rfl⟩ := hty
    try simp only at h
    split at h
    · rename_i B hB
      obtain ⟨B', hB', _, hs1, hs2, hs3⟩ := hu
      rw [hB] at hB'; cases hB'
      have hown := hR.heap r B hB
      have hwf := hown.len
      have key : i = ((rgHi B.xs.length rg - rgLo rg : Nat) : Int) := by
        split at h <;> cases h <;> simp [rgLo, rgHi]
      subst key
      refine ⟨i64 _ (by omega), fun w' => ?_⟩
      rcases hs3 with ⟨hV, rfl, hz⟩ | ⟨b', off, m, cap, o, c, hV, rfl, hle, hcase⟩
      · have e2 : rgHi B.xs.length rg - rgLo rg = 0 := by omega
        rw [e2]
        exact slrun e t' b rfl _ _ _ w'
      · exact slrun e t' b rfl _ _ _ w'
    · cases h
  · cases h
end
end Go.Am
