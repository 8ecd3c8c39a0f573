/- The abstract machine, part 3: the tables of types, and what loads, fields and indexes yield. -/
import Derived.Test.YtjoimmmpaocfkaaAm2
namespace Go.Am
set_option linter.unusedVariables false

def Ty.agg : Ty → Bool
  | .unit | .cons _ _ => true
  | _ => false

def dcells : Ty → List Value
  | .int k => [.int k 0]
  | .bool => [.bool false]
  | .str => [.string ByteArray.empty]
  | .sl _ => [.slice none 0 0]
  | .unit => []
  | .cons a b => dcells a ++ dcells b

/-- The value whose cells these are. -/
def valOf (t : Ty) (cs : List Value) : Value := if t.agg then .agg cs.toArray else cs.headD undef

def descFits : TypeDesc → Ty → Bool
  | .bool, .bool | .string, .str | .slice _, .sl _ | .struct _, .unit | .struct _, .cons _ _ => true
  | .int k, .int k' => k == k'
  | _, _ => false

structure TyOk (P : Program) (T : TypeId) (t : Ty) : Prop where
  und : ∃ d, P.underlying T = some d ∧ descFits d t = true
  info : ∃ i, P.info? T = some i ∧ i.size = t.size ∧ ∃ z, i.zero = some z ∧ z.cells.toList = dcells t ∧ z = valOf t (dcells t)

def FieldsOk (P : Program) : List Field → Ty → Nat → Prop
  | [], .unit, _ => True
  | f :: fs, .cons a b, o => f.offset = o ∧ TyOk P f.type a ∧ a.size ≠ 0 ∧ FieldsOk P fs b (o + a.size)
  | _, _, _ => False

inductive TI where
  | scal (t : Ty)
  | slice (e : TypeId) (t : Ty) (bytes : Nat)
  | struct (t : Ty)
  | other

def TI.ty : TI → Option Ty
  | .scal t => some t
  | .slice _ t _ => some (.sl t)
  | .struct t => some t
  | .other => none

/-! The check, by the kernel. -/

def vEq : Value → Value → Bool
  | .int k a, .int k' b => k == k' && a == b
  | .bool a, .bool b => a == b
  | .string a, .string b => a.size == 0 && b.size == 0
  | .slice none 0 0, .slice none 0 0 => true
  | _, _ => false

def vEqs : List Value → List Value → Bool
  | [], [] => true
  | a :: r, b :: s => vEq a b && vEqs r s
  | _, _ => false

theorem size_zero {s : ByteArray} (h : s.size = 0) : s = ByteArray.empty := by
  cases s with | mk d => cases d with | mk l => cases l with
    | nil => rfl
    | cons a r => simp [ByteArray.size] at h

theorem vEq_eq {a b : Value} (h : vEq a b = true) : a = b := by
  unfold vEq at h
  split at h
  · simp at h; rw [h.1, h.2]
  · simp at h; rw [h]
  · simp only [Bool.and_eq_true, beq_iff_eq] at h; rw [size_zero h.1, size_zero h.2]
  · rfl
  · cases h

theorem vEqs_eq : ∀ {a b : List Value}, vEqs a b = true → a = b
  | [], [], _ => rfl
  | a :: r, b :: s, h => by
    simp only [vEqs, Bool.and_eq_true] at h
    rw [vEq_eq h.1, vEqs_eq h.2]
  | [], _ :: _, h => by cases h
  | _ :: _, [], h => by cases h

def aggFits : Value → List Value → Bool
  | .agg cs, l => vEqs cs.toList l
  | _, _ => false

def zeroFits (z : Value) (t : Ty) : Bool := if t.agg then aggFits z (dcells t) else vEqs [z] (dcells t)

theorem zeroFits_spec {z : Value} {t : Ty} (h : zeroFits z t = true) : z.cells.toList = dcells t ∧ z = valOf t (dcells t) := by
  unfold zeroFits at h
  unfold valOf
  by_cases ha : t.agg = true
  · rw [if_pos ha] at h ⊢
    unfold aggFits at h
    split at h
    · have := vEqs_eq h
      refine ⟨by simpa [Value.cells] using this, by rw [← this]⟩
    · cases h
  · rw [if_neg ha] at h ⊢
    have hz := vEqs_eq h
    refine ⟨?_, by rw [← hz]; rfl⟩
    cases z with
    | agg cs => exfalso; cases t <;> simp [dcells, Ty.agg] at hz ha
    | _ => simpa [Value.cells] using hz

def tyCheck (P : Program) (T : TypeId) (t : Ty) : Bool :=
  (match P.underlying T with | some d => descFits d t | none => false) &&
  (match P.info? T with | some i => Nat.beq i.size t.size && (match i.zero with | some z => zeroFits z t | none => false) | none => false)

theorem tyCheck_ok {P : Program} {T : TypeId} {t : Ty} (h : tyCheck P T t = true) : TyOk P T t := by
  simp only [tyCheck, Bool.and_eq_true] at h
  obtain ⟨h1, h2⟩ := h
  split at h1
  · rename_i d hd
    split at h2
    · rename_i i hi
      simp only [Bool.and_eq_true] at h2
      obtain ⟨h2, h3⟩ := h2
      split at h3
      · rename_i z hz
        exact ⟨⟨d, hd, h1⟩, ⟨i, hi, Nat.eq_of_beq_eq_true h2, z, hz, zeroFits_spec h3⟩⟩
      · cases h3
    · cases h2
  · cases h1

def isIntB (k : IntKind) : Option TypeDesc → Bool
  | some (.int k') => decide (k' = k)
  | _ => false
def isBoolB : Option TypeDesc → Bool
  | some .bool => true
  | _ => false
def isStrB : Option TypeDesc → Bool
  | some .string => true
  | _ => false

theorem isIntB_eq {k : IntKind} {d : Option TypeDesc} (h : isIntB k d = true) : d = some (.int k) := by
  unfold isIntB at h
  split at h
  · simp at h; rw [h]
  · cases h
theorem isBoolB_eq {d : Option TypeDesc} (h : isBoolB d = true) : d = some .bool := by
  unfold isBoolB at h
  split at h
  · rfl
  · cases h
theorem isStrB_eq {d : Option TypeDesc} (h : isStrB d = true) : d = some .string := by
  unfold isStrB at h
  split at h
  · rfl
  · cases h

/-! Comparing. -/

def eqD : (t : Ty) → t.den → t.den → Bool
  | .int _, x, y => (x : Int) == y
  | .bool, x, y => (x : Bool) == y
  | .str, x, y => ByteArray.toList x == ByteArray.toList y
  | .sl _, _, _ => false
  | .unit, _, _ => true
  | .cons a b, x, y => eqD a x.1 y.1 && eqD b x.2 y.2

def dep : Ty → Nat
  | .cons a b => Nat.max (dep a + 1) (dep b)
  | _ => 0

def wrapE (P : Program) (agg : Bool) (T : TypeId) (k : TypeId ⊕ (List Field × Nat) → Bool) : Bool :=
  match agg with
  | true => match P.underlying T with
    | some (.struct fs) => !P.stoodInHeld T && k (.inr (fs.toList, 0))
    | _ => false
  | false => k (.inl T)

def eqB (P : Program) : Ty → TypeId ⊕ (List Field × Nat) → Bool
  | .int k, .inl T => isIntB k (P.underlying T)
  | .bool, .inl T => isBoolB (P.underlying T)
  | .str, .inl T => isStrB (P.underlying T)
  | .unit, .inr ([], _) => true
  | .cons a b, .inr (f :: fs, o) => f.name != "_" && (Nat.beq f.offset o && (tyCheck P f.type a && (wrapE P a.agg f.type (eqB P a) && eqB P b (.inr (fs, o + a.size)))))
  | _, _ => false

def eqT (P : Program) (t : Ty) (T : TypeId) : Bool := Nat.ble (dep t) 9999 && (!P.eqGuardType P.depth T && wrapE P t.agg T (eqB P t))

def TIOk (P : Program) (T : TypeId) : TI → Prop
  | .scal t => TyOk P T t
  | .slice e t by' => TyOk P T (.sl t) ∧ P.underlying T = some (.slice e) ∧ TyOk P e t ∧ (P.info? e).map (·.bytes) = some by'
  | .struct t => TyOk P T t ∧ ∃ fs, P.underlying T = some (.struct fs) ∧ FieldsOk P fs.toList t 0 ∧ (t.flat = true → eqT P t T = true)
  | .other => True

def tabGet : List TI → Nat → TI
  | [], _ => .other
  | a :: _, 0 => a
  | _ :: r, n + 1 => tabGet r n

def TabOk (P : Program) (tab : List TI) : Prop := ∀ T, TIOk P T (tabGet tab T)

def fieldsCheck (P : Program) : List Field → Ty → Nat → Bool
  | [], .unit, _ => true
  | f :: fs, .cons a b, o => Nat.beq f.offset o && tyCheck P f.type a && !(Nat.beq a.size 0) && fieldsCheck P fs b (o + a.size)
  | _, _, _ => false

theorem fieldsCheck_ok {P : Program} : ∀ {fs : List Field} {t : Ty} {o : Nat}, fieldsCheck P fs t o = true → FieldsOk P fs t o
  | [], .unit, _, _ => trivial
  | f :: fs, .cons a b, o, h => by
    simp only [fieldsCheck, Bool.and_eq_true] at h
    obtain ⟨⟨⟨h1, h2⟩, h3⟩, h4⟩ := h
    exact ⟨Nat.eq_of_beq_eq_true h1, tyCheck_ok h2, fun e => by rw [e] at h3; simp at h3, fieldsCheck_ok h4⟩
  | [], .int _, _, h => by cases h
  | [], .bool, _, h => by cases h
  | [], .str, _, h => by cases h
  | [], .sl _, _, h => by cases h
  | [], .cons _ _, _, h => by cases h
  | _ :: _, .int _, _, h => by cases h
  | _ :: _, .bool, _, h => by cases h
  | _ :: _, .str, _, h => by cases h
  | _ :: _, .sl _, _, h => by cases h
  | _ :: _, .unit, _, h => by cases h

def tiCheck (P : Program) (T : TypeId) : TI → Bool
  | .scal t => tyCheck P T t
  | .slice e t by' => tyCheck P T (.sl t) && (match P.underlying T with | some (.slice e') => Nat.beq e e' | _ => false) && tyCheck P e t && (match P.info? e with | some i => Nat.beq i.bytes by' | none => false)
  | .struct t => tyCheck P T t && (match P.underlying T with | some (.struct fs) => fieldsCheck P fs.toList t 0 && (!t.flat || eqT P t T) | _ => false)
  | .other => true

theorem tiCheck_ok {P : Program} {T : TypeId} {i : TI} (h : tiCheck P T i = true) : TIOk P T i := by
  cases i with
  | scal t => exact tyCheck_ok h
  | slice e t by' =>
    simp only [tiCheck, Bool.and_eq_true] at h
    obtain ⟨⟨⟨h1, h2⟩, h3⟩, h4⟩ := h
    refine ⟨tyCheck_ok h1, ?_, tyCheck_ok h3, ?_⟩
    · split at h2
      · rename_i e' he; rw [he, Nat.eq_of_beq_eq_true h2]
      · cases h2
    · split at h4
      · rename_i j hj; rw [hj]; simp [Nat.eq_of_beq_eq_true h4]
      · cases h4
  | struct t =>
    simp only [tiCheck, Bool.and_eq_true] at h
    refine ⟨tyCheck_ok h.1, ?_⟩
    have h2 := h.2
    split at h2
    · rename_i fs hf
      simp only [Bool.and_eq_true] at h2
      refine ⟨fs, hf, fieldsCheck_ok h2.1, fun ht => ?_⟩
      have h3 := h2.2
      rw [ht] at h3
      exact h3
    · cases h2
  | other => trivial

def tabCheckFrom (P : Program) : List TI → Nat → Bool
  | [], _ => true
  | i :: r, T => tiCheck P T i && tabCheckFrom P r (T + 1)

theorem tabCheckFrom_ok {P : Program} : ∀ {tab : List TI} {S : Nat}, tabCheckFrom P tab S = true → ∀ T, TIOk P (S + T) (tabGet tab T)
  | [], _, _, _ => trivial
  | i :: r, S, h, 0 => by
    simp only [tabCheckFrom, Bool.and_eq_true] at h
    exact tiCheck_ok h.1
  | i :: r, S, h, T + 1 => by
    simp only [tabCheckFrom, Bool.and_eq_true] at h
    have := tabCheckFrom_ok h.2 T
    rwa [show S + (T + 1) = S + 1 + T from by omega]

theorem tabOk_of_check {P : Program} {tab : List TI} (h : tabCheckFrom P tab 0 = true) : TabOk P tab := fun T => by
  have := tabCheckFrom_ok h T
  rwa [Nat.zero_add] at this

/-! ### Runs of the small operations -/

section
variable {P : Program} {w : World}

theorem TyOk.size_run {T : TypeId} {t : Ty} (h : TyOk P T t) (w : World) : (sizeOf T).run P w = .ok t.size w := by
  obtain ⟨i, hi, hs, _⟩ := h.info
  simp [sizeOf, typeInfo, hi, hs]

theorem TyOk.agg_run {T : TypeId} {t : Ty} (h : TyOk P T t) (w : World) : (isAgg T).run P w = .ok t.agg w := by
  obtain ⟨d, hd, hf⟩ := h.und
  unfold isAgg
  simp only [Sem.run_bind, run_underlying hd, Result.andThen_ok]
  cases d <;> cases t <;> simp_all [descFits, Ty.agg]

theorem TyOk.zero_run {T : TypeId} {t : Ty} (h : TyOk P T t) (w : World) : (zeroValue T).run P w = .ok (valOf t (dcells t)) w := by
  obtain ⟨i, hi, _, z, hz, _, hv⟩ := h.info
  simp [zeroValue, typeInfo, hi, hz, hv]

theorem loadVar_run {T : TypeId} {t : Ty} (h : TyOk P T t) {b off : Nat} {cs : List Value} (hl : cs.length = t.size) (hc : CellsAt w b off cs) :
    (loadVar T ⟨b, off, none⟩).run P w = .ok (valOf t cs) w := by
  unfold loadVar valOf
  simp only [Sem.run_bind, h.agg_run, Result.andThen_ok]
  cases ha : t.agg with
  | true =>
    have := run_loadCells_list (P := P) w ⟨b, off, none⟩ cs (fun j v hj => by rw [Addr.add_lit]; exact hc j v hj)
    simp [h.size_run, ← hl, this]
  | false =>
    have h1 : t.size = 1 := by cases t <;> simp_all [Ty.agg, Ty.size]
    rw [h1] at hl
    match cs, hl with
    | [c], _ =>
      have := hc 0 c rfl
      simp at this
      simp [this]

theorem RepC.repB {G : Nat → Prop} {t : Ty} {x : t.den} {cs : List Value} (h : RepC w G t x cs) : RepB w G (toAtom t x) (valOf t cs) := by
  cases t with
  | int k => obtain ⟨rfl, h⟩ := h; exact ⟨rfl, h⟩
  | bool => cases h; exact ⟨rfl, trivial⟩
  | str => obtain ⟨rfl, h⟩ := h; exact ⟨rfl, h⟩
  | sl e => obtain ⟨v, rfl, h⟩ := h; exact h
  | unit => exact ⟨cs, rfl, h⟩
  | cons a b => exact ⟨cs, rfl, h⟩

theorem fldD_spec {G : Nat → Prop} : ∀ {t : Ty} {x : t.den} {n : Nat} {d : Dyn} {cs : List Value}, fldD t x n = some d → RepC w G t x cs →
    ∃ o, fldOff t n = some (o, d.t) ∧ RepC w G d.t d.x ((cs.drop o).take d.t.size) ∧ o + d.t.size ≤ cs.length
  | .cons a b, x, 0, d, cs, h, hr => by
    obtain ⟨c1, c2, rfl, h1, h2⟩ := hr
    cases h
    refine ⟨0, rfl, ?_, by rw [List.length_append, h1.length]; simp⟩
    simp only [List.drop_zero]
    rw [← h1.length, List.take_left]
    exact h1
  | .cons a b, x, n + 1, d, cs, h, hr => by
    obtain ⟨c1, c2, rfl, h1, h2⟩ := hr
    obtain ⟨o, ho, hro, hl⟩ := fldD_spec (t := b) h h2
    refine ⟨a.size + o, by simp [fldOff, ho], ?_, by rw [List.length_append, h1.length]; omega⟩
    rw [← h1.length, List.drop_append, List.drop_of_length_le (by omega), List.nil_append, Nat.add_sub_cancel_left]
    exact hro
  | .int _, _, _, _, _, h, _ => by cases h
  | .bool, _, _, _, _, h, _ => by cases h
  | .str, _, _, _, _, h, _ => by cases h
  | .sl _, _, _, _, _, h, _ => by cases h
  | .unit, _, _, _, _, h, _ => by cases h

theorem fields_get : ∀ {fs : List Field} {t : Ty} {o n : Nat} {fo : Nat} {ft : Ty}, FieldsOk P fs t o → fldOff t n = some (fo, ft) →
    ∃ f, fs[n]? = some f ∧ f.offset = o + fo ∧ TyOk P f.type ft ∧ ft.size ≠ 0
  | f :: fs, .cons a b, o, 0, fo, ft, h, h2 => by
    cases h2
    exact ⟨f, rfl, h.1, h.2.1, h.2.2.1⟩
  | f :: fs, .cons a b, o, n + 1, fo, ft, h, h2 => by
    simp only [fldOff] at h2
    split at h2
    · rename_i o' t' h3
      cases h2
      obtain ⟨g, h4, h5, h6, h7⟩ := fields_get (n := n) h.2.2.2 h3
      exact ⟨g, by simpa using h4, by rw [h5]; omega, h6, h7⟩
    · cases h2
  | [], .unit, _, _, _, _, _, h2 => by cases h2
  | [], .int _, _, _, _, _, h, _ => h.elim
  | [], .bool, _, _, _, _, h, _ => h.elim
  | [], .str, _, _, _, _, h, _ => h.elim
  | [], .sl _, _, _, _, _, h, _ => h.elim
  | [], .cons _ _, _, _, _, _, h, _ => h.elim
  | _ :: _, .int _, _, _, _, _, h, _ => h.elim
  | _ :: _, .bool, _, _, _, _, h, _ => h.elim
  | _ :: _, .str, _, _, _, _, h, _ => h.elim
  | _ :: _, .sl _, _, _, _, _, h, _ => h.elim
  | _ :: _, .unit, _, _, _, _, h, _ => h.elim

theorem fieldAt_run {S : TypeId} {t : Ty} (h : TIOk P S (.struct t)) {n fo : Nat} {ft : Ty} (hf : fldOff t n = some (fo, ft)) (b off : Nat) :
    (Instr.fieldAt S (.pointer (some ⟨b, off, none⟩)) n).run P w = .ok (.pointer (some ⟨b, off + fo, none⟩)) w := by
  obtain ⟨_, fs, hu, hfs, _⟩ := h
  obtain ⟨f, h1, h2, h3, h4⟩ := fields_get hfs hf
  have h1' : fs[n]? = some f := by simpa using h1
  unfold Instr.fieldAt
  simp only [Sem.run_bind, run_underlying hu, Result.andThen_ok, h1', Instr.sureAddr, Sem.run_pure, fieldPlace, h3.size_run, if_neg h4, h2, Nat.zero_add, Addr.add_lit]

theorem part_run {T : TypeId} {t : Ty} (h : TyOk P T t) (cs : List Value) (o : Nat) (hl : o + t.size ≤ cs.length) :
    (part T cs.toArray o).run P w = .ok (valOf t ((cs.drop o).take t.size)) w := by
  unfold part valOf
  simp only [Sem.run_bind, h.agg_run, Result.andThen_ok]
  cases ha : t.agg with
  | true => simp [h.size_run, List.extract_toArray, List.extract_eq_take_drop]
  | false =>
    have h1 : t.size = 1 := by cases t <;> simp_all [Ty.agg, Ty.size]
    rw [h1] at hl ⊢
    have hlt : o < cs.length := by omega
    simp [hlt, List.take_one, List.head?_drop]

theorem field_run {S : TypeId} {t : Ty} (h : TIOk P S (.struct t)) {n fo : Nat} {ft : Ty} (hf : fldOff t n = some (fo, ft)) (cs : List Value) (hl : fo + ft.size ≤ cs.length) :
    (Instr.field S (.agg cs.toArray) n).run P w = .ok (valOf ft ((cs.drop fo).take ft.size)) w := by
  obtain ⟨_, fs, hu, hfs, _⟩ := h
  obtain ⟨f, h1, h2, h3, h4⟩ := fields_get hfs hf
  have h1' : fs[n]? = some f := by simpa using h1
  unfold Instr.field
  simp only [Sem.run_bind, run_underlying hu, Result.andThen_ok, h1', asAgg, Sem.run_pure, h2, Nat.zero_add]
  exact part_run h3 cs fo hl

theorem indexAt_run {T e : TypeId} {t : Ty} {by' : Nat} (h : TIOk P T (.slice e t by')) {k : IntKind} {i : Int} (b off len cap : Nat) (h0 : 0 ≤ i) (h1 : i < len) :
    (Instr.indexAt T (.slice (some ⟨b, off, none⟩) len cap) (.int k i)).run P w = .ok (.pointer (some ⟨b, off + i.toNat * t.size, none⟩)) w := by
  obtain ⟨_, hu, he, _⟩ := h
  unfold Instr.indexAt
  simp [asIntOf, run_underlying hu, h0, h1, he.size_run, Addr.add_lit]

end
end Go.Am
