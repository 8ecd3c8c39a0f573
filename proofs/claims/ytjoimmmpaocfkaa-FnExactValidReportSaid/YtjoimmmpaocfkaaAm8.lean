/- The abstract machine, part 8: the evaluator of the reading operations, whole. -/
import Derived.Test.YtjoimmmpaocfkaaAm7
namespace Go.Am
set_option linter.unusedVariables false
set_option linter.unusedSimpArgs false

def nthA : List Atom → Nat → Option Atom
  | [], _ => none
  | a :: _, 0 => some a
  | _ :: r, n + 1 => nthA r n

def atomsOf (E : Env) : List Operand → Option (List Atom)
  | [] => some []
  | x :: r => match opnd E x, atomsOf E r with
    | .a A, some s => some (A :: s)
    | _, _ => none

def bytesStr (xs : List Int) : ByteArray := xs.foldl (fun r n => r.push (UInt8.ofNat n.toNat)) ByteArray.empty

def slOk (L : Heap) (ti : TI) : Atom → Bool
  | .val (.string _) => match ti with | .scal .str => true | _ => false
  | .sl t _ => match ti with | .slice _ t' _ => decide (t = t') | _ => false
  | .osl r _ => match hget L r, ti with | some A, .slice _ t' _ => decide (A.t = t') | _, _ => false
  | _ => false

def isSl : TI → Bool
  | .slice _ _ _ => true
  | _ => false

def lenOk (ti : TI) : Atom → Bool
  | .val (.string _) => match ti with | .scal .str => true | _ => false
  | _ => isSl ti

def intO (E : Env) : Option Operand → Option (Option Int)
  | none => some none
  | some x => match opnd E x with | .a (.val (.int _ n)) => some (some n) | _ => none

def cmpV (isMax : Bool) (x y : Int) : Int := match isMax with | true => if x < y then y else x | false => if y < x then y else x

/-- What a builtin yields that only reads. -/
def builtinA (tab : List TI) (L : Heap) (b : Builtin) (args : List PV) (ts : List TypeId) : Option (List Prop × PV) :=
  match b, args, ts with
  | .len, [.a A], [T] => match lenOk (tabGet tab T) A, lenA L A with
    | true, some i => some ([], .a (.val (.int .i64 i)))
    | _, _ => none
  | .min, [.a (.val (.int k x)), .a (.val (.int k' y))], _ => match decide (k = k') with
    | true => some ([], .a (.val (.int k (cmpV false x y))))
    | false => none
  | .max, [.a (.val (.int k x)), .a (.val (.int k' y))], _ => match decide (k = k') with
    | true => some ([], .a (.val (.int k (cmpV true x y))))
    | false => none
  | _, _, _ => none

def binA (tab : List TI) (wr : Bool) (op : BinOp) (T : TypeId) : PV → PV → Option (List Prop × PV)
  | .a (.val (.bool a)), .a (.val (.bool b)) => match tabGet tab T, op with
    | .scal .bool, .eql => some ([], .a (.val (.bool (a == b))))
    | .scal .bool, .neq => some ([], .a (.val (.bool (!(a == b)))))
    | _, _ => none
  | .a (.val u), .a (.val v) => match binV wr op u v with
    | some (cs, r) => some (cs, .a (.val r))
    | none => none
  | .a (.st t x), .a (.st t' y) => match tabGet tab T, op with
    | .struct u, .eql => if h : t = u then if h' : t' = u then (match u.flat with | true => some ([], .a (.val (.bool (eqD u (h ▸ x) (h' ▸ y))))) | false => none) else none else none
    | .struct u, .neq => if h : t = u then if h' : t' = u then (match u.flat with | true => some ([], .a (.val (.bool (!eqD u (h ▸ x) (h' ▸ y))))) | false => none) else none else none
    | _, _ => none
  | _, _ => none

def unA (wr : Bool) (op : UnOp) : PV → Option (List Prop × PV)
  | .a (.val (.bool b)) => match op with | .not => some ([], .a (.val (.bool (!b)))) | _ => none
  | .a (.val (.int k n)) => match op, wr with
    | .neg, true => some ([], .a (.val (.int k (k.wrap (0 - n)))))
    | .neg, false => some ([InR k (0 - n)], .a (.val (.int k (0 - n))))
    | _, _ => none
  | _ => none

def convA (tab : List TI) (wr : Bool) (L : Heap) (src dst : TypeId) : PV → Option (List Prop × PV)
  | .a (.val (.int _ n)) => match tabGet tab src, tabGet tab dst, wr with
    | .scal (.int _), .scal (.int k), true => some ([], .a (.val (.int k (k.wrap n))))
    | .scal (.int _), .scal (.int k), false => some ([InR k n], .a (.val (.int k n)))
    | _, _, _ => none
  | _ => none

/-- **The evaluator of the operations that only read.** -/
def absQ (tab : List TI) (wr : Bool) (E : Env) (L : Heap) : Op → Option (List Prop × PV)
  | .move x | .assign x => some ([], opnd E x)
  | .nilCheck x => match opnd E x with
    | .a (.ptr t y) => some ([], .a (.ptr t y))
    | .a (.optr r i p) => some ([], .a (.optr r i p))
    | .fn f cs => some ([], .fn f cs)
    | _ => none
  | .binOp op T x y _ => binA tab wr op T (opnd E x) (opnd E y)
  | .unOp op _ x => unA wr op (opnd E x)
  | .convert s d x => convA tab wr L s d (opnd E x)
  | .extract x i => match opnd E x with
    | .tup xs => match nthA xs i with | some A => some ([], .a A) | none => none
    | _ => none
  | .makeFunc (.func f) first caps => match first.toList, atomsOf E caps.toList with
    | [], some as => some ([], .fn f as)
    | _, _ => none
  | .load T x => match opnd E x, (tabGet tab T).ty with
    | .a A, some t => match loadA L t A with | some B => some ([], .a B) | none => none
    | _, _ => none
  | .fieldAddr S x f => match opnd E x, tabGet tab S with
    | .a A, .struct t => match fldAddrA L t f A with | some B => some ([], .a B) | none => none
    | _, _ => none
  | .field S x f => match opnd E x, tabGet tab S with
    | .a A, .struct t => match fieldA t f A with | some B => some ([], .a B) | none => none
    | _, _ => none
  | .indexAddr T x i => match opnd E x, opnd E i, tabGet tab T with
    | .a A, .a (.val (.int _ n)), .slice _ t _ => match idxAddrA L t n A with | some (cs, B) => some (cs, .a B) | none => none
    | _, _, _ => none
  | .index T x i => match opnd E x, opnd E i, tabGet tab T with
    | .a (.val (.string s)), .a (.val (.int _ n)), .scal .str => some ([0 ≤ n, n < (s.size : Int)], .a (.val (.int .u8 (byteAt s n))))
    | _, _, _ => none
  | .slice T x lo hi none => match opnd E x, intO E lo, intO E hi with
    | .a A, some l, some h => match slOk L (tabGet tab T) A, sliceA L l h A with
      | true, some (cs, B) => some (cs, .a B)
      | _, _ => none
    | _, _, _ => none
  | .build T parts => match tabGet tab T with
    | .struct t => match t.agg, buildA t t.dflt (parts.toList.map fun p => (p.1, opnd E p.2)) with
      | true, some x => some ([], .a (.st t x))
      | _, _ => none
    | _ => none
  | .call { callee := .builtin b, args, argTypes } => builtinA tab L b (args.toList.map (opnd E)) argTypes.toList
  | _ => none

section
variable {P : Program} {n : Nat} {w0 w : World} {O : List Nat} {a : Act} {E : Env} {L : Heap} {V : Nat → Value} {own : Nat → List Nat}

theorem run_value (s : Sem Value) (v : Value) (w w' : World) (h : s.run P w = .ok v w') : (do pure (Next.value (← s)) : Sem Next).run P w = .ok (.value v) w' := by
  simp [h]

theorem TI.ty_ok {T : TypeId} {ti : TI} {t : Ty} (h : TIOk P T ti) (ht : ti.ty = some t) : TyOk P T t := by
  cases ti <;> cases ht
  · exact h
  · exact h.1
  · exact h.1

theorem TyOk.int_und {T : TypeId} {k : IntKind} (h : TyOk P T (.int k)) : P.underlying T = some (.int k) := by
  obtain ⟨d, hd, hf⟩ := h.und
  cases d <;> simp [descFits] at hf
  subst hf
  exact hd
theorem TyOk.bool_und {T : TypeId} (h : TyOk P T .bool) : P.underlying T = some .bool := by
  obtain ⟨d, hd, hf⟩ := h.und
  cases d <;> simp [descFits] at hf
  exact hd
theorem TyOk.str_und {T : TypeId} (h : TyOk P T .str) : P.underlying T = some .string := by
  obtain ⟨d, hd, hf⟩ := h.und
  cases d <;> simp [descFits] at hf
  exact hd

theorem flat_lists {G : Nat → Prop} : ∀ (t : Ty),
    (∀ T d x y c1 c2 w, wrapE P t.agg T (eqB P t) = true → dep t ≤ d → RepC w0 G t x c1 → RepC w0 G t y c2 → (Op.equalIn (d + 1) T (valOf t c1) (valOf t c2)).run P w = .ok (eqD t x y) w) ∧
    (∀ fs o d x y (xs ys : List Value) w, eqB P t (.inr (fs, o)) = true → dep t ≤ d → RepC w0 G t x (xs.drop o) → RepC w0 G t y (ys.drop o) → o + t.size ≤ xs.length → o + t.size ≤ ys.length →
      (Op.eqFields d xs.toArray ys.toArray fs).run P w = .ok (eqD t x y) w)
  | .int k => by
    refine ⟨fun T d x y c1 c2 w h _ h1 h2 => ?_, fun fs o d x y xs ys w h => by simp [eqB] at h⟩
    have hu := isIntB_eq (by simpa [wrapE, Ty.agg, eqB] using h)
    obtain ⟨rfl, _⟩ := h1
    obtain ⟨rfl, _⟩ := h2
    exact run_equalIn_int w d T k k x y hu
  | .bool => by
    refine ⟨fun T d x y c1 c2 w h _ h1 h2 => ?_, fun fs o d x y xs ys w h => by simp [eqB] at h⟩
    have hu := isBoolB_eq (by simpa [wrapE, Ty.agg, eqB] using h)
    have h1 : c1 = [.bool x] := h1
    have h2 : c2 = [.bool y] := h2
    subst h1 h2
    exact run_equalIn_bool' w d T x y hu
  | .str => by
    refine ⟨fun T d x y c1 c2 w h _ h1 h2 => ?_, fun fs o d x y xs ys w h => by simp [eqB] at h⟩
    have hu := isStrB_eq (by simpa [wrapE, Ty.agg, eqB] using h)
    obtain ⟨rfl, _⟩ := h1
    obtain ⟨rfl, _⟩ := h2
    exact run_equalIn_string w d T x y hu
  | .sl e => ⟨fun T d x y c1 c2 w h => by simp [wrapE, Ty.agg, eqB] at h, fun fs o d x y xs ys w h => by simp [eqB] at h⟩
  | .unit => by
    have hB : ∀ fs o d x y (xs ys : List Value) w, eqB P .unit (.inr (fs, o)) = true → (Op.eqFields d xs.toArray ys.toArray fs).run P w = .ok (eqD .unit x y) w := by
      intro fs o d x y xs ys w h
      match fs, h with
      | [], h => simp [Op.eqFields, eqD]
      | _ :: _, h => simp [eqB] at h
    refine ⟨fun T d x y c1 c2 w h _ h1 h2 => ?_, fun fs o d x y xs ys w h _ _ _ _ _ => hB fs o d x y xs ys w h⟩
    simp only [wrapE, Ty.agg] at h
    split at h
    · rename_i fs hu
      simp only [Bool.and_eq_true, Bool.not_eq_true'] at h
      have hf : P.fieldsOf T = fs := by simp [Program.fieldsOf, hu]
      show (Op.equalIn (d + 1) T (.agg c1.toArray) (.agg c2.toArray)).run P w = _
      rw [run_equalIn_agg w d T _ _ (by rw [hf]; exact hu) h.1, hf]
      exact hB _ _ d x y _ _ w h.2
    · cases h
  | .cons a b => by
    obtain ⟨ha, _⟩ := flat_lists a
    obtain ⟨_, hb⟩ := flat_lists b
    have hB : ∀ fs o d x y (xs ys : List Value) w, eqB P (.cons a b) (.inr (fs, o)) = true → dep (.cons a b) ≤ d → RepC w0 G (.cons a b) x (xs.drop o) → RepC w0 G (.cons a b) y (ys.drop o) → o + (Ty.cons a b).size ≤ xs.length → o + (Ty.cons a b).size ≤ ys.length →
        (Op.eqFields d xs.toArray ys.toArray fs).run P w = .ok (eqD (.cons a b) x y) w := by
      intro fs o d x y xs ys w h hd hx hy hlx hly
      match fs, h with
      | [], h => simp [eqB] at h
      | f :: fs, h =>
        simp only [eqB, Bool.and_eq_true, bne_iff_ne, ne_eq] at h
        obtain ⟨h0, h1, h2, h3, h4⟩ := h
        have h1 := Nat.eq_of_beq_eq_true h1
        have h2 := tyCheck_ok h2
        simp only [dep] at hd
        have hd1 : dep a + 1 ≤ d := Nat.le_trans (Nat.le_max_left _ _) hd
        have hd2 : dep b ≤ d := Nat.le_trans (Nat.le_max_right _ _) hd
        obtain ⟨d, rfl⟩ : ∃ d', d = d' + 1 := ⟨d - 1, by omega⟩
        simp only [Ty.size] at hlx hly
        obtain ⟨p1, p2, hp, hp1, hp2⟩ := hx
        obtain ⟨q1, q2, hq, hq1, hq2⟩ := hy
        have e1 : (xs.drop o).take a.size = p1 := by rw [hp, ← hp1.length, List.take_left']; rfl
        have e2 : (ys.drop o).take a.size = q1 := by rw [hq, ← hq1.length, List.take_left']; rfl
        have e3 : xs.drop (o + a.size) = p2 := by rw [← List.drop_drop, hp, ← hp1.length, List.drop_left']; rfl
        have e4 : ys.drop (o + a.size) = q2 := by rw [← List.drop_drop, hq, ← hq1.length, List.drop_left']; rfl
        have r1 : (part f.type xs.toArray f.offset).run P w = .ok (valOf a p1) w := by
          rw [h1, ← e1]; exact part_run h2 xs o (by omega)
        have r2 : (part f.type ys.toArray f.offset).run P w = .ok (valOf a q1) w := by
          rw [h1, ← e2]; exact part_run h2 ys o (by omega)
        have r3 := ha f.type d x.1 y.1 p1 q1 w h3 (by omega) hp1 hq1
        have r4 := hb fs (o + a.size) (d + 1) x.2 y.2 xs ys w h4 hd2 (by rw [e3]; exact hp2) (by rw [e4]; exact hq2) (by omega) (by omega)
        simp only [Op.eqFields, ne_eq, h0, not_false_eq_true, if_true, Sem.run_bind, r1, r2, r3, Result.andThen_ok, Sem.run_ite, Sem.run_pure]
        simp only [eqD]
        cases eqD a x.1 y.1 with
        | true => simpa using r4
        | false => simp
    refine ⟨fun T d x y c1 c2 w h hd h1 h2 => ?_, hB⟩
    have l1 := h1.length
    have l2 := h2.length
    simp only [wrapE, Ty.agg] at h
    split at h
    · rename_i fs hu
      simp only [Bool.and_eq_true, Bool.not_eq_true'] at h
      have hf : P.fieldsOf T = fs := by simp [Program.fieldsOf, hu]
      show (Op.equalIn (d + 1) T (.agg c1.toArray) (.agg c2.toArray)).run P w = _
      rw [run_equalIn_agg w d T _ _ (by rw [hf]; exact hu) h.1, hf]
      exact hB _ 0 d x y c1 c2 w h.2 hd (by simpa using h1) (by simpa using h2) (by omega) (by omega)
    · cases h

theorem st_eq {u : Ty} {T : TypeId} (hu : TIOk P T (.struct u)) (hf : u.flat = true) {x y : u.den} {v1 v2 : Value} {G : Nat → Prop} (h1 : ∃ cs, v1 = .agg cs.toArray ∧ RepC w0 G u x cs) (h2 : ∃ cs, v2 = .agg cs.toArray ∧ RepC w0 G u y cs) (w' : World) (ox oy : Operand) :
    (do eqGuard .eql T ox oy v1 v2; binOp .eql T v1 v2 : Sem Value).run P w' = .ok (.bool (eqD u x y)) w' ∧ (do eqGuard .neq T ox oy v1 v2; binOp .neq T v1 v2 : Sem Value).run P w' = .ok (.bool (!eqD u x y)) w' := by
  obtain ⟨c1, rfl, r1⟩ := h1
  obtain ⟨c2, rfl, r2⟩ := h2
  obtain ⟨hty, fs, hund, _, he⟩ := hu
  have he := he hf
  simp only [eqT, Bool.and_eq_true, Bool.not_eq_true'] at he
  obtain ⟨e1, e2, e3⟩ := he
  have hd := Nat.le_of_ble_eq_true e1
  have hag : u.agg = true := by
    cases hh : u.agg with
    | true => rfl
    | false =>
      obtain ⟨d, hd, hfit⟩ := hty.und
      rw [hund] at hd
      cases hd
      cases u <;> simp [descFits, Ty.agg] at hfit hh
  have hv1 : valOf u c1 = .agg c1.toArray := by simp [valOf, hag]
  have hv2 : valOf u c2 = .agg c2.toArray := by simp [valOf, hag]
  have heq := (flat_lists (G := G) u).1 T 9999 x y c1 c2 w' e3 hd r1 r2
  rw [hv1, hv2] at heq
  constructor
  · simp only [Sem.run_bind, run_eqGuard_agg w' .eql T ox oy _ _ e2, Result.andThen_ok, run_eql_struct, heq]
  · simp only [Sem.run_bind, run_eqGuard_agg w' .neq T ox oy _ _ e2, Result.andThen_ok, run_neq_struct, heq]

theorem binA_spec {tab : List TI} (hT : TabOk P tab) (hR : RelV n w0 O w a E L V own) {wr : Bool} {op : BinOp} {T : TypeId} {x y : Operand} {cs : List Prop} {pv : PV}
    (h : binA tab wr op T (opnd E x) (opnd E y) = some (cs, pv)) (hc : All cs) :
    ∃ v, RepP w0 (Good w0 O) L V pv v ∧ ∀ w', (do eqGuard op T x y (a.eval x) (a.eval y); binOp op T (a.eval x) (a.eval y) : Sem Value).run P w' = .ok v w' := by
  unfold binA at h
  split at h
  · rename_i b1 b2 hx hy
    obtain ⟨e1, _⟩ := hR.valEq hx
    obtain ⟨e2, _⟩ := hR.valEq hy
    rw [e1, e2, eqGuard_at_bool]
    split at h
    · rename_i ht
      cases h
      have hu := hT T
      rw [ht] at hu
      refine ⟨_, ⟨rfl, trivial⟩, fun w' => ?_⟩
      have h9 : (Op.equalIn 10000 T (.bool b1) (.bool b2)).run P w' = .ok (b1 == b2) w' := run_equalIn_bool' w' 9999 T b1 b2 (TyOk.bool_und hu)
      simp only [binOp, Op.equal, Op.maxDepth, Sem.run_bind, Sem.run_pure, Result.andThen_ok, h9]
    · rename_i ht
      cases h
      have hu := hT T
      rw [ht] at hu
      refine ⟨_, ⟨rfl, trivial⟩, fun w' => ?_⟩
      have h9 : (Op.equalIn 10000 T (.bool b1) (.bool b2)).run P w' = .ok (b1 == b2) w' := run_equalIn_bool' w' 9999 T b1 b2 (TyOk.bool_und hu)
      simp only [binOp, Op.equal, Op.maxDepth, Sem.run_bind, Sem.run_pure, Result.andThen_ok, h9]
    · cases h
  · rename_i u v _ hx hy
    obtain ⟨e1, _⟩ := hR.valEq hx
    obtain ⟨e2, _⟩ := hR.valEq hy
    rw [e1, e2]
    split at h
    · rename_i cs' r hb
      cases h
      exact ⟨r, ⟨rfl, (binV_run (P := P) (w := w) hb hc T x y).2⟩, fun w' => (binV_run hb hc T x y).1⟩
    · cases h
  · rename_i t x1 t' y1 hx hy
    have hvx := hR.atom hx
    have hvy := hR.atom hy
    split at h
    · rename_i u ht
      have hu := hT T
      rw [ht] at hu
      split at h
      · rename_i he
        subst he
        split at h
        · rename_i he
          subst he
          split at h
          · rename_i hf
            cases h
            exact ⟨_, ⟨rfl, trivial⟩, fun w' => (st_eq hu hf hvx hvy w' x y).1⟩
          · cases h
        · cases h
      · cases h
    · rename_i u ht
      have hu := hT T
      rw [ht] at hu
      split at h
      · rename_i he
        subst he
        split at h
        · rename_i he
          subst he
          split at h
          · rename_i hf
            cases h
            exact ⟨_, ⟨rfl, trivial⟩, fun w' => (st_eq hu hf hvx hvy w' x y).2⟩
          · cases h
        · cases h
      · cases h
    · cases h
  · cases h

theorem unA_spec (hR : RelV n w0 O w a E L V own) {wr : Bool} {op : UnOp} {x : Operand} {cs : List Prop} {pv : PV}
    (h : unA wr op (opnd E x) = some (cs, pv)) (hc : All cs) :
    ∃ v, RepP w0 (Good w0 O) L V pv v ∧ ∀ w', (Op.unary op (a.eval x)).run P w' = .ok v w' := by
  unfold unA at h
  split at h
  · rename_i b hx
    obtain ⟨e1, _⟩ := hR.valEq hx
    rw [e1]
    split at h
    · cases h; exact ⟨_, ⟨rfl, trivial⟩, fun w' => by simp [Op.unary]⟩
    · cases h
  · rename_i k m hx
    obtain ⟨e1, _⟩ := hR.valEq hx
    rw [e1]
    split at h
    · cases h; exact ⟨_, ⟨rfl, wrap_inR _ _⟩, fun w' => by simp [Op.unary, Op.intArith]⟩
    · cases h
      simp only [All] at hc
      exact ⟨_, ⟨rfl, hc.1⟩, fun w' => by simp only [Op.unary, Op.intArith, wrap_of_inR hc.1]; rfl⟩
    · cases h
  · cases h

theorem convA_spec {tab : List TI} (hT : TabOk P tab) (hR : RelV n w0 O w a E L V own) {wr : Bool} {s d : TypeId} {x : Operand} {cs : List Prop} {pv : PV}
    (h : convA tab wr L s d (opnd E x) = some (cs, pv)) (hc : All cs) :
    ∃ v, RepP w0 (Good w0 O) L V pv v ∧ ∀ w', (convert s d (a.eval x)).run P w' = .ok v w' := by
  unfold convA at h
  split at h
  · rename_i k0 m hx
    obtain ⟨e1, _⟩ := hR.valEq hx
    rw [e1]
    split at h
    · rename_i hs hd
      cases h
      have hu := hT s; rw [hs] at hu
      have hv := hT d; rw [hd] at hv
      exact ⟨_, ⟨rfl, wrap_inR _ _⟩, fun w' => by simp [convert, run_underlying (TyOk.int_und hu), run_underlying (TyOk.int_und hv), Conv.intToInt]⟩
    · rename_i hs hd
      cases h
      simp only [All] at hc
      have hu := hT s; rw [hs] at hu
      have hv := hT d; rw [hd] at hv
      exact ⟨_, ⟨rfl, hc.1⟩, fun w' => by simp [convert, run_underlying (TyOk.int_und hu), run_underlying (TyOk.int_und hv), Conv.intToInt, wrap_of_inR hc.1]⟩
    · cases h
  · cases h

theorem atomsOf_spec (hR : RelV n w0 O w a E L V own) : ∀ {xs : List Operand} {as : List Atom}, atomsOf E xs = some as → RepAs w0 (Good w0 O) L V as (xs.map a.eval)
  | [], as, h => by cases h; rfl
  | x :: r, as, h => by
    simp only [atomsOf] at h
    split at h
    · rename_i A s hx hr
      cases h
      exact ⟨_, _, rfl, hR.atom hx, atomsOf_spec hR hr⟩
    · cases h

theorem nthA_spec : ∀ {xs : List Atom} {vs : List Value} {i : Nat} {A : Atom}, nthA xs i = some A → RepAs w0 (Good w0 O) L V xs vs → ∃ v, vs[i]? = some v ∧ RepA w0 (Good w0 O) L V A v
  | x :: r, vs, 0, A, h, hr => by
    cases h
    obtain ⟨v, s, rfl, h1, h2⟩ := hr
    exact ⟨v, rfl, h1⟩
  | x :: r, vs, i + 1, A, h, hr => by
    obtain ⟨v, s, rfl, h1, h2⟩ := hr
    obtain ⟨u, hu, hr'⟩ := nthA_spec (i := i) h h2
    exact ⟨u, by simpa using hu, hr'⟩
  | [], _, _, _, h, _ => by cases h

theorem intO_spec (hR : RelV n w0 O w a E L V own) {x : Option Operand} {i : Option Int} (h : intO E x = some i) : ∃ o, i = optI o ∧ x.map a.eval = optV o := by
  cases x with
  | none => cases h; exact ⟨none, rfl, rfl⟩
  | some x =>
    simp only [intO] at h
    split at h
    · rename_i k m hx
      cases h
      exact ⟨some (k, m), rfl, by simp [optV, (hR.valEq hx).1]⟩
    · cases h

theorem slOk_spec {ti : TI} {A : Atom} (h : slOk L ti A = true) : ((∃ e t b, ti = .slice e t b) ∨ ti = .scal .str) ∧ SlTy L ti A := by
  cases A with
  | val u => cases u with
    | string s =>
      simp only [slOk] at h
      split at h
      · exact ⟨.inr rfl, rfl⟩
      · cases h
    | _ => cases h
  | sl t xs =>
    simp only [slOk] at h
    split at h
    · rename_i e t' b
      obtain rfl := of_decide_eq_true h
      exact ⟨.inl ⟨_, _, _, rfl⟩, _, _, rfl⟩
    · cases h
  | osl r rg =>
    simp only [slOk] at h
    split at h
    · rename_i B e t' b hB
      have := of_decide_eq_true h
      subst this
      exact ⟨.inl ⟨_, _, _, rfl⟩, B, hB, _, _, rfl⟩
    · cases h
  | _ => cases h

theorem lenOk_spec {ti : TI} {A : Atom} (h : lenOk ti A = true) : ((∃ e t b, ti = .slice e t b) ∨ ti = .scal .str) ∧ LenTy ti A := by
  have key : isSl ti = true → ∃ e t b, ti = .slice e t b := by
    intro h; cases ti <;> first | (cases h; done) | exact ⟨_, _, _, rfl⟩
  cases A with
  | val u => cases u with
    | string s =>
      simp only [lenOk] at h
      split at h
      · exact ⟨.inr rfl, rfl⟩
      · cases h
    | _ => exact ⟨.inl (key h), key h⟩
  | _ => exact ⟨.inl (key h), key h⟩

theorem byteAt_run {T : TypeId} (hT : TyOk P T .str) (s : ByteArray) (k : IntKind) (i : Int) (h0 : 0 ≤ i) (h1 : i < s.size) (w : World) :
    (Instr.index T (.string s) (.int k i)).run P w = .ok (.int .u8 (byteAt s i)) w ∧ OkV (.int .u8 (byteAt s i)) := by
  have hlt : i.toNat < s.size := by omega
  have hb : byteAt s i = ((s[i.toNat]'hlt).toNat : Int) := by
    unfold byteAt
    rw [List.getD_eq_getElem?_getD, List.getElem?_eq_getElem (by simpa using hlt)]
    rfl
  refine ⟨?_, ?_⟩
  · rw [run_index_string (P := P) w T s k i hT.str_und, dif_pos ⟨h0, h1⟩, hb]
  · rw [hb]
    have := (s[i.toNat]'hlt).toNat_lt
    simp [OkV, InR, IntKind.min, IntKind.max, IntKind.bits, IntKind.signed]
    omega

theorem builtinA_spec {tab : List TI} (hT : TabOk P tab) (hR : RelV n w0 O w a E L V own) {b : Builtin} {xs : List Operand} {ts : List TypeId} {cs : List Prop} {pv : PV}
    (h : builtinA tab L b (xs.map (opnd E)) ts = some (cs, pv)) (hc : All cs) (ty : TypeId) (consts : Array Bool) :
    ∃ v, RepP w0 (Good w0 O) L V pv v ∧ ∀ w', (builtin b ts.toArray ty consts (xs.map a.eval).toArray).run P w' = .ok (.value v) w' := by
  unfold builtinA at h
  split at h
  · rename_i A T hxs
    have : ∃ x, xs = [x] ∧ opnd E x = .a A := by
      cases xs with
      | nil => simp at hxs
      | cons x r => cases r with
        | nil => simp at hxs; exact ⟨x, rfl, hxs⟩
        | cons y s => simp at hxs
    obtain ⟨x, rfl, hx⟩ := this
    split at h
    · rename_i i hok hl
      cases h
      obtain ⟨h1, h2⟩ := lenOk_spec hok
      obtain ⟨h3, h4⟩ := lenA_spec hR (hT T) h1 (hR.atom hx) hl h2 ty
      refine ⟨_, ⟨rfl, h3⟩, fun w' => ?_⟩
      simp only [builtin, List.map_cons, List.map_nil]
      exact run_value _ _ _ _ (h4 w')
    · cases h
  · rename_i k x k' y hxs
    have : ∃ o1 o2, xs = [o1, o2] ∧ opnd E o1 = .a (.val (.int k x)) ∧ opnd E o2 = .a (.val (.int k' y)) := by
      cases xs with
      | nil => simp at hxs
      | cons o1 r => cases r with
        | nil => simp at hxs
        | cons o2 s => cases s with
          | nil => simp at hxs; exact ⟨o1, o2, rfl, hxs.1, hxs.2⟩
          | cons y s => simp at hxs
    obtain ⟨o1, o2, rfl, h1, h2⟩ := this
    split at h
    · rename_i hk
      obtain rfl := of_decide_eq_true hk
      cases h
      obtain ⟨e1, i1⟩ := hR.valEq h1
      obtain ⟨e2, i2⟩ := hR.valEq h2
      refine ⟨_, ⟨rfl, ?_⟩, fun w' => ?_⟩
      · simp only [OkV, cmpV] at i1 i2 ⊢
        split <;> assumption
      · simp [builtin, e1, e2, Builtin.min_, Builtin.min2, cmpV]
    · cases h
  · rename_i k x k' y hxs
    have : ∃ o1 o2, xs = [o1, o2] ∧ opnd E o1 = .a (.val (.int k x)) ∧ opnd E o2 = .a (.val (.int k' y)) := by
      cases xs with
      | nil => simp at hxs
      | cons o1 r => cases r with
        | nil => simp at hxs
        | cons o2 s => cases s with
          | nil => simp at hxs; exact ⟨o1, o2, rfl, hxs.1, hxs.2⟩
          | cons y s => simp at hxs
    obtain ⟨o1, o2, rfl, h1, h2⟩ := this
    split at h
    · rename_i hk
      obtain rfl := of_decide_eq_true hk
      cases h
      obtain ⟨e1, i1⟩ := hR.valEq h1
      obtain ⟨e2, i2⟩ := hR.valEq h2
      refine ⟨_, ⟨rfl, ?_⟩, fun w' => ?_⟩
      · simp only [OkV, cmpV] at i1 i2 ⊢
        split <;> assumption
      · simp [builtin, e1, e2, Builtin.max_, Builtin.max2, cmpV]
    · cases h
  · cases h

theorem repB_of_decB {A : Atom} {u : Value} {t : Ty} {x : t.den} (h : RepA w0 (Good w0 O) L V A u) (hd : decB t A = some x) : RepB w0 (Good w0 O) A u := by
  cases A with
  | osl r rg => cases t <;> cases hd
  | optr r i p => cases t <;> cases hd
  | _ => exact h

theorem partsRep (hR : RelV n w0 O w a E L V own) : ∀ (l : List (Nat × Operand)), PartsRep w0 (Good w0 O) (l.map fun p => (p.1, opnd E p.2)) (l.map fun p => (p.1, a.eval p.2))
  | [] => rfl
  | p :: r => ⟨a.eval p.2, _, rfl, fun A hA t x hd => repB_of_decB (hR.atom hA) hd, partsRep hR r⟩

/-- **The evaluator of the reading operations is sound.** -/
theorem absQ_spec {tab : List TI} (hT : TabOk P tab) (hR : RelV n w0 O w a E L V own) {wr : Bool} {o : Oper} {cs : List Prop} {pv : PV}
    (h : absQ tab wr E L o.op = some (cs, pv)) (hc : All cs) :
    ∃ v, RepP w0 (Good w0 O) L V pv v ∧ ∀ w', Kept [] w w' → (execOp a.eval o).run P w' = .ok (.value v) w' := by
  unfold absQ at h
  split at h
  · rename_i x ho
    cases h
    exact ⟨_, hR.opnd x, fun w' _ => by simp [execOp, ho]⟩
  · rename_i x ho
    cases h
    exact ⟨_, hR.opnd x, fun w' _ => by simp [execOp, ho]⟩
  · rename_i x ho
    have hx := hR.opnd x
    split at h
    · rename_i t y hp
      cases h
      rw [hp] at hx
      refine ⟨_, hx, fun w' _ => ?_⟩
      obtain ⟨b, off, cs, he, _⟩ := hx
      simp [execOp, ho, he]
    · rename_i r i p hp
      cases h
      rw [hp] at hx
      refine ⟨_, hx, fun w' _ => ?_⟩
      obtain ⟨_, _, _, b, off, m, cap, po, t', _, _, he⟩ := hx
      simp [execOp, ho, he]
    · rename_i f cs hp
      cases h
      rw [hp] at hx
      refine ⟨_, hx, fun w' _ => ?_⟩
      obtain ⟨vs, he, _⟩ := hx
      simp [execOp, ho, he]
    · cases h
  · rename_i op T x y yt ho
    obtain ⟨v, hv, hr⟩ := binA_spec hT hR h hc
    exact ⟨v, hv, fun w' _ => by simp only [execOp, ho]; exact run_value _ _ _ _ (hr w')⟩
  · rename_i op T x ho
    obtain ⟨v, hv, hr⟩ := unA_spec (P := P) hR h hc
    exact ⟨v, hv, fun w' _ => by simp only [execOp, ho]; exact run_value _ _ _ _ (hr w')⟩
  · rename_i s d x ho
    obtain ⟨v, hv, hr⟩ := convA_spec hT hR h hc
    exact ⟨v, hv, fun w' _ => by simp only [execOp, ho]; exact run_value _ _ _ _ (hr w')⟩
  · rename_i x i ho
    have hx := hR.opnd x
    split at h
    · rename_i xs hp
      rw [hp] at hx
      split at h
      · rename_i A hA
        cases h
        obtain ⟨vs, he, hr⟩ := hx
        obtain ⟨v, hv, hv'⟩ := nthA_spec hA hr
        exact ⟨v, hv', fun w' _ => by simp [execOp, ho, he, Instr.extract, hv]⟩
      · cases h
    · cases h
  · rename_i f first caps ho
    split at h
    · rename_i as hf has
      cases h
      have hr := atomsOf_spec hR has
      refine ⟨_, ⟨_, rfl, hr⟩, fun w' _ => ?_⟩
      have hfe : first = #[] := by cases first; simp_all
      simp [execOp, ho, Instr.makeFunc, hfe, ← Array.toList_map]
    · cases h
  · rename_i T x ho
    split at h
    · rename_i A t hx ht
      split at h
      · rename_i B hB
        cases h
        obtain ⟨v, hv, hr⟩ := loadA_spec hR (TI.ty_ok (hT T) ht) (hR.atom hx) hB
        exact ⟨v, hv, fun w' k => by simp only [execOp, ho]; exact run_value _ _ _ _ (hr w' k)⟩
      · cases h
    · cases h
  · rename_i S x f ho
    split at h
    · rename_i A t hx ht
      split at h
      · rename_i B hB
        cases h
        have hS := hT S; rw [ht] at hS
        obtain ⟨v, hv, hr⟩ := fldAddrA_spec hS (hR.atom hx) hB
        exact ⟨v, hv, fun w' k => by simp only [execOp, ho]; exact run_value _ _ _ _ (hr w')⟩
      · cases h
    · cases h
  · rename_i S x f ho
    split at h
    · rename_i A t hx ht
      split at h
      · rename_i B hB
        cases h
        have hS := hT S; rw [ht] at hS
        obtain ⟨v, hv, hr⟩ := fieldA_spec hS (hR.atom hx) hB
        exact ⟨v, hv, fun w' k => by simp only [execOp, ho]; exact run_value _ _ _ _ (hr w')⟩
      · cases h
    · cases h
  · rename_i T x i ho
    split at h
    · rename_i A k m e t b hx hi ht
      split at h
      · rename_i cs' B hB
        cases h
        have hS := hT T; rw [ht] at hS
        obtain ⟨v, hv, hr⟩ := idxAddrA_spec (k := k) hS (hR.atom hx) hB hc
        exact ⟨v, hv, fun w' _ => by simp only [execOp, ho, (hR.valEq hi).1]; exact run_value _ _ _ _ (hr w')⟩
      · cases h
    · cases h
  · rename_i T x i ho
    split at h
    · rename_i s k m hx hi ht
      cases h
      simp only [All] at hc
      have hS := hT T; rw [ht] at hS
      have hb := fun w' => byteAt_run (P := P) hS s k m hc.1 hc.2.1 w'
      exact ⟨_, ⟨rfl, (hb w).2⟩, fun w' _ => by simp only [execOp, ho, (hR.valEq hi).1, (hR.valEq hx).1]; exact run_value _ _ _ _ (hb w').1⟩
    · cases h
  · rename_i T x lo hi ho
    split at h
    · rename_i A l h' hx hl hh
      split at h
      · rename_i cs' B hok hB
        cases h
        obtain ⟨ol, rfl, e1⟩ := intO_spec hR hl
        obtain ⟨oh, rfl, e2⟩ := intO_spec hR hh
        obtain ⟨h1, h2⟩ := slOk_spec hok
        obtain ⟨v, hv, hr⟩ := sliceA_spec (hT T) h1 (hR.atom hx) h2 hB hc
        exact ⟨v, hv, fun w' _ => by simp only [execOp, ho, e1, e2, Option.map_none]; exact run_value _ _ _ _ (hr w')⟩
      · cases h
    · cases h
  · rename_i T parts ho
    split at h
    · rename_i t ht
      split at h
      · rename_i x ha hb
        cases h
        have hS := hT T; rw [ht] at hS
        obtain ⟨cs, hr, hrun⟩ := build_run hS ha hb (partsRep hR parts.toList)
        refine ⟨_, ⟨cs, rfl, hr⟩, fun w' _ => ?_⟩
        simp only [execOp, ho]
        refine run_value _ _ _ _ ?_
        have := hrun w'
        have e : (parts.map fun p => (p.1, a.eval p.2)) = (parts.toList.map fun p => (p.1, a.eval p.2)).toArray := by
          rw [← Array.toList_map]
        have e' : (Array.map (fun x => match x with | (i, x) => (i, a.eval x)) parts) = (parts.map fun p => (p.1, a.eval p.2)) := rfl
        rw [e', e]
        exact this
      · cases h
    · cases h
  · rename_i b args ts ho
    obtain ⟨v, hv, hr⟩ := builtinA_spec hT hR h hc o.type (args.map fun | .const _ => true | _ => false)
    refine ⟨v, hv, fun w' _ => ?_⟩
    have := hr w'
    simp only [execOp, ho, resolve, Sem.run_bind, Sem.run_pure, Result.andThen_ok, invoke]
    have e : args.map a.eval = (args.toList.map a.eval).toArray := by rw [← Array.toList_map]
    rw [e]
    exact this
  · cases h
end
end Go.Am
