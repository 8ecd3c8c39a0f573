/- The abstract machine, part 17: one operation. -/
import Derived.Test.YtjoimmmpaocfkaaAm16
namespace Go.Am
set_option linter.unusedVariables false
set_option linter.unusedSimpArgs false

/-- The cells of a flat tree. -/
def fcells : (t : Ty) → t.den → List Value
  | .int k, n => [.int k n]
  | .bool, b => [.bool b]
  | .str, s => [.string s]
  | .sl _, _ => []
  | .unit, _ => []
  | .cons a b, x => fcells a x.1 ++ fcells b x.2

theorem own_fcells {w : World} : ∀ {t : Ty} {x : t.den} {cs : List Value} {bs : List Nat}, t.flat = true → OwnC w t x cs bs → cs = fcells t x
  | .int _, _, _, _, _, h => h.1
  | .bool, _, _, _, _, h => h.1
  | .str, _, _, _, _, h => h.1
  | .unit, _, _, _, _, h => h.1
  | .cons _ _, _, _, _, hf, ⟨c1, c2, b1, b2, h, _, h1, h2⟩ => by
    simp only [Ty.flat, Bool.and_eq_true] at hf
    rw [h, own_fcells hf.1 h1, own_fcells hf.2 h2]
    rfl

def scals : List Dyn → Option (List (Atom × Value))
  | [] => some []
  | d :: r => match d.t.flat, scals r with
    | true, some s => some ((toAtom d.t d.x, valOf d.t (fcells d.t d.x)) :: s)
    | _, _ => none

/-- A call that makes nothing that is kept. -/
def callQ (ext : Ext) (L : Heap) (f : FuncId) (ps : List PV) : Option (List Prop × PV) :=
  match ext with
  | [] => none
  | (g, S) :: r => match Nat.beq f g with
    | true => match decArgs L S.sig ps with
      | some (x, os, us) => match os.flatten, scals (S.res x) with
        | [], some vs => some ([S.pre x], packA (vs.map Prod.fst))
        | _, _ => callQ r L f ps
      | none => callQ r L f ps
    | false => callQ r L f ps

/-- The function that is called, and what it is handed. -/
def calleeA (E : Env) (f : Operand) (args : List Operand) : Option (FuncId × List PV) :=
  match opnd E f with
  | .fn g caps => some (g, args.map (opnd E) ++ caps.map PV.a)
  | _ => none

/-- An operation that is quiet. -/
def opQ (tab : List TI) (ext : Ext) (wr : Bool) (E : Env) (L : Heap) : Op → Option (List Prop × PV)
  | .call { callee := .value f, args, argTypes } => match calleeA E f args.toList with
    | some (g, ps) => callQ ext L g ps
    | none => none
  | .convert s d x => match b2sA tab L s d (opnd E x) with
    | some r => some ([], .a (.val (.string r)))
    | none => absQ tab wr E L (.convert s d x)
  | op => absQ tab wr E L op

/-- Any operation. -/
def opM (tab : List TI) (ext : Ext) (wr : Bool) (E : Env) (L : Heap) : Op → Option (List Prop × PV × Env × Heap)
  | .box T x => match boxA tab T (opnd E x) with
    | some A => some ([], .a (.optr L.length 0 []), E, L ++ [some A])
    | none => none
  | .alloc T => match allocA tab T with
    | some A => some ([], .a (.optr L.length 0 []), E, L ++ [some A])
    | none => none
  | .buildSlice T n parts => match sliceLitA tab T n (parts.toList.map fun p => (p.1, opnd E p.2)) with
    | some A => some ([], .a (.osl L.length none), E, L ++ [some A])
    | none => none
  | .makeSlice T l c => match makeA tab T (opnd E l) (opnd E c) with
    | some (cs, A) => some (cs, .a (.osl L.length none), E, L ++ [some A])
    | none => none
  | .store T x y => match storeA tab L T (opnd E x) (opnd E y) with
    | some L' => some ([], .a .junk, E, L')
    | none => none
  | .call { callee := .value f, args, argTypes } => match calleeA E f args.toList with
    | some (g, ps) => callA ext E L g ps
    | none => none
  | .call { callee := .builtin .append, args, argTypes } => match args.toList, argTypes.toList with
    | [s, x], [T, T2] => appA tab E L T T2 (opnd E s) (opnd E x)
    | _, _ => none
  | .convert s d x => match s2bA tab s d (opnd E x) with
    | some A => some ([], .a (.osl L.length none), E, L ++ [some A])
    | none => match opQ tab ext wr E L (.convert s d x) with
      | some (cs, pv) => some (cs, pv, E, L)
      | none => none
  | op => match opQ tab ext wr E L op with
    | some (cs, pv) => some (cs, pv, E, L)
    | none => none

section
variable {P : Program} {n : Nat} {w0 w : World} {O : List Nat} {a : Act} {E : Env} {L : Heap} {V : Nat → Value} {own : Nat → List Nat}

theorem callFunc_run {g : FuncId} (h : Callable P g) (args : Array Value) (w : World) : (callFunc g args).run P w = .ok (.enter g args) w := by
  obtain ⟨fn, h1, h2, h3⟩ := h
  unfold callFunc
  simp only [Sem.run_bind, run_program, Result.andThen_ok, h1, h2, h3, Bool.false_eq_true, if_false, Sem.run_pure]

theorem call_run {g : FuncId} (h : Callable P g) {ρ : Operand → Value} {o : Oper} {f : Operand} {args : Array Operand} {ts : Array TypeId} (ho : o.op = .call { callee := .value f, args, argTypes := ts }) {vs : List Value} (hf : ρ f = .func (.func g) #[] vs.toArray) (w : World) :
    (execOp ρ o).run P w = .ok (.enter g ((args.toList.map ρ) ++ vs).toArray) w := by
  simp only [execOp, ho, resolve, Sem.run_bind, hf, Deferred.ofValue, Sem.run_pure, Result.andThen_ok, invoke]
  rw [callFunc_run h]
  congr 2
  apply Array.toList_inj.1
  simp

theorem calleeA_spec (hR : RelV n w0 O w a E L V own) {f : Operand} {args : List Operand} {g : FuncId} {ps : List PV} (h : calleeA E f args = some (g, ps)) :
    ∃ vs, a.eval f = .func (.func g) #[] vs.toArray ∧ RepPs w0 (Good w0 O) L V ps (args.map a.eval ++ vs) := by
  unfold calleeA at h
  split at h
  · rename_i g' caps hf
    cases h
    have hx := hR.opnd f
    rw [hf] at hx
    obtain ⟨vs, hv, hr⟩ := hx
    exact ⟨vs, hv, repPs_append (hR.opnds args) (repPs_atoms hr)⟩
  · cases h

theorem scals_spec : ∀ {ds : List Dyn} {vs : List (Atom × Value)} {rs : List Value} {rbs : List (List Nat)} {w : World}, scals ds = some vs → ResRep w ds rs rbs → rs = vs.map Prod.snd ∧ RepAs w0 (Good w0 O) L V (vs.map Prod.fst) rs
  | [], vs, rs, rbs, w, h, hr => by cases h; exact ⟨hr.1, hr.1⟩
  | d :: r, vs, rs, rbs, w, h, ⟨v, s, b, bs, cs, h1, h2, h3, h4, h5⟩ => by
    simp only [scals] at h
    split at h
    · rename_i s' hf hs
      cases h
      obtain ⟨e1, e2⟩ := scals_spec hs h5
      subst h1
      have hc := own_fcells hf h3
      have hv : v = valOf d.t (fcells d.t d.x) := by
        rw [← hc]
        obtain ⟨t, x⟩ := d
        cases t <;> simp only [IsVal] at h4 <;> subst h4 <;> rfl
      obtain ⟨ha, _⟩ := own_toAtom (w0 := w0) (L := L) (V := V) hf h3 h4 (Good w0 O)
      exact ⟨by rw [List.map_cons, ← e1, ← hv], ⟨v, s, rfl, ha, e2⟩⟩
    · cases h

theorem ownOf_nil {own : Nat → List Nat} {os : List (List Nat)} (h : os.flatten = []) : (ownOf own os).flatten = [] := by
  rw [ownOf_flatten, h]; rfl

theorem callQ_spec : ∀ {ext : Ext} (hX : ExtOk P ext) (hR : RelV n w0 O w a E L V own) {f : FuncId} {ps : List PV} {vs : List Value} {cs : List Prop} {pv : PV}
    (hps : RepPs w0 (Good w0 O) L V ps vs) (h : callQ ext L f ps = some (cs, pv)) (hc : All cs),
    Callable P f ∧ ∃ v, RepP w0 (Good w0 O) L V pv v ∧ ∀ w', Kept [] w w' → Calls P f vs.toArray w' fun e w'' => e = .returned v ∧ Kept [] w' w''
  | [], _, _, _, _, _, _, _, _, h, _ => by cases h
  | (g, S) :: r, hX, hR, f, ps, vs, cs, pv, hps, h, hc => by
    obtain ⟨⟨hcall, hcon⟩, hX'⟩ := hX
    simp only [callQ] at h
    split at h
    · rename_i hfg
      obtain rfl := Nat.eq_of_beq_eq_true hfg
      split at h
      · rename_i x os us hd
        split at h
        · rename_i vals hos hsc
          cases h
          simp only [All] at hc
          have hall : ∀ w', Kept [] w w' → Calls P f vs.toArray w' fun e w'' => e = .returned (packV (vals.map Prod.snd)) ∧ Kept [] w' w'' ∧ RepAs w0 (Good w0 O) L V (vals.map Prod.fst) (vals.map Prod.snd) := by
            intro w' k
            have hargs := decArgs_rep hR k (H := (ownOf own os).flatten) (by rw [ownOf_nil hos]; simp) hps hd (by rw [ownOf_nil hos]; simp)
            refine (hcon w' x _ _ hc.1 hargs (by rw [ownOf_nil hos]; exact List.nodup_nil)).mono ?_
            rintro e w'' ⟨rs, ubs, rbs, rfl, hk, hrr, _⟩
            obtain ⟨rfl, ho⟩ := scals_spec (w0 := w0) (O := O) (L := L) (V := V) hsc hrr
            rw [ownOf_nil hos] at hk
            exact ⟨rfl, hk, ho⟩
          obtain ⟨_, _, _, ⟨_, _, hok⟩, _⟩ := hall w (Kept.refl _ _) []
          exact ⟨hcall, packV (vals.map Prod.snd), packV_rep hok, fun w' k => (hall w' k).mono fun e w'' hh => ⟨hh.1, hh.2.1⟩⟩
        · exact callQ_spec hX' hR hps h hc
      · exact callQ_spec hX' hR hps h hc
    · exact callQ_spec hX' hR hps h hc

theorem bytesStr_size (xs : List Int) : (bytesStr xs).size = xs.length := by
  have key : ∀ (xs : List Int) (s : ByteArray), (xs.foldl (fun r n => r.push (UInt8.ofNat n.toNat)) s).size = s.size + xs.length := by
    intro xs
    induction xs with
    | nil => intro s; rfl
    | cons x r ih => intro s; simp only [List.foldl_cons, ih, ByteArray.size_push, List.length_cons]; omega
  simpa [bytesStr] using key xs ByteArray.empty

theorem b2s_spec {tab : List TI} (hT : TabOk P tab) (hR : RelV n w0 O w a E L V own) {s d : TypeId} {x : Operand} {r : ByteArray} (h : b2sA tab L s d (opnd E x) = some r) :
    OkV (.string r) ∧ ∀ w', Kept [] w w' → (convert s d (a.eval x)).run P w' = .ok (.string r) w' := by
  unfold b2sA at h
  split at h
  · rename_i A hA
    split at h
    · rename_i e b xs hs hd hdec
      cases h
      have hS := hT s; rw [hs] at hS
      have hD := hT d; rw [hd] at hD
      have hrep := fun w' k => decV_rep hR (w' := w') k (H := []) (by simp) (hR.atom hA) hdec (by simp)
      have hlen := (hrep w (Kept.refl _ _)).1
      refine ⟨?_, fun w' k => ?_⟩
      · show (bytesStr xs).size ≤ maxLen
        rw [bytesStr_size]; exact hlen
      · have hr := hrep w' k
        rcases hr.2 with ⟨e1, e2⟩ | ⟨b', off, cap, e1, e2, e3, e4, e5⟩
        · rw [e1, run_convert_bytes_string w' s d e none 0 0 hS.2.1 hS.2.2.1.int_und hD.str_und]
          have : xs = [] := e2
          subst this
          rfl
        · rw [e1, run_convert_bytes_string w' s d e _ _ _ hS.2.1 hS.2.2.1.int_und hD.str_und]
          refine run_bytesToString w' _ _ _ xs ?_
          have := run_loadCells_list (P := P) w' ⟨b', off, none⟩ (xs.map (Value.int .u8)) (fun j v hj => by
            rw [List.getElem?_map] at hj
            cases hx : xs[j]? with
            | none => rw [hx] at hj; cases hj
            | some y =>
              rw [hx] at hj
              cases hj
              obtain ⟨cs, g1, g2, g3⟩ := e5 j y hx
              obtain ⟨g3, _⟩ := g3
              subst g3
              have := g2 0 _ rfl
              rw [Addr.add_lit]
              simpa [Ty.size] using this)
          simp only [List.length_map] at this
          exact this
    · cases h
  · cases h

/-- **A quiet operation is sound.** -/
theorem opQ_spec {tab : List TI} {ext : Ext} (hT : TabOk P tab) (hX : ExtOk P ext) (hR : RelV n w0 O w a E L V own) {wr : Bool} {o : Oper} {cs : List Prop} {pv : PV}
    (h : opQ tab ext wr E L o.op = some (cs, pv)) (hc : All cs) :
    ∃ v, RepP w0 (Good w0 O) L V pv v ∧ ∀ w', Kept [] w w' → o.quietAt P a (Kept [] w') w' v := by
  have plain : ∀ {op : Op} (ho : o.op = op), absQ tab wr E L op = some (cs, pv) → ∃ v, RepP w0 (Good w0 O) L V pv v ∧ ∀ w', Kept [] w w' → o.quietAt P a (Kept [] w') w' v := by
    intro op ho h
    rw [← ho] at h
    obtain ⟨v, hv, hr⟩ := absQ_spec hT hR h hc
    refine ⟨v, hv, fun w' k => ?_⟩
    unfold Oper.quietAt
    rw [hr w' k]
    exact ⟨rfl, rfl⟩
  unfold opQ at h
  split at h
  · rename_i f args ts ho
    split at h
    · rename_i g ps hg
      obtain ⟨vs, hv, hps⟩ := calleeA_spec hR hg
      obtain ⟨hcall, v, hrep, hcalls⟩ := callQ_spec hX hR hps h hc
      refine ⟨v, hrep, fun w' k => ?_⟩
      unfold Oper.quietAt
      rw [call_run hcall ho hv]
      exact ⟨rfl, hcalls w' k⟩
    · cases h
  · rename_i s d x ho
    split at h
    · rename_i r hr
      cases h
      obtain ⟨h1, h2⟩ := b2s_spec hT hR hr
      refine ⟨_, ⟨rfl, h1⟩, fun w' k => ?_⟩
      unfold Oper.quietAt
      simp only [execOp, ho]
      rw [run_value _ _ _ _ (h2 w' k)]
      exact ⟨rfl, rfl⟩
    · exact plain ho h
  · exact plain rfl h

theorem s2b_spec {tab : List TI} (hT : TabOk P tab) (hR : RelV n w0 O w a E L V own) {s d : TypeId} {x : Operand} {A : Arr} (h : s2bA tab s d (opnd E x) = some A) :
    ∃ v w' V' own', (convert s d (a.eval x)).run P w = .ok v w' ∧ RelN n w0 O w w' a E L (L ++ [some A]) V V' own own' ∧ RepP w0 (Good w0 O) (L ++ [some A]) V' (.a (.osl L.length none)) v := by
  unfold s2bA at h
  split at h
  · rename_i b hx
    split at h
    · rename_i e by' hs hd
      cases h
      obtain ⟨e1, e2⟩ := hR.valEq hx
      have hS := hT s; rw [hs] at hS
      have hD := hT d; rw [hd] at hD
      have hcapg := grownCap_ge w b.size 0 e
      have hcapm := grownCap_le_maxLen w b.size 0 e e2
      have hrow : ∀ (l : List UInt8) (w1 : World) (bor : Bool), Row (entR w0 (Good w0 O) w1 (.int .u8) bor) (Ty.int IntKind.u8).size (l.map fun b => (b.toNat : Int)) (l.map fun b => [.int .u8 (b.toNat : Int)]) (l.map fun _ => []) := by
        intro l w1 bor
        induction l with
        | nil => exact ⟨rfl, rfl⟩
        | cons b l ih =>
          refine ⟨_, _, _, _, rfl, rfl, rfl, ?_, ih⟩
          refine repC_ent (w := w1) (G := fun _ => True) (t := .int .u8) (x := (b.toNat : Int)) (cs := [.int .u8 (b.toNat : Int)]) ⟨rfl, ?_⟩ rfl bor _ _
          have hb := b.toNat_lt
          simp [InR, IntKind.min, IntKind.max, IntKind.bits, IntKind.signed]; omega
      let cells : Array Value := (b.data.map fun x => .int .u8 x.toNat) ++ Array.replicate (grownCap w b.size 0 e - b.size) (.int .u8 0)
      have hcs : cells.size = grownCap w b.size 0 e := by
        simp only [cells, Array.size_append, Array.size_map, Array.size_replicate]
        have : b.data.size = b.size := rfl
        omega
      let w2 : World := (w.drew.alloc (.cells cells e)).freeze ⟨w.heap.size, cells.size, none⟩ 1
      have hk : Kept [] w w2 := by
        refine ⟨rfl, rfl, rfl, by simp [w2, World.freeze], fun k hk _ => ?_⟩
        have h1 : (w.drew.alloc (.cells cells e)).heap[k]? = w.heap[k]? := Go.RowKit.Below.heap_alloc w.drew _ k hk
        simp only [w2, World.freeze, Nat.one_ne_zero, if_false, Array.getElem?_modify]
        rw [if_neg (by omega)]
        exact h1
      have hb2 : w2.heap[w.heap.size]? = some (.cells cells e (cells.size, cells.size + 1)) := by
        have h1 := heap_new w.drew (.cells cells e)
        have hsz : w.drew.heap.size = w.heap.size := rfl
        rw [hsz] at h1
        have hlt : w.heap.size < (w.drew.alloc (.cells cells e)).heap.size := by simp [World.alloc, hsz]
        have h2 : (w.drew.alloc (.cells cells e)).heap[w.heap.size] = .cells cells e := by
          rw [Array.getElem?_eq_getElem hlt] at h1; exact Option.some.inj h1
        simp only [w2, World.freeze, Nat.one_ne_zero, if_false, Array.getElem?_modify, if_pos, h1]
        simp
      have hent := ownSl_of_row (hrow b.data.toList w2 false) (b := w.heap.size) (off := 0) (cap := grownCap w b.size 0 e) (cur := cells) (ty := e) (fz := (cells.size, cells.size + 1)) (by rw [List.length_map]; exact e2) (by rw [List.length_map]; exact hcapg) hcapm (by rw [hcs, Nat.zero_add, show (Ty.int IntKind.u8).size = 1 from rfl, Nat.mul_one]; exact Nat.le_refl _) hb2 (free_of _) (fun j c hj => by
        have hfl : ∀ l : List UInt8, (l.map fun b => [Value.int .u8 (b.toNat : Int)]).flatten = l.map fun b => Value.int .u8 (b.toNat : Int) := by
          intro l
          induction l with
          | nil => rfl
          | cons x l ih => simp only [List.map_cons, List.flatten_cons, ih]; rfl
        rw [hfl] at hj
        have hlt := (List.getElem?_eq_some_iff.1 hj).1
        rw [Nat.zero_add, ← Array.getElem?_toList]
        simp only [cells, Array.toList_append, Array.toList_map]
        rw [List.getElem?_append_left hlt]
        exact hj)
      have hnil : ((b.data.toList.map fun _ => ([] : List Nat))).flatten = [] := by simp
      rw [hnil] at hent
      have hent' : EntC w0 (Good w0 O) w2 ⟨.int .u8, bytesOf b, false⟩ (.slice (some ⟨w.heap.size, 0, none⟩) (bytesOf b).length (grownCap w b.size 0 e)) [w.heap.size] := hent
      refine ⟨_, _, _, _, ?_, hR.freshN hk hent' (by simp) (by simp), repA_new (w0 := w0) (G := Good w0 O) (u := w0) (G' := Good w0 O) hent'⟩
      have hlen : (bytesOf b).length = b.size := by simp [bytesOf]
      rw [e1, hlen]
      have hsz : w.drew.heap.size = w.heap.size := rfl
      have hsh : (w.drew.alloc (.cells cells e)).shape? w.heap.size = some (e, cells.size) := by
        have h1 := heap_new w.drew (.cells cells e)
        rw [hsz] at h1
        simp only [World.shape?, h1]
      have hforced : (Question.appendCap b.size 0 e).forced = false := rfl
      have hgc : (Question.appendCap b.size 0 e).cut (w.tape w.drawn (.appendCap b.size 0 e)) = grownCap w b.size 0 e := rfl
      have hdr : ({ w with drawn := w.drawn + 1 } : World) = w.drew := rfl
      unfold convert
      simp only [Sem.run_bind, run_underlying hS.str_und, run_underlying hD.2.1, Result.andThen_ok, run_underlying hD.2.2.1.int_und]
      unfold Conv.stringToBytes
      simp only [Sem.run_bind, run_choose, hforced, Bool.false_eq_true, if_false, Result.andThen_ok, hgc, hdr, newRow, run_newObj, Sem.run_pure]
      show ((markStringish ⟨w.drew.heap.size, 0, none⟩).run P (w.drew.alloc (.cells cells e))).andThen _ = _
      unfold markStringish
      rw [hsz]
      simp only [Sem.run_bind, run_shape, hsh, Result.andThen_ok, run_freeze]
      rfl
    · cases h
  · cases h
end
end Go.Am
