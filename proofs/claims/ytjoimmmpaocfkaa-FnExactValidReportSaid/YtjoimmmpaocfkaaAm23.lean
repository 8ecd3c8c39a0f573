/- The abstract machine, part 23: from a law's contract to its statement. -/
import Derived.Test.YtjoimmmpaocfkaaAm22
namespace Go.Am
open Go.ChangeShapes Go.WideShapes Go.ChangeAt Go.RowKit
set_option linter.unusedVariables false
set_option linter.unusedSimpArgs false

section
variable {H : Type} {enc : TypeId × Value → H} {P : Program} {W W' : World}

theorem trodAll_below (hl : laidOutB P = true) (hb : Below W.heap.size W W') : ∀ {ts : List TypeId} {vs : List Value} {ds : List (DataW H)} {ps : List MemPlace}, (∀ t ∈ ts, P.readableRec t = true ∧ t < P.types.size) →
    DataW.TrodAll enc P W 0 (fun _ => true) true ts vs ds ps → (∀ x ∈ ps, x.block < W.heap.size) → DataW.TrodAll enc P W' 0 (fun b => decide (b < W.heap.size)) true ts vs ds ps
  | [], [], [], _, _, h, _ => h
  | t :: ts, v :: vs, d :: ds, ps, hr, ⟨p, q, h1, h2, e⟩, hlt => by
    obtain ⟨r1, r2⟩ := hr t (List.mem_cons_self ..)
    refine ⟨p, q, Below.trod hl r1 r2 h1 hb (fun x hx => hlt x (by rw [e]; exact List.mem_append_left _ hx)), trodAll_below hl hb (fun t ht => hr t (List.mem_cons_of_mem _ ht)) h2 (fun x hx => hlt x (by rw [e]; exact List.mem_append_right _ hx)), e⟩
  | [], [], _ :: _, _, _, h, _ => h.elim
  | [], _ :: _, _, _, _, h, _ => h.elim
  | _ :: _, [], _, _, _, h, _ => h.elim
  | _ :: _, _ :: _, [], _, _, h, _ => h.elim

theorem trodAll_len {base : Nat} {sp : Nat → Bool} {held : Bool} : ∀ {ts : List TypeId} {vs : List Value} {ds : List (DataW H)} {ps : List MemPlace}, DataW.TrodAll enc P W base sp held ts vs ds ps → ds.length = ts.length ∧ vs.length = ts.length
  | [], [], [], _, h => ⟨rfl, rfl⟩
  | t :: ts, v :: vs, d :: ds, ps, ⟨p, q, h1, h2, e⟩ => by obtain ⟨a, b⟩ := trodAll_len h2; exact ⟨by simp [a], by simp [b]⟩
  | [], [], _ :: _, _, h => h.elim
  | [], _ :: _, _, _, h => h.elim
  | _ :: _, [], _, _, h => h.elim
  | _ :: _, _ :: _, [], _, h => h.elim
end

/-- The types of a law's arguments, looked at. -/
def argsB (P : Program) : List Ty → List TypeId → Bool
  | [], [] => true
  | t :: ts, T :: Ts => argB P t T && argsB P ts Ts
  | _, _ => false

theorem argsB_spec {P : Program} : ∀ {ts : List Ty} {Ts : List TypeId}, argsB P ts Ts = true → ts.length = Ts.length ∧ ∀ (i : Nat) (t : Ty) (T : TypeId), ts[i]? = some t → Ts[i]? = some T → argB P t T = true
  | [], [], _ => ⟨rfl, fun i t T h => by simp at h⟩
  | t :: ts, T :: Ts, h => by
    simp only [argsB, Bool.and_eq_true] at h
    obtain ⟨h1, h2⟩ := argsB_spec h.2
    refine ⟨by simp [h1], fun i u U hu hU => ?_⟩
    cases i with
    | zero => simp at hu hU; subst hu hU; exact h.1
    | succ i => exact h2 i u U (by simpa using hu) (by simpa using hU)
  | [], _ :: _, h => by cases h
  | _ :: _, [], h => by cases h

def lawSpec (ts : List Ty) : Spec := { sig := ts.map AT.v, pre := fun _ => True, res := fun _ => [⟨.bool, true⟩] }

theorem law_lifted {H : Type} {enc : TypeId × Value → H} {a : Assume} {C : Checked} {os : Os} {f : FuncId} {fn : Func} {s : ChangeSpec} {conds : List PathCond} {apart fresh handsOn : Bool}
    (own : ownKnob C.prog.godebug = none) (started : os.Started) (noInit : C.prog.inits.idxOf? f = none) (hfn : C.prog.funcs[f]? = some fn)
    (witness : ∃ (w : World) (tape : Tape) (i : Input), w.os = os ∧ (w.forCall tape i).Shaped C.prog ∧ i.vars = [] ∧ Input.okWide C.prog (w.forCall tape i) .any w.heap.size f i ∧
      s.pre6 enc C.prog fn conds apart (w.forCall tape i).memory i.args ∧ a.holds C.prog (lone (Frame.enter C.prog f i.args .normal) [] (w.forCall tape i)))
    (hl : laidOutB C.prog = true) (hr : (fn.params.toList.all fun t => C.prog.readableRec t && Nat.blt t C.prog.types.size) = true)
    (ts : List Ty) (hts : argsB C.prog ts fn.params.toList = true) {tb : TypeId} (hres : fn.resultTypes = #[tb]) (htb : C.prog.underlying tb = some .bool) (hvars : s.vars = [])
    (hs : ∀ ds : List (DataW H), ds.length = fn.params.toList.length → (s.fn H (ds ++ [])).results = [.lit (.bool true)] ∧ (s.fn H (ds ++ [])).args = ds ∧ (s.fn H (ds ++ [])).vars = [])
    (hcon : Contract C.prog f (lawSpec ts)) :
    ReturnsInHanded a C os f .any (s.pre6 enc C.prog fn conds apart) (s.post enc C.prog fn apart fresh handsOn false) := by
  refine returnsInHanded_of_change own started noInit hfn witness ?_
  intro W base args ds gs before hval hW hcnd _
  have hW' := hW
  obtain ⟨p, q, hA, hV, hbef, hfz, hnd⟩ := hW
  rw [hvars] at hV
  obtain ⟨rfl, rfl⟩ := trodVars_none hV
  obtain ⟨hlen, hall⟩ := argsB_spec hts
  obtain ⟨x, bss, hb0, hx⟩ := trod_args (r := .any) (b0 := base) hlen hall (fun j T v h1 h2 => hval j T v (by simpa using h1) (by simpa using h2)) hA
  have hcall := hcon W x args.toList bss trivial (by rw [hb0]; exact hx) (by rw [hb0]; exact List.nodup_nil)
  rw [hb0] at hcall
  refine hcall.mono ?_
  rintro e W' ⟨rs, ubs, rbs, rfl, hk, hrr, _⟩
  have hrs : rs = [.bool true] := by
    obtain ⟨v, s', b, bs, cs, h1, h2, h3, h4, h5⟩ := hrr
    obtain ⟨h3, _⟩ := h3
    simp only [IsVal] at h4
    rw [h3] at h4
    cases h4
    rw [h1, h5.1]
  subst hrs
  have hbel := hk.below
  obtain ⟨g1, g2, g3⟩ := hs ds (trodAll_len hA).1
  have hlt : ∀ y ∈ p, y.block < W.heap.size := fun y hy => hW'.lt y (by rw [hbef]; exact List.mem_append_left _ hy)
  have hr' : ∀ t ∈ fn.params.toList, C.prog.readableRec t = true ∧ t < C.prog.types.size := fun t ht => by
    have := List.all_eq_true.1 hr t ht
    simp only [Bool.and_eq_true] at this
    exact ⟨this.1, Nat.le_of_ble_eq_true this.2⟩
  refine ⟨.bool true, rfl, ds, [], before, [], p, [], hW', ?_, ?_, ?_, hbel.frame _, fun h => by cases h⟩
  · rw [hres, g1]
    exact trodAll_mk1 (shut_bool htb true)
  · rw [g2]
    exact trodAll_below hl hbel hr' hA hlt
  · rw [hvars, g3]
    rfl
end Go.Am
