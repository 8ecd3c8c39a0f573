/- The abstract machine, part 25: a contract, said otherwise. -/
import Derived.Test.YtjoimmmpaocfkaaAm24
namespace Go.Am
set_option linter.unusedVariables false

instance (k : IntKind) (n : Int) : Decidable (InR k n) := inferInstanceAs (Decidable (k.min ≤ n ∧ n ≤ k.max))

theorem ArgsRep.wf {w : World} {G : Nat → Prop} {sig : List AT} {x : sigDen sig} {vs : List Value} {bss : List (List Nat)} (h : ArgsRep w G sig x vs bss) : wfSig sig x := args_wf h

/-- A contract that asks more and says the same in other words. -/
theorem Contract.says {P : Program} {f : FuncId} {sig : List AT} {pre pre' : sigDen sig → Prop} {upd : sigDen sig → List (Option Lst)} {res res' : sigDen sig → List Dyn}
    (hc : Contract P f { sig := sig, pre := pre, upd := upd, res := res }) (h : ∀ x, pre' x → wfSig sig x → pre x ∧ res x = res' x) : Contract P f { sig := sig, pre := pre', upd := upd, res := res' } := by
  intro w x vs bss hp ha hn
  obtain ⟨h1, h2⟩ := h x hp ha.wf
  have := hc w x vs bss h1 ha hn
  simp only at this ⊢
  rw [h2] at this
  exact this
end Go.Am
