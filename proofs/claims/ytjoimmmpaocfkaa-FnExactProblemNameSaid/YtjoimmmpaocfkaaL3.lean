/- The names of the problems: the specification and the program say the same. -/
import Derived.Test.YtjoimmmpaocfkaaF3
import Derived.Test.YtjoimmmpaocfkaaAm25
set_option linter.unusedVariables false
set_option linter.unusedSimpArgs false
set_option maxRecDepth 100000
namespace Go.Proofs.Ytjoimmmpaocfkaa
open Go Go.Am Go.Proofs

theorem law3 (x : Int) : P3 x ∧ g3_0 x = true := by
  unfold P3 g3_0 P10 P11 g10_0 g11_0 g36_0 g38_0 g53_0 g54_0
  by_cases h : 1 ≤ x ∧ x ≤ 6
  · have : x = 1 ∨ x = 2 ∨ x = 3 ∨ x = 4 ∨ x = 5 ∨ x = 6 := by omega
    rcases this with rfl | rfl | rfl | rfl | rfl | rfl <;> decide +kernel
  · have h1 : ¬ (x ≥ 1 ∧ x ≤ 6) := h
    by_cases h2 : x ≥ 1
    · have h3 : ¬ x ≤ 6 := by omega
      simp [h2, h3]
    · simp [h2]
end Go.Proofs.Ytjoimmmpaocfkaa
