/- The sameness of blocks: the specification and the program say the same. -/
import Derived.Test.YtjoimmmpaocfkaaF7
set_option linter.unusedVariables false
set_option linter.unusedSimpArgs false
set_option maxRecDepth 100000
namespace Go.Proofs.Ytjoimmmpaocfkaa
open Go Go.Am Go.Proofs

theorem law7 (x y : List (ByteArray × ByteArray × ByteArray × Unit)) (hx : Wf (.sl (.cons .str (.cons .str (.cons .str .unit)))) x) (hy : Wf (.sl (.cons .str (.cons .str (.cons .str .unit)))) y) : P7 x y ∧ g7_0 x y = true := by
  have h1 := g25_le x 1048576 (by omega) (by rw [i64_iff]; omega) hx
  have h2 : ¬ g25_0 x 1048576 < 0 → ¬ g25_0 y (g25_0 x 1048576) < 0 → _ := fun h => g25_le y (g25_0 x 1048576) (by omega) (by rw [i64_iff]; have := h1 h; omega) hy
  have e1 : g29_0 x x = true := by simp [g29_0]
  have e2 : g29_0 y y = true := by simp [g29_0]
  unfold P7 g7_0
  simp only [P25, P26, P27, P28, P29, g26_0, g27_0, g28_0, g44_0, g45_0, e1, e2, decide_eq_true_eq]
  by_cases n1 : g25_0 x 1048576 < 0
  · simp [n1]
  · have := h1 n1
    by_cases n2 : g25_0 y (g25_0 x 1048576) < 0
    · simp [n1, n2]; omega
    · have := h2 n1 n2
      simp [n1, n2]
      omega
end Go.Proofs.Ytjoimmmpaocfkaa
