/- The names of the commands: the specification and the program say the same. -/
import Derived.Test.YtjoimmmpaocfkaaF5
set_option linter.unusedVariables false
set_option linter.unusedSimpArgs false
set_option maxRecDepth 100000
namespace Go.Proofs.Ytjoimmmpaocfkaa
open Go Go.Am Go.Proofs

theorem law5 : P5 ∧ g5_0 = true := by
  have hl : g17_0.length = 26 := rfl
  have hm : (u19_0 g17_0 1).length = 26 := by rw [u19_0, M19_len, hl]
  have h20 : P20 (u19_0 g17_0 1) 1 := by
    refine ⟨⟨by omega, by rw [hm]; omega⟩, fun i hi => ?_⟩
    rw [hm] at hi
    rw [getD_lt _ _ _ (by rw [hm]; exact hi)]
    simp [u19_0, M19]
  have h19 : P19 g17_0 1 := ⟨by omega, by rw [hl]; omega⟩
  unfold P5 g5_0
  simp [h19, h20]
end Go.Proofs.Ytjoimmmpaocfkaa
