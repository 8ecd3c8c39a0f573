/- The plain law of FnExactValidReport. -/
import Derived.Test.YtjoimmmpaocfkaaF6
import Derived.Test.YtjoimmmpaocfkaaF21
import Derived.Test.YtjoimmmpaocfkaaF23
import Derived.Test.YtjoimmmpaocfkaaF18
import Derived.Test.YtjoimmmpaocfkaaXreportLine
import Derived.Test.YtjoimmmpaocfkaaAm28
set_option linter.unusedVariables false
set_option linter.unusedSimpArgs false
set_option maxRecDepth 100000
namespace Go.Proofs.Ytjoimmmpaocfkaa
open Go Go.Am Go.Proofs

theorem law6 (x : List ByteArray) (hw : Wf (.sl .str) x) : P6 x ∧ g6_0 x = true := by
  unfold P6 g6_0
  by_cases h : g21_0 x 1048576 < 0
  · simp only [h, decide_true, if_true, and_true]
    exact (show (0 : Int) ≤ 1048576 from by decide)
  · have hs := sz21_sum x 1048576 h
    have hp : P23 x := by
      show 16 * (x.length : Int) ≤ 281474976710656
      omega
    simp only [h, decide_false, Bool.false_eq_true, if_false, g23_0, report]
    refine ⟨⟨(show (0 : Int) ≤ 1048576 from by decide), hp, hp, ?_⟩, ?_⟩
    · split
      · trivial
      · exact ⟨hp, trivial⟩
    · simp [g18_0]

end Go.Proofs.Ytjoimmmpaocfkaa
