/- A law that says how functions of the program and of the specification hang together. -/
import Derived.Test.YtjoimmmpaocfkaaF43
import Derived.Test.YtjoimmmpaocfkaaF55
import Derived.Test.YtjoimmmpaocfkaaF57c58
import Derived.Test.YtjoimmmpaocfkaaF62c58
import Derived.Test.YtjoimmmpaocfkaaF58
import Derived.Test.YtjoimmmpaocfkaaF24
import Derived.Test.YtjoimmmpaocfkaaF22
import Derived.Test.YtjoimmmpaocfkaaF40
import Derived.Test.YtjoimmmpaocfkaaF41c42
import Derived.Test.YtjoimmmpaocfkaaF56c42
import Derived.Test.YtjoimmmpaocfkaaF42
import Derived.Test.YtjoimmmpaocfkaaAm28
set_option linter.unusedVariables false
set_option linter.unusedSimpArgs false
set_option maxRecDepth 100000
namespace Go.Proofs.Ytjoimmmpaocfkaa
open Go Go.Am Go.Proofs

theorem reportLine (s : ByteArray) : g43_0 s = g55_0 s := by
  unfold g43_0 g57c58_0 g55_0
  rw [any62c58]
  have hq : (!(bytesOf s).any g58_0) = (bytesOf s).all ok55 := by
    rw [List.not_any_eq_all_not]
    congr 1
    funext b
    simp only [g58_0, ok55]
    by_cases h1 : b < 32 <;> by_cases h2 : b > 126 <;> simp [h1, h2] <;> omega
  rw [hq]
  by_cases h : ((s.size : Nat) : Int) ≤ 100
  · have h' : s.size ≤ 100 := by omega
    simp [h, h']
  · have h' : ¬ s.size ≤ 100 := by omega
    simp [h, h']

theorem report (x : List ByteArray) : g24_0 x = g22_0 x := by
  unfold g24_0 g22_0 g40_0 g41c42_0
  rw [any56c42]
  have hq : (!x.any g42_0) = x.all g55_0 := by
    rw [List.not_any_eq_all_not]
    congr 1
    funext b
    simp only [g42_0, reportLine, Bool.not_not]
  rw [hq]
  by_cases h : ((x.length : Nat) : Int) ≤ 200
  · have h' : x.length ≤ 200 := by omega
    simp [h, h']
  · have h' : ¬ x.length ≤ 200 := by omega
    simp [h, h']

end Go.Proofs.Ytjoimmmpaocfkaa
