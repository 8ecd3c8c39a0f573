/- The text of a problem: the specification and the program say the same. -/
import Derived.Test.YtjoimmmpaocfkaaF4
import Derived.Test.YtjoimmmpaocfkaaAm26
set_option linter.unusedVariables false
set_option linter.unusedSimpArgs false
set_option maxRecDepth 100000
namespace Go.Proofs.Ytjoimmmpaocfkaa
open Go Go.Am Go.Proofs

theorem names4 (x : Int) (h : 1 ≤ x ∧ x ≤ 6) : g11_0 x = List.getD g37_0 (Int.toNat x) ByteArray.empty ∧ (List.getD g37_0 (Int.toNat x) ByteArray.empty).size ≤ 5 := by
  have : x = 1 ∨ x = 2 ∨ x = 3 ∨ x = 4 ∨ x = 5 ∨ x = 6 := by omega
  rcases this with rfl | rfl | rfl | rfl | rfl | rfl <;> exact ⟨by decide +kernel, by decide +kernel⟩

theorem law4 (x : Int × ByteArray × ByteArray × Unit) (hw : Wf (.cons (.int .i64) (.cons .str (.cons .str .unit))) x) : P4 x ∧ g4_0 x = true := by
  obtain ⟨k, s, t, u⟩ := x
  have hs : s.size ≤ 9223372036854775807 := hw.2.1
  have ht : t.size ≤ 9223372036854775807 := hw.2.2.1
  have e1 : g38_0 k = decide (1 ≤ k ∧ k ≤ 6) := by unfold g38_0 g54_0; by_cases h1 : k ≥ 1 <;> by_cases h2 : k ≤ 6 <;> simp [h1, h2] <;> omega
  have e2 : g36_0 k = decide (1 ≤ k ∧ k ≤ 6) := by unfold g36_0 g53_0; by_cases h1 : k ≥ 1 <;> by_cases h2 : k ≤ 6 <;> simp [h1, h2] <;> omega
  have h12 : P12 (k, s, t, u) 1048576 := by
    unfold P12
    simp only [i64_iff]
    refine ⟨by omega, ?_⟩
    split
    · trivial
    · rename_i h
      simp only [decide_eq_true_eq] at h
      exact ⟨by omega, trivial⟩
  unfold P4 g4_0
  refine ⟨⟨h12, ?_⟩, ?_⟩
  · split
    · trivial
    · rename_i h
      have hb : s.size + t.size ≤ 1048576 := by
        simp only [decide_eq_true_eq, g12_0] at h
        split at h
        · omega
        · split at h
          · omega
          · omega
      unfold P13 P15
      rw [e1, e2]
      by_cases hk : 1 ≤ k ∧ k ≤ 6
      · obtain ⟨n1, n2⟩ := names4 k hk
        have h11 : P11 k := by
          unfold P11
          rw [e1]
          simp only [hk, i64_iff]
          refine ⟨?_, ?_, ?_, trivial⟩ <;> omega
        rw [n1]
        simp only [hk, ByteArray.size_append]
        generalize (List.getD g37_0 (Int.toNat k) ByteArray.empty).size = m at *
        have hone : (ByteArray.mk #[32]).size = 1 := rfl
        simp only [hone]
        refine ⟨⟨?_, ?_, ?_, ?_, ?_, ?_, trivial⟩, ⟨h11, ?_, ?_, ?_, ?_, trivial⟩, trivial⟩ <;> omega
      · simp [hk]
  · split
    · rfl
    · have : g15_0 (k, s, t, ()) = g13_0 (k, s, t, ()) := by
        unfold g15_0 g13_0
        rw [e1, e2]
        by_cases hk : 1 ≤ k ∧ k ≤ 6
        · rw [(names4 k hk).1]
        · simp only [hk, decide_false]; rfl
      simp only [this]
      simp
end Go.Proofs.Ytjoimmmpaocfkaa
