/- Several texts in one: the functions that this law reaches, and their laws. -/
import Derived.Test.YtjkeinpcphkfbaaZ10A
import Derived.Test.YtjkeinpcphkfbaaZ10B
import Derived.Test.YtjkeinpcphkfbaaZ10C

/- A law that says how functions of the program and of the specification hang together. -/
set_option linter.unusedVariables false
set_option linter.unusedSimpArgs false
set_option maxRecDepth 100000
namespace Go.Proofs.Ytjkeinpcphkfbaa
open Go Go.Am Go.Proofs

theorem drop_eq (x : List (ByteArray × ByteArray × ByteArray × Unit)) (k n : ByteArray) : P49 x k n ∧ P48 x k n ∧ g49_0 x k n = g48_0 x k n ∧ g49_1 x k n = g48_1 x k n := by
  unfold P49 P48 g49_0 g48_0 g49_1 g48_1
  rw [blocks_eq]
  cases h : g83_0 x with
  | false => simp
  | true =>
    obtain ⟨f1, f2⟩ := find_eq x k n h
    obtain ⟨hl, _⟩ := sorted x h
    have hp : P94 x (k, n, ByteArray.empty, ()) := ⟨by show x.length ≤ 4611686018427387903; omega, trivial⟩
    rw [f2]
    cases h1 : g94_1 x (k, n, ByteArray.empty, ()) with
    | false => simp [hp]
    | true =>
      obtain ⟨a, b⟩ := f1 h1
      generalize g94_0 x (k, n, ByteArray.empty, ()) = K at *
      have c : ¬ K < 0 := by omega
      have pc : P96 x := (show x.length ≤ 1048576 from by omega)
      have pd : P95 x K (K + 1) := ⟨by omega, by omega, by omega⟩
      have r : InR .i64 (K + 1) := by rw [i64_iff]; omega
      have l1 : (x.take K.toNat).length ≤ x.length := by simp; omega
      have l2 : (x.drop (K + 1).toNat).length ≤ x.length := by simp
      simp only [if_true, Bool.not_true, Bool.false_eq_true, if_false, hp, c, decide_false, g96_0, pc, pd, r, g95_0, List.nil_append, true_and, and_true]
      refine ⟨by omega, by omega, by omega, by omega, by omega, by omega⟩

theorem drop_len (x : List (ByteArray × ByteArray × ByteArray × Unit)) (k n : ByteArray) : (g48_0 x k n).length ≤ x.length := by
  unfold g48_0
  split
  · exact Nat.zero_le _
  · rename_i hok
    have hok : g83_0 x = true := by simpa using hok
    split
    · exact Nat.zero_le _
    · rename_i hf
      obtain ⟨f1, f2⟩ := find_eq x k n hok
      rw [f2] at hf ⊢
      cases h1 : g94_1 x (k, n, ByteArray.empty, ()) with
      | false => rw [h1] at hf; simp at hf
      | true =>
        obtain ⟨a, b⟩ := f1 h1
        simp only [if_true, List.nil_append, List.length_append, List.length_take, List.length_drop]
        omega

end Go.Proofs.Ytjkeinpcphkfbaa

/- A law that says how functions of the program and of the specification hang together. -/
set_option linter.unusedVariables false
set_option linter.unusedSimpArgs false
set_option maxRecDepth 100000
namespace Go.Proofs.Ytjkeinpcphkfbaa
open Go Go.Am Go.Proofs

theorem marked_blk (xs : List (ByteArray × ByteArray × ByteArray × Unit)) (h : xs.length ≤ 1048576) : P47 xs 1 ∧ (u47_0 xs 1).length = xs.length ∧ ¬ g47_0 xs 1 < 0 := by
  have hl : (u47_0 xs 1).length = xs.length := by rw [u47_0, M47_len]
  refine ⟨⟨by omega, by omega⟩, hl, ?_⟩
  unfold g47_0
  omega

end Go.Proofs.Ytjkeinpcphkfbaa

/- A law that says how functions of the program and of the specification hang together. -/
set_option linter.unusedVariables false
set_option linter.unusedSimpArgs false
set_option maxRecDepth 100000
namespace Go.Proofs.Ytjkeinpcphkfbaa
open Go Go.Am Go.Proofs

theorem held_blk (xs : List (ByteArray × ByteArray × ByteArray × Unit)) (h : xs.length ≤ 1048576) : P50 (u47_0 xs 1) 1 ∧ g50_0 (u47_0 xs 1) 1 = g47_0 xs 1 := by
  have hl : (u47_0 xs 1).length = xs.length := by rw [u47_0, M47_len]
  refine ⟨⟨⟨by omega, by rw [hl]; omega⟩, fun i hi => ?_⟩, ?_⟩
  · rw [hl] at hi
    rw [getD_lt _ _ _ (by rw [hl]; exact hi)]
    simp [u47_0, M47]
  · unfold g50_0 g47_0
    rw [hl]

end Go.Proofs.Ytjkeinpcphkfbaa

/- The plain law of FnExactDropBlock. -/
set_option linter.unusedVariables false
set_option linter.unusedSimpArgs false
set_option maxRecDepth 100000
namespace Go.Proofs.Ytjkeinpcphkfbaa
open Go Go.Am Go.Proofs

theorem law10 (x : List (ByteArray × ByteArray × ByteArray × Unit)) (k n : ByteArray) (hw : Wf (.sl (.cons .str (.cons .str (.cons .str .unit)))) x) (hk : Wf .str k) (hn : Wf .str n) : P10 x k n ∧ g10_0 x k n = true := by
  unfold P10 g10_0
  by_cases h0 : (k.size : Int) > 1048576
  · simp only [h0, decide_true, if_true, and_self]
  by_cases h1 : (n.size : Int) > 1048576
  · simp only [h0, h1, decide_true, decide_false, Bool.false_eq_true, if_false, if_true, and_self]
  by_cases h : g34_0 x 1048576 < 0
  · simp only [h0, h1, h, decide_true, decide_false, Bool.false_eq_true, if_false, if_true, and_true]
    exact (show (0 : Int) ≤ 1048576 from by decide)
  · have hs := g34_le x 1048576 (by decide) (by decide) hw h
    have hp : P36 x := by
      show 48 * (x.length : Int) ≤ 281474976710656
      omega
    have hz : P34 x 1048576 := (show (0 : Int) ≤ 1048576 from by decide)
    obtain ⟨p1, p2, e0, e1⟩ := drop_eq x k n
    have hl := drop_len x k n
    obtain ⟨b1, b2, b3⟩ := marked_blk x (by omega)
    obtain ⟨c1, c2, c3⟩ := marked_blk (g48_0 x k n) (by omega)
    obtain ⟨d1, d2⟩ := held_blk (g48_0 x k n) (by omega)
    simp only [h0, h1, h, decide_false, Bool.false_eq_true, if_false, g36_0, e0, e1, p1, p2, g38_0, decide_true, Bool.not_true, bne_self_eq_false, beq_self_eq_true, b1, b2, b3, c1, c2, c3, d1, d2, hp, hz, true_and, and_self]

end Go.Proofs.Ytjkeinpcphkfbaa
