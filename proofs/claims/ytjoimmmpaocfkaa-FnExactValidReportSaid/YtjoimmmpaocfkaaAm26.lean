/- The abstract machine, part 26: small laws about trees, for the plain laws. -/
import Derived.Test.YtjoimmmpaocfkaaAm25
namespace Go.Am
set_option linter.unusedVariables false
set_option linter.unusedSimpArgs false

theorem bytes_eq (a b : ByteArray) : (ByteArray.toList a == ByteArray.toList b) = true ↔ a = b := by
  rw [← beq_toListBytes]
  obtain ⟨⟨x⟩⟩ := a
  obtain ⟨⟨y⟩⟩ := b
  show ((⟨x⟩ : Array UInt8) == ⟨y⟩) = true ↔ _
  simp

theorem bytes_ne (a b : ByteArray) : (ByteArray.toList a == ByteArray.toList b) = false ↔ a ≠ b := by
  rw [ne_eq, ← bytes_eq, Bool.not_eq_true]

theorem eqD_eq : ∀ {t : Ty} {x y : t.den}, t.flat = true → (eqD t x y = true ↔ x = y)
  | .int _, x, y, _ => by simp [eqD]
  | .bool, x, y, _ => by simp [eqD]
  | .str, x, y, _ => by simp only [eqD]; exact bytes_eq x y
  | .unit, x, y, _ => by simp [eqD]
  | .cons a b, x, y, h => by
    simp only [Ty.flat, Bool.and_eq_true] at h
    obtain ⟨x1, x2⟩ := x
    obtain ⟨y1, y2⟩ := y
    simp only [eqD, Bool.and_eq_true, eqD_eq h.1, eqD_eq h.2, Prod.mk.injEq]
  | .sl _, _, _, h => by cases h

theorem getD_lt {α : Type} (xs : List α) (i : Nat) (d : α) (h : i < xs.length) : xs.getD i d = xs[i] := by
  rw [List.getD_eq_getElem?_getD, List.getElem?_eq_getElem h]; rfl

theorem drop_get {α : Type} (xs : List α) (i : Nat) (d : α) (h : i < xs.length) : xs.drop i = xs.getD i d :: xs.drop (i + 1) := by
  rw [getD_lt xs i d h, ← List.drop_eq_getElem_cons h]

theorem drop_end {α : Type} (xs : List α) (i : Nat) (h : xs.length ≤ i) : xs.drop i = [] := List.drop_eq_nil_iff.2 h

/-- A counter stays in range. -/
theorem inR_up {α : Type} {xs : List α} (h : xs.length ≤ maxLen) {i : Nat} (hi : i < xs.length) : InR .i64 ((i : Int) + 1) := by
  have e1 : (IntKind.i64).min = -9223372036854775808 := by decide
  have e2 : (IntKind.i64).max = 9223372036854775807 := by decide
  have hm : maxLen ≤ 9223372036854775807 := by decide
  simp only [InR, e1, e2]
  omega

theorem i64_iff (n : Int) : InR .i64 n ↔ -9223372036854775808 ≤ n ∧ n ≤ 9223372036854775807 := by
  have e1 : (IntKind.i64).min = -9223372036854775808 := by decide
  have e2 : (IntKind.i64).max = 9223372036854775807 := by decide
  simp only [InR, e1, e2]

theorem u8_iff (n : Int) : InR .u8 n ↔ 0 ≤ n ∧ n ≤ 255 := by
  have e1 : (IntKind.u8).min = 0 := by decide
  have e2 : (IntKind.u8).max = 255 := by decide
  simp only [InR, e1, e2]

/-- A list that is filled from the left. -/
theorem set_step {α : Type} (x0 : List α) (d : α) (i : Nat) (h : i < x0.length) (l : Nat) (hl : l = x0.length - i) : (x0.take i ++ List.replicate l d).set i (x0.getD i d) = x0.take (i + 1) ++ List.replicate (l - 1) d := by
  have e : (x0.take i).length = i := by simp; omega
  obtain ⟨l, rfl⟩ : ∃ m, l = m + 1 := ⟨l - 1, by omega⟩
  rw [List.set_append_right _ _ (by omega), e, Nat.sub_self, List.replicate_succ, List.set_cons_zero, getD_lt _ _ _ h, List.take_succ_eq_append_getElem h, List.append_assoc]
  rfl
end Go.Am
