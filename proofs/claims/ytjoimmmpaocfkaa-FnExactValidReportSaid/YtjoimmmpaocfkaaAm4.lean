/- The abstract machine, part 4: operations that only read. -/
import Derived.Test.YtjoimmmpaocfkaaAm3
namespace Go.Am
set_option linter.unusedVariables false
set_option linter.unusedSimpArgs false

def All : List Prop → Prop
  | [] => True
  | p :: r => p ∧ All r

theorem All.append {l m : List Prop} : All (l ++ m) ↔ All l ∧ All m := by
  induction l with
  | nil => simp [All]
  | cons p r ih => simp [All, ih, and_assoc]

theorem wrap_inR (k : IntKind) (n : Int) : InR k (k.wrap n) := by
  cases k <;> simp [InR, IntKind.wrap, IntKind.min, IntKind.max, IntKind.bits, IntKind.signed] <;> (try split) <;> omega

theorem wrap_of_inR {k : IntKind} {n : Int} (h : InR k n) : k.wrap n = n := by
  cases k <;> simp [InR, IntKind.wrap, IntKind.min, IntKind.max, IntKind.bits, IntKind.signed] at h ⊢ <;> (try split) <;> omega

/-! ### Arithmetic -/

def bitsV (op : BinOp) (k : IntKind) (x y : Int) : Int :=
  let a := BitVec.ofInt k.bits x
  let b := BitVec.ofInt k.bits y
  match op with
  | .and => k.wrap (a &&& b).toNat
  | .or => k.wrap (a ||| b).toNat
  | .xor => k.wrap (a ^^^ b).toNat
  | _ => k.wrap (a &&& ~~~b).toNat

def shlV (k : IntKind) (x y : Int) : Int := k.wrap (x * 2 ^ min y.toNat k.bits)
def shrV (k : IntKind) (x y : Int) : Int := x.fdiv (2 ^ min y.toNat k.bits)

def intV (wr : Bool) (op : BinOp) (k : IntKind) (a b : Int) : Option (List Prop × Value) :=
  match op with
  | .add => match wr with | true => some ([], .int k (k.wrap (a + b))) | false => some ([InR k (a + b)], .int k (a + b))
  | .sub => match wr with | true => some ([], .int k (k.wrap (a - b))) | false => some ([InR k (a - b)], .int k (a - b))
  | .mul => match wr with | true => some ([], .int k (k.wrap (a * b))) | false => some ([InR k (a * b)], .int k (a * b))
  | .quo => some ([b ≠ 0, InR k (a.tdiv b)], .int k (a.tdiv b))
  | .rem => some ([b ≠ 0, InR k (a.tmod b)], .int k (a.tmod b))
  | .and => some ([], .int k (bitsV .and k a b))
  | .or => some ([], .int k (bitsV .or k a b))
  | .xor => some ([], .int k (bitsV .xor k a b))
  | .andNot => some ([], .int k (bitsV .andNot k a b))
  | .eql => some ([], .bool (a == b))
  | .neq => some ([], .bool (a != b))
  | .lss => some ([], .bool (decide (a < b)))
  | .leq => some ([], .bool (decide (a ≤ b)))
  | .gtr => some ([], .bool (decide (a > b)))
  | .geq => some ([], .bool (decide (a ≥ b)))
  | .shl => some ([0 ≤ b], .int k (shlV k a b))
  | .shr => some ([0 ≤ b, InR k (shrV k a b)], .int k (shrV k a b))

def strV (op : BinOp) (a b : ByteArray) : Option (List Prop × Value) :=
  match op with
  | .add => some ([a.size + b.size ≤ maxLen], .string (a ++ b))
  | .eql => some ([], .bool (a.toList == b.toList))
  | .neq => some ([], .bool (!(a.toList == b.toList)))
  | .lss => some ([], .bool (Op.bytesLess a.toList b.toList))
  | .leq => some ([], .bool (Op.bytesLess a.toList b.toList || a.toList == b.toList))
  | .gtr => some ([], .bool (!(Op.bytesLess a.toList b.toList || a.toList == b.toList)))
  | .geq => some ([], .bool (!Op.bytesLess a.toList b.toList))
  | _ => none

def binV (wr : Bool) (op : BinOp) : Value → Value → Option (List Prop × Value)
  | .int k a, .int k' b => match op with
    | .shl => intV wr .shl k a b
    | .shr => intV wr .shr k a b
    | op => if k = k' then intV wr op k a b else none
  | .string a, .string b => strV op a b
  | _, _ => none

section
variable {P : Program} {w : World}

theorem intV_run {wr : Bool} {op : BinOp} {k k' : IntKind} {a b : Int} {cs : List Prop} {r : Value} (h : intV wr op k a b = some (cs, r)) (hc : All cs) (hk : k = k' ∨ op = .shl ∨ op = .shr) (T : TypeId) :
    (binOp op T (.int k a) (.int k' b)).run P w = .ok r w ∧ OkV r := by
  unfold intV at h
  cases op <;> simp only at h
  case add => cases wr <;> cases h <;> (obtain rfl := hk.resolve_right (by simp)) <;> simp_all [binOp, Op.intArith, OkV, wrap_inR, All, wrap_of_inR]
  case sub => cases wr <;> cases h <;> (obtain rfl := hk.resolve_right (by simp)) <;> simp_all [binOp, Op.intArith, OkV, wrap_inR, All, wrap_of_inR]
  case mul => cases wr <;> cases h <;> (obtain rfl := hk.resolve_right (by simp)) <;> simp_all [binOp, Op.intArith, OkV, wrap_inR, All, wrap_of_inR]
  case quo => cases h; obtain rfl := hk.resolve_right (by simp); simp only [All] at hc; simp [binOp, Op.intDiv, OkV, hc.1, hc.2.1, wrap_of_inR]
  case rem => cases h; obtain rfl := hk.resolve_right (by simp); simp only [All] at hc; simp [binOp, Op.intDiv, OkV, hc.1, hc.2.1]
  case and => cases h; obtain rfl := hk.resolve_right (by simp); simp [binOp, Op.intBits, OkV, bitsV, wrap_inR]
  case or => cases h; obtain rfl := hk.resolve_right (by simp); simp [binOp, Op.intBits, OkV, bitsV, wrap_inR]
  case xor => cases h; obtain rfl := hk.resolve_right (by simp); simp [binOp, Op.intBits, OkV, bitsV, wrap_inR]
  case andNot => cases h; obtain rfl := hk.resolve_right (by simp); simp [binOp, Op.intBits, OkV, bitsV, wrap_inR]
  case shl => cases h; simp only [All] at hc; have h0 : ¬ b < 0 := (by omega); simp [binOp, Op.shift, OkV, shlV, wrap_inR, h0]
  case shr => cases h; simp only [All] at hc; have h0 : ¬ b < 0 := (by omega); simp [binOp, Op.shift, OkV, shrV, h0]; exact hc.2.1
  all_goals cases h; obtain rfl := hk.resolve_right (by simp); simp [binOp, Op.intCmp, OkV]

theorem strV_run {op : BinOp} {a b : ByteArray} {cs : List Prop} {r : Value} (h : strV op a b = some (cs, r)) (hc : All cs) (T : TypeId) :
    (binOp op T (.string a) (.string b)).run P w = .ok r w ∧ OkV r := by
  unfold strV at h
  cases op <;> simp only at h <;> first | (cases h; done) | cases h
  case add =>
    simp only [All] at hc
    have h0 : ¬ ((a.size + b.size : Nat) : Int) > 9223372036854775807 := by have := hc.1; unfold maxLen at this; omega
    have h1 : ¬ (9223372036854775807 : Int) < (a.size : Int) + (b.size : Int) := by omega
    simp [binOp, Op.stringOp, h1, OkV]
    exact hc.1
  all_goals simp [binOp, Op.stringOp, OkV]

theorem binV_run {wr : Bool} {op : BinOp} {u v : Value} {cs : List Prop} {r : Value} (h : binV wr op u v = some (cs, r)) (hc : All cs) (T : TypeId) (x y : Operand) :
    (do eqGuard op T x y u v; binOp op T u v : Sem Value).run P w = .ok r w ∧ OkV r := by
  unfold binV at h
  split at h
  · rename_i k a k' b
    rw [eqGuard_at_int]
    simp only [Sem.run_bind, Sem.run_pure, Result.andThen_ok]
    split at h
    · exact intV_run h hc (.inr (.inl rfl)) T
    · exact intV_run h hc (.inr (.inr rfl)) T
    · by_cases hk : k = k'
      · rw [if_pos hk] at h; exact intV_run h hc (.inl hk) T
      · rw [if_neg hk] at h; cases h
  · rw [eqGuard_at_string]
    simp only [Sem.run_bind, Sem.run_pure, Result.andThen_ok]
    exact strV_run h hc T
  · cases h
end

/-! ### Operands -/

def okC : Value → Bool
  | .int k n => decide (k.min ≤ n) && decide (n ≤ k.max)
  | .string s => Nat.ble s.size 1048576
  | .slice none n c => Nat.beq n 0 && Nat.beq c 0
  | .bool _ => true
  | _ => false

theorem okC_ok {v : Value} (h : okC v = true) : OkV v := by
  unfold okC at h
  split at h
  · simp at h; exact h
  · simp at h; simp only [OkV, maxLen]; omega
  · simp at h; exact h
  · trivial
  · cases h

def opnd (E : Env) : Operand → PV
  | .tmp t => E.get t
  | .const v => match okC v with | true => .a (.val v) | false => .a .junk
  | .func f => .fn f []
  | .global _ => .a .junk

section
variable {n : Nat} {w0 w : World} {O : List Nat} {a : Act} {E : Env} {L : Heap} {V : Nat → Value} {own : Nat → List Nat}

theorem RelV.opnd (h : RelV n w0 O w a E L V own) (x : Operand) : RepP w0 (Good w0 O) L V (opnd E x) (a.eval x) := by
  cases x with
  | tmp t => exact h.env t
  | const v =>
    simp only [Am.opnd]
    cases hc : okC v with
    | true => exact ⟨rfl, okC_ok hc⟩
    | false => trivial
  | func f => exact ⟨[], rfl, rfl⟩
  | global g => trivial

theorem RelV.atom (h : RelV n w0 O w a E L V own) {x : Operand} {A : Atom} (hx : Am.opnd E x = .a A) : RepA w0 (Good w0 O) L V A (a.eval x) := by
  have := h.opnd x
  rw [hx] at this
  exact this

theorem RelV.valEq (h : RelV n w0 O w a E L V own) {x : Operand} {v : Value} (hx : Am.opnd E x = .a (.val v)) : a.eval x = v ∧ OkV v := h.atom hx

end
end Go.Am
