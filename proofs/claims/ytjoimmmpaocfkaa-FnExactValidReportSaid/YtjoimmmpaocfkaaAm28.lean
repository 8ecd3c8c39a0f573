/- The abstract machine, part 28: laws for loops over lists, and for the bytes of strings. -/
import Derived.Test.YtjoimmmpaocfkaaAm26
namespace Go.Am
set_option linter.unusedVariables false
set_option linter.unusedSimpArgs false

theorem bytesOf_length (s : ByteArray) : (bytesOf s).length = s.size := by simp [bytesOf]

theorem byte_get (s : ByteArray) (i : Nat) : ((List.getD (Array.toList (ByteArray.data s)) i 0).toNat : Int) = (bytesOf s).getD i 0 := by
  unfold bytesOf
  rw [List.getD_eq_getElem?_getD, List.getD_eq_getElem?_getD, List.getElem?_map]
  cases h : s.data.toList[i]? with
  | none => rfl
  | some b => rfl

theorem bytesOf_range (s : ByteArray) : ∀ b ∈ bytesOf s, 0 ≤ b ∧ b ≤ 255 := by
  intro b hb
  unfold bytesOf at hb
  obtain ⟨x, _, rfl⟩ := List.mem_map.1 hb
  have := x.toNat_lt
  omega

theorem bytesOf_inj {s t : ByteArray} (h : bytesOf s = bytesOf t) : s = t := by
  obtain ⟨⟨x⟩⟩ := s
  obtain ⟨⟨y⟩⟩ := t
  congr 2
  unfold bytesOf at h
  simp only at h
  induction x generalizing y with
  | nil => cases y with
    | nil => rfl
    | cons b s => cases h
  | cons a r ih => cases y with
    | nil => cases h
    | cons b s =>
      simp only [List.map_cons, List.cons.injEq] at h
      have h1 : a = b := by
        have := h.1
        exact UInt8.toNat_inj.1 (by omega)
      rw [h1, ih s h.2]

theorem bytesOf_append (s t : ByteArray) : bytesOf (s ++ t) = bytesOf s ++ bytesOf t := by
  unfold bytesOf
  simp [ByteArray.data_append]

/-- What a loop over a list comes to: 'f' may end it. -/
def goL {α β δ : Type} (f : β → α → Except δ β) (fin : β → δ) : β → List α → δ
  | b, [] => fin b
  | b, x :: r => match f b x with
    | .ok b' => goL f fin b' r
    | .error d => d

/-- **A loop over a list.** -/
theorem loop_list {α β δ : Type} (xs : List α) (d : α) (f : β → α → Except δ β) (fin : β → δ) (Inv : Nat → β → Prop) (R : Nat → Int → β → δ → Prop)
    (hend : ∀ n b, Inv xs.length b → R (n + 1) xs.length b (fin b))
    (hstep : ∀ n (i : Nat) b, i < xs.length → Inv i b → match f b (xs.getD i d) with
      | .ok b' => Inv (i + 1) b' ∧ ∀ ds, R n (((i : Nat) : Int) + 1) b' ds → R (n + 1) (i : Int) b ds
      | .error ds => R (n + 1) (i : Int) b ds) :
    ∀ (k i : Nat) b, i + k = xs.length → Inv i b → R (k + 1) (i : Int) b (goL f fin b (xs.drop i)) := by
  intro k
  induction k with
  | zero =>
    intro i b hi hinv
    have : i = xs.length := by omega
    subst this
    rw [drop_end xs _ (Nat.le_refl _)]
    exact hend 0 b hinv
  | succ k ih =>
    intro i b hi hinv
    have h := hstep (k + 1) i b (by omega) hinv
    rw [drop_get xs i d (by omega)]
    simp only [goL]
    split at h
    · rename_i b' hf
      have := ih (i + 1) b' (by omega) h.1
      exact h.2 _ (by simpa using this)
    · exact h

/-- From the start. -/
theorem loop_all {α β δ : Type} (xs : List α) (d : α) (f : β → α → Except δ β) (fin : β → δ) (Inv : Nat → β → Prop) (R : Nat → Int → β → δ → Prop) {b : β} (h0 : Inv 0 b)
    (hend : ∀ n b, Inv xs.length b → R (n + 1) xs.length b (fin b))
    (hstep : ∀ n (i : Nat) b, i < xs.length → Inv i b → match f b (xs.getD i d) with
      | .ok b' => Inv (i + 1) b' ∧ ∀ ds, R n (((i : Nat) : Int) + 1) b' ds → R (n + 1) (i : Int) b ds
      | .error ds => R (n + 1) (i : Int) b ds) : R (xs.length + 1) 0 b (goL f fin b xs) := by
  have := loop_list xs d f fin Inv R hend hstep xs.length 0 b (by omega) h0
  simpa using this

theorem goL_all {α δ : Type} (q : α → Bool) (no yes : δ) : ∀ (l : List α) (f : Unit → α → Except δ Unit) (fin : Unit → δ), (∀ x, f () x = if q x = true then .ok () else .error no) → fin () = yes → goL f fin () l = if l.all q = true then yes else no
  | [], f, fin, hf, hfin => by simp [goL, hfin]
  | x :: r, f, fin, hf, hfin => by
    simp only [goL, hf]
    cases h : q x with
    | true => simp only [if_true]; rw [goL_all q no yes r f fin hf hfin]; simp [h]
    | false => simp [h]

/-- A loop that ends at the first element that is not as it should be. -/
theorem loop_test {α δ : Type} (xs : List α) (d : α) (q : α → Bool) (no yes : δ) (R : Nat → Int → δ → Prop) (hend : ∀ n, R (n + 1) xs.length yes)
    (hok : ∀ n (i : Nat), i < xs.length → q (xs.getD i d) = true → ∀ ds, R n (((i : Nat) : Int) + 1) ds → R (n + 1) (i : Int) ds)
    (hno : ∀ n (i : Nat), i < xs.length → q (xs.getD i d) = false → R (n + 1) (i : Int) no) : R (xs.length + 1) 0 (if xs.all q = true then yes else no) := by
  have key := loop_all (b := ()) xs d (fun (_ : Unit) x => if q x = true then .ok () else .error no) (fun _ => yes) (fun _ _ => True) (fun n i _ ds => R n i ds) trivial (fun n _ _ => hend n) (fun n i _ hi _ => by
    cases h : q (xs.getD i d) with
    | true => exact ⟨trivial, hok n i hi h⟩
    | false => exact hno n i hi h)
  rw [goL_all q no yes _ _ _ (fun _ => rfl) rfl] at key
  exact key

/-- A loop that ends at the first element that is as it should be. -/
theorem loop_find {α δ : Type} (xs : List α) (d : α) (q : α → Bool) (none' : δ) (some' : Int → δ) (R : Nat → Int → δ → Prop) (hend : ∀ n, R (n + 1) xs.length none')
    (hgo : ∀ n (i : Nat), i < xs.length → q (xs.getD i d) = false → ∀ ds, R n (((i : Nat) : Int) + 1) ds → R (n + 1) (i : Int) ds)
    (hhit : ∀ n (i : Nat), i < xs.length → q (xs.getD i d) = true → R (n + 1) (i : Int) (some' i)) : R (xs.length + 1) 0 (match xs.findIdx? q with | some k => some' (k : Nat) | none => none') := by
  have key : ∀ (k i : Nat), i + k = xs.length → R (k + 1) (i : Int) (match (xs.drop i).findIdx? q with | some j => some' ((i + j : Nat) : Int) | none => none') := by
    intro k
    induction k with
    | zero =>
      intro i hi
      have : i = xs.length := by omega
      subst this
      rw [drop_end xs _ (Nat.le_refl _)]
      exact hend 0
    | succ k ih =>
      intro i hi
      rw [drop_get xs i d (by omega), List.findIdx?_cons]
      cases h : q (xs.getD i d) with
      | true => simpa using hhit (k + 1) i (by omega) h
      | false =>
        have h2 := hgo (k + 1) i (by omega) h _ (by have := ih (i + 1) (by omega); simpa using this)
        simp only [Bool.false_eq_true, if_false]
        cases hf : List.findIdx? q (List.drop (i + 1) xs) with
        | none => rw [hf] at h2; simpa using h2
        | some j =>
          rw [hf] at h2
          simp only [Option.map_some] at h2 ⊢
          rw [show i + (j + 1) = i + 1 + j from by omega]
          exact h2
  have := key xs.length 0 (by omega)
  simpa using this

/-- An index, or -1. -/
def idx : Option Nat → Int
  | some k => (k : Nat)
  | none => -1

theorem findIdx_any {α : Type} (q : α → Bool) : ∀ (l : List α), idx (l.findIdx? q) ≥ 0 ↔ l.any q = true := by
  intro l
  have h := List.findIdx?_isSome (xs := l) (p := q)
  rw [← h]
  cases l.findIdx? q with
  | none => simp [idx]
  | some k => simp [idx]

theorem mem_getD {α : Type} (xs : List α) (i : Nat) (d : α) (h : i < xs.length) : xs.getD i d ∈ xs := by
  rw [getD_lt _ _ _ h]; exact List.getElem_mem _

/-- The sum of the lengths of strings. -/
def sizes : List ByteArray → Nat
  | [] => 0
  | x :: r => x.size + sizes r

theorem size_le_sizes : ∀ {l : List ByteArray} {x : ByteArray}, x ∈ l → x.size ≤ sizes l
  | y :: r, x, h => by
    simp only [sizes]
    rcases List.mem_cons.1 h with rfl | h
    · omega
    · have := size_le_sizes h; omega

end Go.Am
