/- Several texts in one: the functions that this law reaches, and their laws. -/
import Derived.Test.YtakodkjcmacofaaDoorZ7A
import Derived.Test.YtakodkjcmacofaaDoorZ7B
import Derived.Test.YtakodkjcmacofaaDoorZ7C

/- A law that says how functions of the program and of the specification hang together. -/
set_option linter.unusedVariables false
set_option linter.unusedSimpArgs false
set_option maxRecDepth 100000
namespace Go.Proofs.YtakodkjcmacofaaDoor
open Go Go.Am Go.Proofs

theorem ext_mid (p l r : List UInt8) : ByteArray.extract ⟨⟨p ++ l ++ r⟩⟩ p.length (p.length + l.length) = ⟨⟨l⟩⟩ := by
  have h := Lib.extract_mk (p ++ l ++ r) p.length (p.length + l.length)
  refine h.trans ?_
  simp

theorem ext_end (p r : List UInt8) : ByteArray.extract ⟨⟨p ++ r⟩⟩ p.length (p.length + r.length) = ⟨⟨r⟩⟩ := by
  have h := Lib.extract_mk (p ++ r) p.length (p.length + r.length)
  refine h.trans ?_
  simp

theorem fixed_s1 {n : Int} {d : Nat} (hn : -1000000000 ≤ n ∧ n ≤ 1000000000) (h1 : 1 ≤ d) (h6 : d ≤ 6) : g26_0 (fixT (decide (n < 0)) n.natAbs d) (d : Int) = n ∧ g26_1 (fixT (decide (n < 0)) n.natAbs d) (d : Int) = true := by
  have hten : g80_0 (d : Int) = ((10 ^ d : Nat) : Int) := by unfold g80_0; rw [Int.toNat_natCast]
  have hA : n.natAbs ≤ 1000000000 := by omega
  have hp : 1 ≤ 10 ^ d := Nat.one_le_pow _ _ (by decide)
  have hq : n.natAbs / 10 ^ d < 10 ^ (9 - d + 1) := by
    rw [Nat.div_lt_iff_lt_mul hp, ← Nat.pow_add, show 9 - d + 1 + d = 10 by omega]
    exact Nat.lt_of_le_of_lt hA (by decide)
  have hl := dec_len (9 - d) _ hq
  have hqs : n.natAbs / 10 ^ d ≤ 1000000000 := Nat.le_trans (Nat.div_le_self _ _) hA
  have hdm := Nat.div_add_mod n.natAbs (10 ^ d)
  obtain ⟨dq, dq'⟩ := digits_dec (n.natAbs / 10 ^ d)
  obtain ⟨dr, dr'⟩ := digits_pz (d := d) (n := n.natAbs % 10 ^ d) (Nat.mod_lt _ hp)
  obtain ⟨f1, f2, f3, _⟩ := dec_facts (n.natAbs / 10 ^ d)
  have hpl : (pz d (n.natAbs % 10 ^ d)).length = d := pz_len _ _
  have hfs := fix_s hn h1 h6
  have em : ((n.natAbs / 10 ^ d : Nat) : Int) * ((10 ^ d : Nat) : Int) + ((n.natAbs % 10 ^ d : Nat) : Int) = ((n.natAbs : Nat) : Int) := by
    rw [← Int.natCast_mul, ← Int.natCast_add, Nat.mul_comm, hdm]
  have hpl1 : g79_0 (d : Int) = true := by
    unfold g79_0 g124_0
    have c1 : (d : Int) ≥ 1 := by omega
    have c2 : (d : Int) ≤ 6 := by omega
    simp [c1, c2]
  have hwh : g81_0 n = true := by
    unfold g81_0 g124_0
    have c1 : n ≥ -1000000000 := hn.1
    have c2 : n ≤ 1000000000 := hn.2
    simp [c1, c2]
  generalize hQ : Lib.decDigits (n.natAbs / 10 ^ d) = Q at *
  generalize hR : pz d (n.natAbs % 10 ^ d) = R at *
  by_cases hx : n < 0
  · have hT : fixT (decide (n < 0)) n.natAbs d = ⟨⟨45 :: Q ++ 46 :: R⟩⟩ := by
      unfold fixT
      rw [hQ, hR]
      simp [hx]
    have es : (ByteArray.mk ⟨45 :: Q ++ 46 :: R⟩).size = Q.length + d + 2 := by
      show (45 :: Q ++ 46 :: R).length = _
      simp; omega
    have at1 : (((ByteArray.mk ⟨45 :: Q ++ 46 :: R⟩).size : Nat) : Int) - (d : Int) - 1 = ((1 + Q.length : Nat) : Int) := by omega
    have at2 : ((1 + Q.length : Nat) : Int) + 1 = ((Q.length + 2 : Nat) : Int) := by omega
    have x1 : ByteArray.extract (ByteArray.mk ⟨45 :: Q ++ 46 :: R⟩) 1 (1 + Q.length) = ⟨⟨Q⟩⟩ := ext_mid [45] Q (46 :: R)
    have x2 : ByteArray.extract (ByteArray.mk ⟨45 :: Q ++ 46 :: R⟩) (Q.length + 2) (ByteArray.mk ⟨45 :: Q ++ 46 :: R⟩).size = ⟨⟨R⟩⟩ := by
      have h := ext_end (45 :: Q ++ [46]) R
      have e1 : (45 :: Q ++ [46] ++ R : List UInt8) = 45 :: Q ++ 46 :: R := by simp
      have e2 : (45 :: Q ++ [46] : List UInt8).length = Q.length + 2 := by simp
      rw [e1, e2] at h
      rw [es, ← hpl, show Q.length + R.length + 2 = Q.length + 2 + R.length by omega]
      exact h
    have g0 : (Array.toList (ByteArray.data ⟨⟨45 :: Q ++ 46 :: R⟩⟩)).getD 0 0 = 45 := rfl
    have g1 : (Array.toList (ByteArray.data ⟨⟨45 :: Q ++ 46 :: R⟩⟩)).getD (1 + Q.length) 0 = 46 := by
      show (45 :: Q ++ 46 :: R).getD (1 + Q.length) 0 = 46
      simp [List.getD_eq_getElem?_getD, Nat.add_comm]
    have e45 : ((45 : UInt8).toNat : Int) = 45 := rfl
    have e46 : ((46 : UInt8).toNat : Int) = 46 := rfl
    have en : -1 * ((n.natAbs : Nat) : Int) = n := by omega
    unfold g26_0 g26_1
    rw [hT] at hfs ⊢
    have c1 : ¬ (((ByteArray.mk ⟨45 :: Q ++ 46 :: R⟩).size : Nat) : Int) > 20 := by omega
    have c2 : ¬ (((ByteArray.mk ⟨45 :: Q ++ 46 :: R⟩).size : Nat) : Int) < (d : Int) + 2 := by omega
    have c3 : ¬ ((1 + Q.length : Nat) : Int) ≤ 1 := by omega
    have c4 : ¬ ((n.natAbs / 10 ^ d : Nat) : Int) > 1000000000 := by omega
    simp only [hpl1, c1, c2, at2, at1, g0, g1, e45, e46, Int.toNat_natCast, x1, x2, dq, dq', dr, dr', hten, em, en, hwh, hfs, c3, c4, decide_false, Bool.not_true, Bool.false_eq_true, if_false, beq_self_eq_true, bne_self_eq_false, if_true, and_self]
  · have hT : fixT (decide (n < 0)) n.natAbs d = ⟨⟨Q ++ 46 :: R⟩⟩ := by
      unfold fixT
      rw [hQ, hR]
      simp [hx]
    have es : (ByteArray.mk ⟨Q ++ 46 :: R⟩).size = Q.length + d + 1 := by
      show (Q ++ 46 :: R).length = _
      simp; omega
    have at1 : (((ByteArray.mk ⟨Q ++ 46 :: R⟩).size : Nat) : Int) - (d : Int) - 1 = ((Q.length : Nat) : Int) := by omega
    have at2 : ((Q.length : Nat) : Int) + 1 = ((Q.length + 1 : Nat) : Int) := by omega
    have x1 : ByteArray.extract (ByteArray.mk ⟨Q ++ 46 :: R⟩) 0 (Q.length) = ⟨⟨Q⟩⟩ := by
      have h := ext_mid [] Q (46 :: R)
      simpa using h
    have x2 : ByteArray.extract (ByteArray.mk ⟨Q ++ 46 :: R⟩) (Q.length + 1) (ByteArray.mk ⟨Q ++ 46 :: R⟩).size = ⟨⟨R⟩⟩ := by
      have h := ext_end (Q ++ [46]) R
      have e1 : (Q ++ [46] ++ R : List UInt8) = Q ++ 46 :: R := by simp
      have e2 : (Q ++ [46] : List UInt8).length = Q.length + 1 := by simp
      rw [e1, e2] at h
      rw [es, ← hpl, show Q.length + R.length + 1 = Q.length + 1 + R.length by omega]
      exact h
    have g0 : (((Array.toList (ByteArray.data ⟨⟨Q ++ 46 :: R⟩⟩)).getD 0 0).toNat : Int) ≠ 45 := by
      show (((Q ++ 46 :: R).getD 0 0).toNat : Int) ≠ 45
      cases Q with
      | nil => simp at f3
      | cons b r =>
        have hb : isD b := f1 b (List.mem_cons_self ..)
        unfold isD at hb
        show ((b.toNat : Nat) : Int) ≠ 45
        omega
    have g0' : ((((Array.toList (ByteArray.data ⟨⟨Q ++ 46 :: R⟩⟩)).getD 0 0).toNat : Int) == 45) = false := by rw [beq_eq_false_iff_ne]; exact g0
    have g1 : (Array.toList (ByteArray.data ⟨⟨Q ++ 46 :: R⟩⟩)).getD Q.length 0 = 46 := by
      show (Q ++ 46 :: R).getD Q.length 0 = 46
      simp [List.getD_eq_getElem?_getD]
    have e46 : ((46 : UInt8).toNat : Int) = 46 := rfl
    have en : 1 * ((n.natAbs : Nat) : Int) = n := by omega
    unfold g26_0 g26_1
    rw [hT] at hfs ⊢
    have c1 : ¬ (((ByteArray.mk ⟨Q ++ 46 :: R⟩).size : Nat) : Int) > 20 := by omega
    have c2 : ¬ (((ByteArray.mk ⟨Q ++ 46 :: R⟩).size : Nat) : Int) < (d : Int) + 2 := by omega
    have c3 : ¬ ((Q.length : Nat) : Int) ≤ 0 := by omega
    have c4 : ¬ ((n.natAbs / 10 ^ d : Nat) : Int) > 1000000000 := by omega
    simp only [hpl1, c1, c2, at2, at1, g0', g1, e46, Int.toNat_natCast, x1, x2, dq, dq', dr, dr', hten, em, en, hwh, hfs, c3, c4, decide_false, Bool.not_true, Bool.false_eq_true, if_false, beq_self_eq_true, bne_self_eq_false, and_self]

theorem read_fixed (x : ByteArray) (p : Int) (h : x.size ≤ 1048576) : P26 x p ∧ P27 x p ∧ g27_0 x p = g26_0 x p ∧ g27_1 x p = g26_1 x p := by
  refine ⟨fixed_sp h, fixed_ip h, ?_⟩
  cases hs : g26_1 x p with
  | true =>
    obtain ⟨m, d, rfl, h1, h6, hm, rfl⟩ := fixed_s2 hs
    obtain ⟨i0, i1⟩ := fixed_i1 hm h1 h6
    obtain ⟨s0, s1⟩ := fixed_s1 hm h1 h6
    rw [i0, s0]
    exact ⟨rfl, i1⟩
  | false =>
    cases hi : g27_1 x p with
    | true =>
      obtain ⟨m, d, rfl, h1, h6, hm, rfl⟩ := fixed_i2 hi
      rw [(fixed_s1 hm h1 h6).2] at hs
      cases hs
    | false => exact ⟨(fixed_i3 hi).trans (fixed_s3 hs).symm, rfl⟩

end Go.Proofs.YtakodkjcmacofaaDoor

/- A law that says how functions of the program and of the specification hang together. -/
set_option linter.unusedVariables false
set_option linter.unusedSimpArgs false
set_option maxRecDepth 100000
namespace Go.Proofs.YtakodkjcmacofaaDoor
open Go Go.Am Go.Proofs

def mps : List UInt8 := [32, 109, 47, 115]

/-- The text of a speed. -/
def spT (A : Nat) : ByteArray := ⟨⟨((fixT false A 3).data.toList) ++ mps⟩⟩

theorem unit_iff (n : Int) : g108_0 n = true ↔ 0 ≤ n ∧ n ≤ 1000000000 := by
  unfold g108_0 g102_0
  by_cases c1 : n ≥ 0
  · by_cases c2 : n ≤ 1000000000
    · simp [c1, c2]
    · simp [c1, c2]
  · have : ¬ 0 ≤ n := c1
    simp [c1, this]

theorem mass_iff2 (n : Int) : g69_0 n = true ↔ 0 ≤ n ∧ n ≤ 1000000000 := by
  unfold g69_0 g124_0
  by_cases c1 : n ≥ 0
  · by_cases c2 : n ≤ 1000000000
    · simp [c1, c2]
    · simp [c1, c2]
  · have : ¬ 0 ≤ n := c1
    simp [c1, this]

theorem trim_hit (p : List UInt8) : g85_0 ⟨⟨p ++ mps⟩⟩ (ByteArray.mk #[32, 109, 47, 115]) = ⟨⟨p⟩⟩ := by
  have h : Lib.hasSuffix (p ++ mps) mps = true := by
    unfold Lib.hasSuffix
    simp
  have e : Lib.trimSuffix (p ++ mps) mps = p := by
    unfold Lib.trimSuffix
    rw [if_pos h]
    simp
  show (⟨(Lib.trimSuffix (p ++ mps) mps).toArray⟩ : ByteArray) = _
  rw [e]

theorem trim_size (x y : ByteArray) : (g85_0 x y).size ≤ x.size := by
  show (List.toArray _).size ≤ _
  rw [List.size_toArray]
  have e : x.data.toList.length = x.size := rfl
  unfold Lib.trimSuffix
  split
  · rw [List.length_take]; omega
  · omega

theorem fix_three {A : Nat} (h : A ≤ 1000000000) : g40_0 (A : Int) 3 = fixT false A 3 ∧ g27_0 (fixT false A 3) 3 = (A : Int) ∧ g27_1 (fixT false A 3) 3 = true ∧ g26_0 (fixT false A 3) 3 = (A : Int) ∧ g26_1 (fixT false A 3) 3 = true := by
  have e3 : ((3 : Nat) : Int) = 3 := rfl
  have z : decide ((A : Int) < 0) = false := decide_eq_false (by omega)
  have a := fix_i (n := (A : Int)) (d := 3) ⟨by omega, by omega⟩ (by decide) (by decide)
  have b := fixed_i1 (n := (A : Int)) (d := 3) ⟨by omega, by omega⟩ (by decide) (by decide)
  have c := fixed_s1 (n := (A : Int)) (d := 3) ⟨by omega, by omega⟩ (by decide) (by decide)
  rw [z, Int.natAbs_natCast, e3] at a b c
  exact ⟨a, b.1, b.2, c.1, c.2⟩

theorem text_speed {A : Nat} (h : A ≤ 1000000000) : g45_0 (A : Int) = spT A := by
  have hu : g108_0 (A : Int) = true := (unit_iff _).2 (by omega)
  unfold g45_0
  rw [hu, (fix_three h).1]
  simp only [Bool.not_true, Bool.false_eq_true, if_false]
  apply ByteArray.ext
  apply Array.ext'
  rw [ByteArray.data_append, Array.toList_append]
  rfl

theorem speed_i1 {A : Nat} (h : A ≤ 1000000000) : g29_0 (spT A) = (A : Int) ∧ g29_1 (spT A) = true := by
  have ht : g85_0 (spT A) (ByteArray.mk #[32, 109, 47, 115]) = fixT false A 3 := trim_hit _
  obtain ⟨_, a, b, _, _⟩ := fix_three h
  unfold g29_0 g29_1
  rw [ht, a, b, text_speed h]
  simp

theorem speed_i2 {x : ByteArray} (hx : g29_1 x = true) : ∃ A : Nat, A ≤ 1000000000 ∧ x = spT A := by
  unfold g29_1 at hx
  refine chainT (fun h0 hx => chainT (fun h1 _ => ?_) hx) hx
  have h1' : g45_0 (g27_0 (g85_0 x (ByteArray.mk #[32, 109, 47, 115])) 3) = x := (bytes_eq _ _).1 (by simpa using h1)
  have h0' : g27_1 (g85_0 x (ByteArray.mk #[32, 109, 47, 115])) 3 = true := by simpa using h0
  by_cases hu : g108_0 (g27_0 (g85_0 x (ByteArray.mk #[32, 109, 47, 115])) 3) = true
  · obtain ⟨a1, a2⟩ := (unit_iff _).1 hu
    obtain ⟨A, hA⟩ := Int.eq_ofNat_of_zero_le a1
    rw [hA] at h1' a2
    have hA' : A ≤ 1000000000 := by omega
    exact ⟨A, hA', by rw [← h1']; exact text_speed hA'⟩
  · exfalso
    have e : g45_0 (g27_0 (g85_0 x (ByteArray.mk #[32, 109, 47, 115])) 3) = ByteArray.mk #[] := by
      unfold g45_0
      rw [if_pos (by simpa using hu)]
    rw [e] at h1'
    subst h1'
    obtain ⟨m, d, _, _, _, _, e2⟩ := fixed_i2 h0'
    exact fixT_ne _ _ _ e2.symm

theorem speed_i3 {x : ByteArray} (hx : g29_1 x = false) : g29_0 x = 0 :=
  (chainI (chainI tf)) hx

theorem speed_s3 {x : ByteArray} (hx : g28_1 x = false) : g28_0 x = 0 :=
  (chainI (chainI (chainI (chainI tf)))) hx

theorem speed_s1 {A : Nat} (h : A ≤ 1000000000) : g28_0 (spT A) = (A : Int) ∧ g28_1 (spT A) = true := by
  obtain ⟨_, _, _, a, b⟩ := fix_three h
  have hm : g69_0 (A : Int) = true := (mass_iff2 _).2 (by omega)
  have hx : spT A = ⟨⟨(fixT false A 3).data.toList ++ mps⟩⟩ := rfl
  have hp : (fixT false A 3) = ⟨⟨(fixT false A 3).data.toList⟩⟩ := rfl
  have h0 : 0 < (fixT false A 3).data.toList.length := by
    have e : (fixT false A 3).data.toList = Lib.decDigits (A / 10 ^ 3) ++ 46 :: pz 3 (A % 10 ^ 3) := by simp [fixT]
    rw [e]; simp; omega
  rw [hp] at a b
  rw [hx]
  generalize (fixT false A 3).data.toList = p at *
  have es : (ByteArray.mk ⟨p ++ mps⟩).size = p.length + 4 := by
    show (p ++ mps).length = _
    rw [List.length_append]; rfl
  have e0 : (((ByteArray.mk ⟨p ++ mps⟩).size : Nat) : Int) - 4 = (p.length : Int) := by omega
  have x1 : ByteArray.extract (ByteArray.mk ⟨p ++ mps⟩) p.length (ByteArray.mk ⟨p ++ mps⟩).size = ByteArray.mk #[32, 109, 47, 115] := by
    rw [es]; exact ext_end p mps
  have x2 : ByteArray.extract (ByteArray.mk ⟨p ++ mps⟩) 0 p.length = ⟨⟨p⟩⟩ := by
    have h := ext_mid [] p mps
    simpa using h
  have c1 : ¬ (p.length : Int) < 1 := by omega
  unfold g28_0 g28_1
  simp only [e0, c1, Int.toNat_natCast, x1, x2, a, b, hm, decide_false, Bool.not_true, Bool.false_eq_true, if_false, beq_self_eq_true, and_self]

theorem ext_parts (x : ByteArray) {k : Nat} (h : k ≤ x.size) : x = ⟨⟨(ByteArray.extract x 0 k).data.toList ++ (ByteArray.extract x k x.size).data.toList⟩⟩ := by
  obtain ⟨⟨l⟩⟩ := x
  have hk : k ≤ l.length := h
  have es : (ByteArray.mk ⟨l⟩).size = l.length := rfl
  have a := Lib.extract_mk l 0 k
  have b := Lib.extract_mk l k l.length
  rw [es, a, b]
  congr 2
  simp [List.take_of_length_le]

theorem speed_s2 {x : ByteArray} (hx : g28_1 x = true) : ∃ A : Nat, A ≤ 1000000000 ∧ x = spT A := by
  unfold g28_1 at hx
  refine chainT (fun h0 hx => chainT (fun h1 hx => chainT (fun h2 hx => chainT (fun h3 _ => ?_) hx) hx) hx) hx
  have h0' : ¬ (x.size : Int) - 4 < 1 := fun hh => h0 (decide_eq_true hh)
  obtain ⟨k, hk⟩ : ∃ k : Nat, (x.size : Int) - 4 = (k : Int) := Int.eq_ofNat_of_zero_le (by omega)
  rw [hk] at h1 h2 h3
  simp only [Int.toNat_natCast] at h1 h2 h3
  have h1' : ByteArray.extract x k x.size = ByteArray.mk #[32, 109, 47, 115] := (bytes_eq _ _).1 (by simpa using h1)
  have h2' : g26_1 (ByteArray.extract x 0 k) 3 = true := by simpa using h2
  have h3' := (mass_iff2 _).1 (show g69_0 (g26_0 (ByteArray.extract x 0 k) 3) = true by simpa using h3)
  obtain ⟨m, d, e3, _, _, hm, e⟩ := fixed_s2 h2'
  have hd : d = 3 := by omega
  subst hd
  have s1 := fixed_s1 hm (d := 3) (by decide) (by decide)
  rw [← e] at s1
  have s10 : g26_0 (ByteArray.extract x 0 k) 3 = m := s1.1
  rw [s10] at h3'
  have hp := ext_parts x (k := k) (by omega)
  rw [h1', e] at hp
  refine ⟨m.natAbs, by omega, ?_⟩
  have z : decide (m < 0) = false := decide_eq_false (by omega)
  rw [z] at hp
  exact hp

theorem speed_pre (n : Int) : P45 n := by
  unfold P45
  refine ifT fun hu => ?_
  obtain ⟨a1, a2⟩ := (unit_iff n).1 (by simpa using hu)
  obtain ⟨A, rfl⟩ := Int.eq_ofNat_of_zero_le a1
  refine ⟨?_, trivial⟩
  rw [(fix_three (by omega)).1]
  have e : (fixT false A 3).size = (Lib.decDigits (A / 10 ^ 3) ++ 46 :: pz 3 (A % 10 ^ 3)).length := by
    show ((if false = true then [45] else []) ++ Lib.decDigits (A / 10 ^ 3) ++ 46 :: pz 3 (A % 10 ^ 3)).length = _
    simp
  have hl := dec_len 6 (A / 10 ^ 3) (by rw [Nat.div_lt_iff_lt_mul (by decide)]; exact Nat.lt_of_le_of_lt (show A ≤ 1000000000 by omega) (by decide))
  rw [e, List.length_append, List.length_cons, pz_len]
  omega

theorem read_speed (x : ByteArray) (h : x.size ≤ 1048576) : P28 x ∧ P29 x ∧ g29_0 x = g28_0 x ∧ g29_1 x = g28_1 x := by
  refine ⟨?_, ?_, ?_⟩
  · unfold P28
    refine ⟨by rw [i64_iff]; omega, ifT fun h0 => ?_⟩
    have h0' : ¬ (x.size : Int) - 4 < 1 := fun hh => h0 (decide_eq_true hh)
    refine ⟨by omega, by omega, ifT fun _ => ⟨by omega, by omega, fixed_sp ?_, trivial⟩⟩
    rw [ByteArray.size_extract]; omega
  · unfold P29
    refine ⟨fixed_ip ?_, ifT fun _ => ⟨speed_pre _, trivial⟩⟩
    exact Nat.le_trans (trim_size _ _) h
  · cases hs : g28_1 x with
    | true =>
      obtain ⟨A, hA, rfl⟩ := speed_s2 hs
      obtain ⟨i0, i1⟩ := speed_i1 hA
      obtain ⟨s0, s1⟩ := speed_s1 hA
      rw [i0, s0]
      exact ⟨rfl, i1⟩
    | false =>
      cases hi : g29_1 x with
      | true =>
        obtain ⟨A, hA, rfl⟩ := speed_i2 hi
        rw [(speed_s1 hA).2] at hs
        cases hs
      | false => exact ⟨(speed_i3 hi).trans (speed_s3 hs).symm, rfl⟩

end Go.Proofs.YtakodkjcmacofaaDoor

/- The plain law of FnExactReadSpeed. -/
set_option linter.unusedVariables false
set_option linter.unusedSimpArgs false
set_option maxRecDepth 100000
namespace Go.Proofs.YtakodkjcmacofaaDoor
open Go Go.Am Go.Proofs

theorem law7 (x : ByteArray) (hw : Wf .str x) : P7 x ∧ g7_0 x = true := by
  unfold P7 g7_0
  by_cases h : (x.size : Int) > 1048576
  · simp only [h, decide_true, if_true, and_self]
  · obtain ⟨p1, p2, e0, e1⟩ := read_speed x (by omega)
    simp only [h, decide_false, Bool.false_eq_true, if_false, e0, e1, p1, p2, bne_self_eq_false, beq_self_eq_true, Bool.not_true, true_and, and_self]

end Go.Proofs.YtakodkjcmacofaaDoor
