/- Several texts in one: the functions that this law reaches, and their laws. -/
import Derived.Test.YtpellcnihifdaaaGreatDoorZ3A
import Derived.Test.YtpellcnihifdaaaGreatDoorZ3B
import Derived.Test.YtpellcnihifdaaaGreatDoorZ3C
import Derived.WalkKit
import Derived.Lib.Walk
import Derived.Lib.SliceRun
import Derived.Laws.AppendOwn
import Derived.Laws.OwnMore
import Derived.Deep.LoopGhost
import Derived.Deep.OwnRows
import Derived.Deep.RegionLaw
import Derived.Deep.AppendLies
import Derived.Deep.Onto
import Derived.Shelf.RegionOpenPlain
import Derived.Laws.IdiomStrings

-- facts: srcText srcOne srcAmong
/- Function 32 (spec.l28DrawRoles): its contract; by the kit's walk. -/
set_option linter.unusedVariables false
set_option linter.unusedSimpArgs false
set_option maxRecDepth 100000
namespace Go.Proofs.YtpellcnihifdaaaGreatDoor
open Go Go.Am Go.Proofs Go.RowKit
noncomputable section

abbrev RL32 := ByteArray × List ByteArray × Unit
abbrev RY32 : Ty := .cons .str (.cons (.sl .str) .unit)

def row32 : List RL32 → List Value → List Value
  | x :: xs, u :: us => .string x.1 :: u :: row32 xs us
  | _, _ => []

theorem rowApp32 : ∀ (xs : List RL32) (us : List Value) (x : RL32) (u : Value), us.length = xs.length → row32 (xs ++ [x]) (us ++ [u]) = row32 xs us ++ [.string x.1, u]
  | [], [], x, u, h => rfl
  | [], _ :: _, x, u, h => by simp at h
  | y :: xs, [], x, u, h => by simp at h
  | y :: xs, v :: us, x, u, h => by
    have := rowApp32 xs us x u (by simpa using h)
    simp only [List.cons_append, row32, this]

theorem rowGet32 : ∀ (xs : List RL32) (us : List Value) (k : Nat) (x : RL32) (u : Value), xs[k]? = some x → us[k]? = some u → (row32 xs us)[2 * k]? = some (.string x.1) ∧ (row32 xs us)[2 * k + 1]? = some u
  | [], us, k, x, u, h, h' => by simp at h
  | y :: xs, [], k, x, u, h, h' => by simp at h'
  | y :: xs, v :: us, 0, x, u, h, h' => by
    simp at h h'
    subst h h'
    exact ⟨rfl, rfl⟩
  | y :: xs, v :: us, k + 1, x, u, h, h' => by
    obtain ⟨h1, h2⟩ := rowGet32 xs us k x u (by simpa using h) (by simpa using h')
    rw [show 2 * (k + 1) = 2 * k + 1 + 1 by omega]
    exact ⟨h1, h2⟩

theorem rowSet32 : ∀ (xs : List RL32) (us : List Value) (k : Nat) (x : RL32) (ys : List ByteArray) (u' : Value), xs[k]? = some x → us.length = xs.length → row32 (xs.set k (x.1, ys, ())) (us.set k u') = (row32 xs us).set (2 * k + 1) u'
  | [], us, k, x, ys, u', h, hl => by simp at h
  | y :: xs, [], k, x, ys, u', h, hl => by simp at hl
  | y :: xs, v :: us, 0, x, ys, u', h, hl => by
    simp at h
    subst h
    rfl
  | y :: xs, v :: us, k + 1, x, ys, u', h, hl => by
    have := rowSet32 xs us k x ys u' (by simpa using h) (by simpa using hl)
    rw [show 2 * (k + 1) + 1 = 2 * k + 1 + 1 + 1 by omega]
    simp only [List.set_cons_succ, row32, this]

structure Rs32 (w wr : World) (v : Value) (xs : List RL32) (us : List Value) : Prop where
  own : wr.ownsRow w.heap.size 35 2 v xs.length (row32 xs us)
  len : us.length = xs.length
  inn : ∀ (j : Nat) (x : RL32) (u : Value), xs[j]? = some x → us[j]? = some u → wr.ownsRow w.heap.size 9 1 u x.2.1.length (fcs .str x.2.1)
  dis : ∀ (i j : Nat) (u v : Value) (b : Nat), us[i]? = some u → us[j]? = some v → u.ownBlock = some b → v.ownBlock = some b → i = j

theorem obj32 {w : World} {lo : Nat} {e : TypeId} {sz : Nat} {v : Value} {n : Nat} {xs : List Value} (h : w.ownsRow lo e sz v n xs) {g : Nat} (hg : v.ownBlock = some g) : ∃ cur, w.heap[g]? = some (.cells cur e (0, 0)) := by
  rcases h.2 with ⟨rfl, _⟩ | ⟨g', cap, cur, rfl, hb, hh, _⟩
  · cases hg
  · cases hg
    exact ⟨cur, hh⟩

theorem apart32 {w : World} {lo lo' : Nat} {e e' : TypeId} {sz sz' : Nat} {v v' : Value} {n n' : Nat} {xs xs' : List Value} (h : w.ownsRow lo e sz v n xs) (h' : w.ownsRow lo' e' sz' v' n' xs') (hne : e ≠ e') : v.ownBlock = none ∨ v.ownBlock ≠ v'.ownBlock := by
  cases hv : v.ownBlock with
  | none => exact .inl rfl
  | some g =>
    refine .inr fun he => ?_
    obtain ⟨c1, h1⟩ := obj32 h hv
    obtain ⟨c2, h2⟩ := obj32 h' he.symm
    rw [h1] at h2
    cases h2
    exact hne rfl

theorem Rs32.keep {w wr w2 : World} {v : Value} {xs : List RL32} {us : List Value} {r : Option Nat} (h : Rs32 w wr v xs us) (hg : wr.grownBy w2 r) (hr : ∀ b, r = some b → b < w.heap.size) : Rs32 w w2 v xs us := by
  have key : ∀ {e : TypeId} {sz : Nat} {v : Value} {n : Nat} {xs : List Value}, wr.ownsRow w.heap.size e sz v n xs → w2.ownsRow w.heap.size e sz v n xs := fun {e sz v n xs} ho => ho.kept hg (by
    cases hv : v.ownBlock with
    | none => exact .inl rfl
    | some b =>
      refine .inr fun he => ?_
      have h1 := (ho.lt b hv).1
      have h2 := hr b he.symm
      omega)
  exact ⟨key h.own, h.len, fun j x u hx hu => key (h.inn j x u hx hu), h.dis⟩

theorem Rs32.push {w wr w1 w2 : World} {v v2 : Value} {xs : List RL32} {us : List Value} {x : RL32} {u : Value} (h : Rs32 w wr v xs us) (hg1 : wr.grownBy w1 none) (hu : w1.ownsRow w.heap.size 9 1 u x.2.1.length (fcs .str x.2.1))
    (hnew : ∀ b, u.ownBlock = some b → wr.heap.size ≤ b) (hg : w1.grownBy w2 v.ownBlock) (ho : w2.ownsRow w.heap.size 35 2 v2 (xs.length + 1) (row32 xs us ++ [.string x.1, u])) : Rs32 w w2 v2 (xs ++ [x]) (us ++ [u]) := by
  have h1 := h.keep hg1 (fun b hb => by cases hb)
  have hl := h.len
  refine ⟨by rw [List.length_append, rowApp32 _ _ _ _ hl]; exact ho, by simp [hl], fun j y t hy ht => ?_, fun i j a b q ha hb hqa hqb => ?_⟩
  · by_cases hj : j < xs.length
    · rw [List.getElem?_append_left hj] at hy
      rw [List.getElem?_append_left (by omega)] at ht
      have h2 := h1.inn j y t hy ht
      exact h2.kept hg (apart32 h2 h1.own (by decide))
    · have hj' : j = xs.length := by
        have := (List.getElem?_eq_some_iff.1 hy).1
        simp at this
        omega
      subst hj'
      rw [List.getElem?_append_right (Nat.le_refl _)] at hy
      rw [← hl, List.getElem?_append_right (Nat.le_refl _)] at ht
      simp at hy ht
      subst hy ht
      exact hu.kept hg (apart32 hu h1.own (by decide))
  · have lo : ∀ (k : Nat) (t : Value) (q : Nat), us[k]? = some t → t.ownBlock = some q → q < wr.heap.size := fun k t q hk hq => by
      have hlt := (List.getElem?_eq_some_iff.1 hk).1
      exact ((h.inn k _ t (List.getElem?_eq_getElem (by omega)) hk).lt q hq).2
    have cs : ∀ (k : Nat) (t : Value), (us ++ [u])[k]? = some t → us[k]? = some t ∨ k = us.length ∧ t = u := fun k t hk => by
      by_cases hlt : k < us.length
      · rw [List.getElem?_append_left hlt] at hk
        exact .inl hk
      · have := (List.getElem?_eq_some_iff.1 hk).1
        simp at this
        have hk' : k = us.length := by omega
        subst hk'
        rw [List.getElem?_append_right (Nat.le_refl _)] at hk
        simp at hk
        exact .inr ⟨rfl, hk.symm⟩
    rcases cs i a ha with ha' | ⟨rfl, rfl⟩ <;> rcases cs j b hb with hb' | ⟨rfl, rfl⟩
    · exact h.dis i j a b q ha' hb' hqa hqb
    · have := lo i a q ha' hqa; have := hnew q hqb; omega
    · have := lo j b q hb' hqb; have := hnew q hqa; omega
    · rfl

theorem Rs32.put {w wr w1 : World} {G cap : Nat} {xs : List RL32} {us : List Value} {k : Nat} {x : RL32} {u u' : Value} {ys : List ByteArray} (h : Rs32 w wr (.slice (some ⟨G, 0, none⟩) xs.length cap) xs us) (hx : xs[k]? = some x) (hu : us[k]? = some u)
    (hg : wr.grownBy w1 u.ownBlock) (ho : w1.ownsRow w.heap.size 9 1 u' ys.length (fcs .str ys)) (hat : ∀ b, u'.ownBlock = some b → u.ownBlock = some b ∨ wr.heap.size ≤ b) :
    Rs32 w (w1.setCell ⟨G, 2 * k + 1, none⟩ u') (.slice (some ⟨G, 0, none⟩) xs.length cap) (xs.set k (x.1, ys, ())) (us.set k u') ∧ w1.grownBy (w1.setCell ⟨G, 2 * k + 1, none⟩ u') (some G) := by
  have hl := h.len
  have hku := (List.getElem?_eq_some_iff.1 hu).1
  have i2 := h.inn k x u hx hu
  have o1 := h.own.kept hg (apart32 h.own i2 (by decide))
  obtain ⟨o2, g2⟩ := o1.stored (2 * k + 1) u'
  refine ⟨⟨by rw [List.length_set, rowSet32 _ _ _ _ _ _ hx hl]; exact o2, by simp [hl], fun j y t hy ht => ?_, fun i j a b q ha hb hqa hqb => ?_⟩, g2⟩
  · by_cases hjk : k = j
    · subst hjk
      rw [List.getElem?_set_self (by omega)] at hy ht
      cases hy
      cases ht
      exact ho.kept g2 (apart32 ho o1 (by decide))
    · rw [List.getElem?_set_ne hjk] at hy ht
      have h2 := h.inn j y t hy ht
      have h3 := h2.kept hg (by
        cases ht' : t.ownBlock with
        | none => exact .inl rfl
        | some q =>
          refine .inr fun he => hjk ?_
          exact h.dis k j u t q hu ht he.symm ht')
      exact h3.kept g2 (apart32 h3 o1 (by decide))
  · have lo : ∀ (k : Nat) (t : Value) (q : Nat), us[k]? = some t → t.ownBlock = some q → q < wr.heap.size := fun k t q hk hq => by
      have hlt := (List.getElem?_eq_some_iff.1 hk).1
      exact ((h.inn k _ t (List.getElem?_eq_getElem (by omega)) hk).lt q hq).2
    have far : ∀ (j : Nat) (t : Value) (q : Nat), k ≠ j → us[j]? = some t → t.ownBlock = some q → u'.ownBlock = some q → False := fun j t q hne ht hq hq' => by
      rcases hat q hq' with h1 | h1
      · exact hne (h.dis k j u t q hu ht h1 hq)
      · have := lo j t q ht hq
        omega
    by_cases hik : k = i
    · by_cases hjk : k = j
      · omega
      · subst hik
        rw [List.getElem?_set_self hku] at ha
        cases ha
        rw [List.getElem?_set_ne hjk] at hb
        exact (far j b q hjk hb hqb hqa).elim
    · by_cases hjk : k = j
      · subst hjk
        rw [List.getElem?_set_self hku] at hb
        cases hb
        rw [List.getElem?_set_ne hik] at ha
        exact (far i a q hik ha hqa hqb).elim
      · rw [List.getElem?_set_ne hik] at ha
        rw [List.getElem?_set_ne hjk] at hb
        exact h.dis i j a b q ha hb hqa hqb

theorem form32 {w : World} {lo : Nat} {e : TypeId} {sz : Nat} {v : Value} {n : Nat} {xs : List Value} (h : w.ownsRow lo e sz v n xs) : ∃ ad cap, v = .slice ad n cap ∧ (0 < n → ∃ G, ad = some ⟨G, 0, none⟩) := by
  rcases h.2 with ⟨rfl, rfl⟩ | ⟨g, cap, cur, rfl, _⟩
  · exact ⟨none, 0, rfl, fun h => absurd h (by decide)⟩
  · exact ⟨_, cap, rfl, fun _ => ⟨g, rfl⟩⟩

theorem fcsget32 : ∀ (x : List ByteArray) (j : Nat), (fcs .str x)[j]? = (x[j]?).map .string
  | [], j => by simp [fcs]
  | a :: l, 0 => rfl
  | a :: l, j + 1 => by
    have e : fcs .str (a :: l) = .string a :: fcs .str l := rfl
    rw [e]
    simpa using fcsget32 l j

theorem slOf32 {w : World} {lo : Nat} {u : Value} {x : List ByteArray} {Q : Nat → Prop} (h : w.ownsRow lo 9 1 u x.length (fcs .str x)) (hQ : ∀ b, lo ≤ b → b < w.heap.size → Q b) (hm : x.length ≤ maxLen) (hw : ∀ y ∈ x, y.size ≤ maxLen) : SlAt w Q (RepC w Q .str) 1 x u := by
  refine ⟨hm, ?_⟩
  rcases h.2 with ⟨rfl, hn⟩ | ⟨g, cap, cur, rfl, hb, hg, hnc, hcm, hcs, htake⟩
  · exact .inl ⟨_, rfl, List.eq_nil_of_length_eq_zero hn⟩
  · refine .inr ⟨g, 0, cap, rfl, hnc, hcm, hQ g hb (Array.getElem?_eq_some_iff.1 hg).1, fun i y hy => ⟨[.string y], rfl, fun j c hj => ?_, rfl, hw y (List.mem_of_getElem? hy)⟩⟩
    have hi := (List.getElem?_eq_some_iff.1 hy).1
    have hj0 : j = 0 := by have := (List.getElem?_eq_some_iff.1 hj).1; simp at this; omega
    subst hj0
    simp at hj
    subst hj
    rw [show 0 + i * 1 + 0 = i by omega, h.cellAt i (by omega), fcsget32, hy]
    rfl

theorem Rs32.rep {w wr : World} {v : Value} {xs : List RL32} {us : List Value} {Q : Nat → Prop} (h : Rs32 w wr v xs us) (hQ : ∀ b, w.heap.size ≤ b → b < wr.heap.size → Q b) (hm : xs.length ≤ maxLen) (hw : ∀ x ∈ xs, x.1.size ≤ maxLen ∧ x.2.1.length ≤ maxLen ∧ ∀ y ∈ x.2.1, y.size ≤ maxLen) :
    SlAt wr Q (RepC wr Q RY32) 2 xs v := by
  have hl := h.len
  refine ⟨hm, ?_⟩
  rcases h.own.2 with ⟨rfl, hn⟩ | ⟨g, cap, cur, rfl, hb, hg, hnc, hcm, hcs, htake⟩
  · exact .inl ⟨_, rfl, List.eq_nil_of_length_eq_zero hn⟩
  · refine .inr ⟨g, 0, cap, rfl, hnc, hcm, hQ g hb (Array.getElem?_eq_some_iff.1 hg).1, fun i x hx => ?_⟩
    have hi := (List.getElem?_eq_some_iff.1 hx).1
    have hu : us[i]? = some (us[i]'(by omega)) := List.getElem?_eq_getElem (by omega)
    obtain ⟨c1, c2⟩ := rowGet32 xs us i x _ hx hu
    obtain ⟨w1, w2, w3⟩ := hw x (List.mem_of_getElem? hx)
    refine ⟨[.string x.1, us[i]'(by omega)], rfl, fun j c hj => ?_, [.string x.1], [us[i]'(by omega)], rfl, ⟨rfl, w1⟩, [us[i]'(by omega)], [], rfl, ⟨_, rfl, slOf32 (h.inn i x _ hx hu) hQ w2 w3⟩, rfl⟩
    have hj2 : j < 2 := by simpa using (List.getElem?_eq_some_iff.1 hj).1
    rw [h.own.cellAt (0 + i * 2 + j) (by omega)]
    rcases j with _ | _ | j
    · simp at hj
      subst hj
      rw [show 0 + i * 2 + 0 = 2 * i by omega]
      exact c1
    · simp at hj
      subst hj
      rw [show 0 + i * 2 + 1 = 2 * i + 1 by omega]
      exact c2
    · omega

theorem pbS32 {w : World} {G0 : Nat → Prop} {t : Ty} {x : t.den} {b off : Nat} {bs : List Nat} (h : PbAt w G0 t x (.pointer (some ⟨b, off, none⟩)) bs) : bs = [b] := by
  obtain ⟨b', off', he, hm, h⟩ := h
  cases he
  rcases h with ⟨ad, _, h0, _⟩ | ⟨b2, off2, cap, cur, ty, fz, bss, hv, hc, _, hz, hh, hf, hl, hbs, hr⟩
  · cases h0
  · simp only [Value.slice.injEq, Option.some.injEq, Addr.mk.injEq, and_true] at hv
    obtain ⟨⟨rfl, rfl⟩, _, rfl⟩ := hv
    rcases bss with _ | ⟨bi, _ | ⟨bj, r⟩⟩
    · simp at hl
    · obtain ⟨cs, _, _, _, h4⟩ := hr 0 x bi rfl rfl
      rw [hbs, h4]
      rfl
    · simp at hl

structure St32 (w wr : World) (G0 : Nat → Prop) (S off : Nat) (s : (List Int × Int × Int × Unit)) : Prop where
  src : PbAt wr G0 (.cons (.sl (.int .u8)) (.cons (.int .i64) (.cons (.int .u64) .unit))) s (.pointer (some ⟨S, off, none⟩)) [S]
  low : Kept [S] w wr

theorem St32.grown {w wr w2 : World} {G0 : Nat → Prop} {S off : Nat} {s : (List Int × Int × Int × Unit)} {r : Option Nat} (h : St32 w wr G0 S off s) (hS : S < w.heap.size) (hG : ∀ b, G0 b → b < w.heap.size) (hg : wr.grownBy w2 r) (hr : ∀ b, r = some b → w.heap.size ≤ b) : St32 w w2 G0 S off s where
  src := by
    obtain ⟨b, o, e, h1⟩ := h.src
    have key : ∀ q, q < w.heap.size → w2.heap[q]? = wr.heap[q]? := fun q hq => hg.block q (Nat.lt_of_lt_of_le hq h.low.size) (fun he => by have := hr q he.symm; omega)
    exact ⟨b, o, e, h1.keepG (fun _ h => h) (fun q hq => key q (hG q hq)) (fun q hq => by simp at hq; subst hq; exact key _ hS)⟩
  low := ⟨hg.os.trans h.low.os, hg.tape.trans h.low.tape, hg.output.trans h.low.output, Nat.le_trans h.low.size hg.size, fun q hq ho => (hg.block q (Nat.lt_of_lt_of_le hq h.low.size) (fun he => by have := hr q he.symm; omega)).trans (h.low.block q hq ho)⟩

theorem gokK32 {O : List Nat} {w W : World} (h : GOk w O) (hk : Kept O w W) : GOk W O where
  inv := h.inv.keep fun b hb hs => hk.block b hs fun ho => by have := h.out b ho; omega
  size := Nat.le_trans h.size hk.size
  out := h.out

theorem kg32 {S : Nat} {w W : World} (h : Kept [S] w W) : w.grownBy W (some S) := ⟨h.os, h.tape, h.output, h.size, fun q hq hr => h.block q hq (fun hm => hr (by simp at hm; rw [hm]))⟩

theorem one32 (W : World) (G0 : Nat → Prop) (S off : Nat) (s : (List Int × Int × Int × Unit)) (n : Int) (hgo : GOk W [S]) (hG : ∀ b, G0 b → Am.Good W [S] b) (hs : PbAt W G0 (.cons (.sl (.int .u8)) (.cons (.int .i64) (.cons (.int .u64) .unit))) s (.pointer (some ⟨S, off, none⟩)) [S]) (hn : InR .i64 n) (hp : P52 s n) :
    Calls Tryz.prog 52 #[.pointer (some ⟨S, off, none⟩), .int .i64 n] W fun e w' => e = .returned (.bool (g52_0 s n)) ∧ Kept [S] W w' ∧ PbAt w' G0 (.cons (.sl (.int .u8)) (.cons (.int .i64) (.cons (.int .u64) .unit))) (u52_0 s n) (.pointer (some ⟨S, off, none⟩)) [S] := by
  have h := con52 W (Am.Good W [S]) G0 (s, n, ()) [.pointer (some ⟨S, off, none⟩), .int .i64 n] [[S], []] hgo (fun _ h => h) hG hp
    ⟨_, _, _, _, rfl, rfl, hs, _, _, _, _, rfl, rfl, ⟨rfl, rfl, hn⟩, rfl, rfl⟩ (by simp)
  refine h.mono ?_
  rintro e w' ⟨rs, ubs, rbs, Fz, rfl, hk, ⟨v, s, b, bs, rfl, rfl, ⟨cs, ho, hi⟩, rfl, rfl⟩, ⟨v1, s1, b1, bs1, hv1, rfl, ⟨y1, hy1, hp1⟩, _⟩, _⟩
  obtain ⟨ho, _⟩ := ho
  have hi : cs = [v] := hi
  rw [ho] at hi
  cases hi
  cases hv1
  cases hy1
  have hb := pbS32 hp1
  subst hb
  exact ⟨rfl, hk, hp1⟩

theorem pick32 (W : World) (G0 : Nat → Prop) (S off : Nat) (s : (List Int × Int × Int × Unit)) (n : Int) (hgo : GOk W [S]) (hG : ∀ b, G0 b → Am.Good W [S] b) (hs : PbAt W G0 (.cons (.sl (.int .u8)) (.cons (.int .i64) (.cons (.int .u64) .unit))) s (.pointer (some ⟨S, off, none⟩)) [S]) (hn : InR .i64 n) (hp : P33 s n) :
    Calls Tryz.prog 33 #[.pointer (some ⟨S, off, none⟩), .int .i64 n] W fun e w' => e = .returned (.int .i64 (g33_0 s n)) ∧ Kept [S] W w' ∧ PbAt w' G0 (.cons (.sl (.int .u8)) (.cons (.int .i64) (.cons (.int .u64) .unit))) (u33_0 s n) (.pointer (some ⟨S, off, none⟩)) [S] := by
  have h := con33 W (Am.Good W [S]) G0 (s, n, ()) [.pointer (some ⟨S, off, none⟩), .int .i64 n] [[S], []] hgo (fun _ h => h) hG hp
    ⟨_, _, _, _, rfl, rfl, hs, _, _, _, _, rfl, rfl, ⟨rfl, rfl, hn⟩, rfl, rfl⟩ (by simp)
  refine h.mono ?_
  rintro e w' ⟨rs, ubs, rbs, Fz, rfl, hk, ⟨v, s, b, bs, rfl, rfl, ⟨cs, ho, hi⟩, rfl, rfl⟩, ⟨v1, s1, b1, bs1, hv1, rfl, ⟨y1, hy1, hp1⟩, _⟩, _⟩
  obtain ⟨ho, _⟩ := ho
  have hi : cs = [v] := hi
  rw [ho] at hi
  cases hi
  cases hv1
  cases hy1
  have hb := pbS32 hp1
  subst hb
  exact ⟨rfl, hk, hp1⟩

theorem among32 (W : World) (G0 : Nat → Prop) (S off : Nat) (s : (List Int × Int × Int × Unit)) (l : List Int) (v : Value) (hgo : GOk W [S]) (hG : ∀ b, G0 b → Am.Good W [S] b) (hs : PbAt W G0 (.cons (.sl (.int .u8)) (.cons (.int .i64) (.cons (.int .u64) .unit))) s (.pointer (some ⟨S, off, none⟩)) [S]) (hl : SlAt W (Am.Good W [S]) (RepC W (Am.Good W [S]) (.int .i64)) 1 l v) (hp : P36 s l) :
    Calls Tryz.prog 36 #[.pointer (some ⟨S, off, none⟩), v] W fun e w' => e = .returned (.int .i64 (g36_0 s l)) ∧ Kept [S] W w' ∧ PbAt w' G0 (.cons (.sl (.int .u8)) (.cons (.int .i64) (.cons (.int .u64) .unit))) (u36_0 s l) (.pointer (some ⟨S, off, none⟩)) [S] := by
  have h := con36 W (Am.Good W [S]) G0 (s, l, ()) [.pointer (some ⟨S, off, none⟩), v] [[S], []] hgo (fun _ h => h) hG hp
    ⟨_, _, _, _, rfl, rfl, hs, _, _, _, _, rfl, rfl, ⟨rfl, hl⟩, rfl, rfl⟩ (by simp)
  refine h.mono ?_
  rintro e w' ⟨rs, ubs, rbs, Fz, rfl, hk, ⟨v, s, b, bs, rfl, rfl, ⟨cs, ho, hi⟩, rfl, rfl⟩, ⟨v1, s1, b1, bs1, hv1, rfl, ⟨y1, hy1, hp1⟩, _⟩, _⟩
  obtain ⟨ho, _⟩ := ho
  have hi : cs = [v] := hi
  rw [ho] at hi
  cases hi
  cases hv1
  cases hy1
  have hb := pbS32 hp1
  subst hb
  exact ⟨rfl, hk, hp1⟩

theorem text32 (W : World) (G0 : Nat → Prop) (S off : Nat) (s : (List Int × Int × Int × Unit)) (l : List ByteArray) (v : Value) (hgo : GOk W [S]) (hG : ∀ b, G0 b → Am.Good W [S] b) (hs : PbAt W G0 (.cons (.sl (.int .u8)) (.cons (.int .i64) (.cons (.int .u64) .unit))) s (.pointer (some ⟨S, off, none⟩)) [S]) (hl : SlAt W (Am.Good W [S]) (RepC W (Am.Good W [S]) .str) 1 l v) (hp : P37 s l) :
    Calls Tryz.prog 37 #[.pointer (some ⟨S, off, none⟩), v] W fun e w' => e = .returned (.string (g37_0 s l)) ∧ Kept [S] W w' ∧ PbAt w' G0 (.cons (.sl (.int .u8)) (.cons (.int .i64) (.cons (.int .u64) .unit))) (u37_0 s l) (.pointer (some ⟨S, off, none⟩)) [S] := by
  have h := con37 W (Am.Good W [S]) G0 (s, l, ()) [.pointer (some ⟨S, off, none⟩), v] [[S], []] hgo (fun _ h => h) hG hp
    ⟨_, _, _, _, rfl, rfl, hs, _, _, _, _, rfl, rfl, ⟨rfl, hl⟩, rfl, rfl⟩ (by simp)
  refine h.mono ?_
  rintro e w' ⟨rs, ubs, rbs, Fz, rfl, hk, ⟨v, s, b, bs, rfl, rfl, ⟨cs, ho, hi⟩, rfl, rfl⟩, ⟨v1, s1, b1, bs1, hv1, rfl, ⟨y1, hy1, hp1⟩, _⟩, _⟩
  obtain ⟨ho, _⟩ := ho
  have hi : cs = [v] := hi
  rw [ho] at hi
  cases hi
  cases hv1
  cases hy1
  have hb := pbS32 hp1
  subst hb
  exact ⟨rfl, hk, hp1⟩

theorem app32 (hinfo : TIOk Tryz.prog 24 (tabGet tab 24)) {wr : World} (base : Nat) {v : Value} {n : Nat} {xs : List Value} (ho : wr.ownsRow base 35 2 v n xs) (b' off' cap' : Nat) {m : Nat} (news : List Value) (hl : news.length = m * 2) (hc : ∀ j u, news[j]? = some u → wr.cell? ⟨b', off' + j, none⟩ = some u) (h1 : ∀ u ∈ news, u.oneCell' = true) (hnm : n + m ≤ 1048576) (hbase : base ≤ wr.heap.size)
    {ops : Array Oper} {rest : List Oper} {o : Oper} {a : Act} {Q : Exit → Act → World → Prop} {s x : Operand} (hgd : o.guard = none) (hop : o.op = .call { callee := .builtin .append, args := #[s, x], argTypes := #[24, 24] }) (hs : a.eval s = v) (hx : a.eval x = .slice (some ⟨b', off', none⟩) m cap')
    (h : ∀ v' w', w'.ownsRow base 35 2 v' (n + m) (xs ++ news) → wr.grownBy w' v.ownBlock → wpList Tryz.prog ops Q rest (a.put o.dst v') w') : wpList Tryz.prog ops Q (o :: rest) a wr := by
  obtain ⟨_, _, ⟨_, ⟨i0, hi0, hz1, z, hz0, hzs, _⟩⟩, hby⟩ := hinfo
  rw [hi0] at hby
  simp only [Option.map_some, Option.some.injEq] at hby
  have hzs' : z.cells.size = 2 := by rw [← Array.length_toList, hzs]; rfl
  have hb16 : i0.bytes = 40 := hby
  refine wpList_append_own _ hgd s x 24 hop base 35 i0 z 2 i0.bytes Tryz.underlying24 hi0 hz0 hz1 rfl hzs' (by decide) v n xs hs ho ⟨b', off', none⟩ m cap' news hx hl (fun j u hj => by rw [Addr.add_lit]; exact hc j u hj) h1 (by unfold maxLen; omega) (by rw [hb16]; omega) hbase (fun v' w' h1 h2 _ => h v' w' h1 h2)


abbrev SS32 := (List Int × Int × Int × Unit) × List RL32
def dr32 : RL32 := (ByteArray.empty, [], ())
def nm32 : List ByteArray := [ByteArray.mk #[99, 104, 105, 101, 102], ByteArray.mk #[100, 114, 105, 118, 101, 114], ByteArray.mk #[103, 117, 97, 114, 100], ByteArray.mk #[112, 117, 112, 105, 108], ByteArray.mk #[119, 97, 114, 100, 101, 110]]
def zz32 : List ByteArray := [ByteArray.mk #[122, 122], ByteArray.mk #[99, 104, 105, 101, 102], ByteArray.mk #[119, 97, 114, 100, 101, 110]]
def a32 (st : SS32) (n : ByteArray) : SS32 := (u52_0 st.1 5, if g52_0 st.1 5 = true then st.2 else st.2 ++ [(n, [], ())])
def b32 (i : Nat) (st : SS32) (k : Nat) : SS32 := (u52_0 st.1 3, if g52_0 st.1 3 = true then st.2.set i ((st.2.getD i dr32).1, (st.2.getD i dr32).2.1 ++ [(st.2.getD k dr32).1], ()) else st.2)
def bs32 (i : Nat) : Nat → SS32 → SS32
  | 0, st => st
  | m + 1, st => b32 i (bs32 i m st) (i + 1 + m)
def bb32 (st : SS32) (i : Nat) : SS32 := bs32 i (st.2.length - (i + 1)) st
def es32 : Nat → SS32 → SS32
  | 0, st => st
  | n + 1, st => bb32 (es32 n st) n
def cs32 (x : (List Int × Int × Int × Unit)) : Nat → SS32
  | 0 => (x, [])
  | k + 1 => a32 (cs32 x k) (nm32.getD k ByteArray.empty)
def many32 : Nat → List RL32
  | 0 => []
  | k + 1 => many32 k ++ [(ByteArray.mk #[110, UInt8.ofNat (97 + k)], [], ())]
def fi32 (st : SS32) : SS32 :=
  if g33_0 st.1 24 = 0 then (u33_0 st.1 24, if 1 < st.2.length then st.2.set (st.2.length - 1) ((st.2.getD (st.2.length - 1) dr32).1, [(st.2.getD 0 dr32).1], ()) else st.2)
  else if g33_0 st.1 24 = 1 then (if 0 < st.2.length then
      (u37_0 (u33_0 (u33_0 st.1 24) (st.2.length : Int)) zz32,
       st.2.set (g33_0 (u33_0 st.1 24) (st.2.length : Int)).toNat ((st.2.getD (g33_0 (u33_0 st.1 24) (st.2.length : Int)).toNat dr32).1, [g37_0 (u33_0 (u33_0 st.1 24) (st.2.length : Int)) zz32], ()))
    else (u33_0 st.1 24, st.2))
  else if g33_0 st.1 24 = 2 then (u36_0 (u33_0 st.1 24) [12, 13], many32 (g36_0 (u33_0 st.1 24) [12, 13]).toNat)
  else (u33_0 st.1 24, st.2)
def dn32 (x : (List Int × Int × Int × Unit)) : SS32 := fi32 (es32 (cs32 x 5).2.length (cs32 x 5))
def g32_0 (x0 : (List Int × Int × Int × Unit)) : List RL32 := (dn32 x0).2
def u32_0 (x0 : (List Int × Int × Int × Unit)) : (List Int × Int × Int × Unit) := (dn32 x0).1
def P32 (x0 : (List Int × Int × Int × Unit)) : Prop := SrcOk 800000000 x0
def small32 (y : List RL32) : Prop := y.length ≤ 13 ∧ ∀ r ∈ y, r.1.size ≤ 100 ∧ r.2.1.length ≤ 13 ∧ ∀ n ∈ r.2.1, n.size ≤ 100

def In32 (i j : Nat) (xs : List RL32) : Prop := ∀ (m : Nat) (r : RL32), xs[m]? = some r → r.1.size ≤ 100 ∧ (∀ y ∈ r.2.1, ByteArray.size y ≤ 100) ∧ (m < i → r.2.1.length ≤ 5) ∧ (m = i → r.2.1.length ≤ j) ∧ (i < m → r.2.1 = [])

theorem nmSize32 (k : Nat) : (nm32.getD k ByteArray.empty).size ≤ 100 := by
  rcases k with _ | _ | _ | _ | _ | k <;> first | decide | (simp [nm32])

theorem cs_ok32 {x : (List Int × Int × Int × Unit)} {N : Int} (h : SrcOk N x) (hN : N ≤ 1000000000) : ∀ k : Nat, k ≤ 5 → SrcOk (N + 2 * k) (cs32 x k).1 ∧ (cs32 x k).2.length ≤ k ∧ In32 0 0 (cs32 x k).2
  | 0, _ => ⟨h.up (by omega), Nat.le_refl _, fun m r hr => by simp [cs32] at hr⟩
  | k + 1, hk => by
    obtain ⟨h1, h2, h3⟩ := cs_ok32 h hN k (by omega)
    obtain ⟨p, s⟩ := one_ok h1 5 (by omega)
    refine ⟨s.up (by push_cast; omega), ?_, ?_⟩
    · show List.length (if _ then _ else _) ≤ k + 1
      split
      · omega
      · rw [List.length_append, List.length_singleton]; omega
    · show In32 0 0 (if _ then _ else _)
      split
      · exact h3
      · intro m r hr
        by_cases hm : m < (cs32 x k).2.length
        · rw [List.getElem?_append_left hm] at hr
          exact h3 m r hr
        · rw [List.getElem?_append_right (by omega)] at hr
          have : m - (cs32 x k).2.length = 0 := by
            have := (List.getElem?_eq_some_iff.1 hr).1
            simp at this
            omega
          rw [this] at hr
          simp at hr
          subst hr
          exact ⟨nmSize32 k, fun y hy => by simp at hy, fun _ => by simp, fun _ => by simp, fun _ => rfl⟩

theorem b_len32 (i : Nat) (st : SS32) (k : Nat) : (b32 i st k).2.length = st.2.length := by
  show List.length (if _ then _ else _) = _
  split
  · simp
  · rfl

theorem bs_len32 (i m : Nat) (st : SS32) : (bs32 i m st).2.length = st.2.length := by
  induction m with
  | zero => rfl
  | succ m ih => rw [bs32, b_len32, ih]

theorem es_len32 (n : Nat) (st : SS32) : (es32 n st).2.length = st.2.length := by
  induction n with
  | zero => rfl
  | succ n ih => rw [es32, bb32, bs_len32, ih]

theorem bs_ok32 {i : Nat} {st : SS32} {N : Int} (h : SrcOk N st.1) (hN : N ≤ 1000000000) (hi : i < st.2.length) (h0 : In32 i 0 st.2) : ∀ m : Nat, i + m < st.2.length → m ≤ 5 → SrcOk (N + 2 * m) (bs32 i m st).1 ∧ In32 i m (bs32 i m st).2
  | 0, _, _ => ⟨h.up (by omega), h0⟩
  | m + 1, hm, h5 => by
    obtain ⟨h1, h2⟩ := bs_ok32 h hN hi h0 m (by omega) (by omega)
    have hl := bs_len32 i m st
    obtain ⟨p, s⟩ := one_ok h1 3 (by omega)
    refine ⟨s.up (by push_cast; omega), ?_⟩
    rw [bs32]
    generalize bs32 i m st = t at *
    show In32 i (m + 1) (if _ then _ else _)
    split
    · have gi : t.2[i]? = some (t.2.getD i dr32) := by rw [List.getD_eq_getElem?_getD, List.getElem?_eq_getElem (by omega)]; rfl
      have gk : t.2[i + 1 + m]? = some (t.2.getD (i + 1 + m) dr32) := by rw [List.getD_eq_getElem?_getD, List.getElem?_eq_getElem (by omega)]; rfl
      obtain ⟨q1, q2, q3, q4, q5⟩ := h2 i _ gi
      intro j r hr
      by_cases hj : i = j
      · subst hj
        rw [List.getElem?_set_self (by omega)] at hr
        cases hr
        refine ⟨q1, fun y hy => ?_, fun h => absurd h (Nat.lt_irrefl _), fun _ => ?_, fun h => absurd h (Nat.lt_irrefl _)⟩
        · rcases List.mem_append.1 hy with hy | hy
          · exact q2 y hy
          · simp at hy
            subst hy
            exact (h2 _ _ gk).1
        · have := q4 rfl
          show List.length (_ ++ [_]) ≤ _
          rw [List.length_append, List.length_singleton]
          omega
      · rw [List.getElem?_set_ne hj] at hr
        obtain ⟨z1, z2, z3, z4, z5⟩ := h2 j r hr
        exact ⟨z1, z2, z3, fun e => absurd e.symm hj, z5⟩
    · intro j r hr
      obtain ⟨z1, z2, z3, z4, z5⟩ := h2 j r hr
      exact ⟨z1, z2, z3, fun e => by have := z4 e; omega, z5⟩

theorem In32.next {i j : Nat} {xs : List RL32} (h : In32 i j xs) (hj : j ≤ 5) : In32 (i + 1) 0 xs := fun m r hr => by
  obtain ⟨z1, z2, z3, z4, z5⟩ := h m r hr
  refine ⟨z1, z2, fun hm => ?_, fun hm => by rw [z5 (by omega)]; simp, fun hm => z5 (by omega)⟩
  by_cases he : m = i
  · have := z4 he; omega
  · exact z3 (by omega)

theorem es_ok32 {st : SS32} {N : Int} (h : SrcOk N st.1) (hN : N ≤ 900000000) (hl : st.2.length ≤ 5) (h0 : In32 0 0 st.2) : ∀ n : Nat, n ≤ st.2.length → SrcOk (N + 10 * n) (es32 n st).1 ∧ In32 n 0 (es32 n st).2
  | 0, _ => ⟨h.up (by omega), h0⟩
  | n + 1, hn => by
    obtain ⟨h1, h2⟩ := es_ok32 h hN hl h0 n (by omega)
    have e := es_len32 n st
    obtain ⟨h3, h4⟩ := bs_ok32 h1 (by omega) (by omega) h2 ((es32 n st).2.length - (n + 1)) (by omega) (by omega)
    exact ⟨h3.up (by push_cast; omega), h4.next (by omega)⟩

theorem many_ok32 : ∀ k, k ≤ 13 → small32 (many32 k) ∧ (many32 k).length = k
  | 0, _ => ⟨⟨by simp [many32], fun r hr => by simp [many32] at hr⟩, rfl⟩
  | k + 1, hk => by
    obtain ⟨⟨h1, h2⟩, h3⟩ := many_ok32 k (by omega)
    have e : (many32 (k + 1)).length = k + 1 := by rw [many32, List.length_append, List.length_singleton, h3]
    refine ⟨⟨by omega, fun r hr => ?_⟩, e⟩
    rw [many32] at hr
    rcases List.mem_append.1 hr with hr | hr
    · exact h2 r hr
    · simp at hr
      subst hr
      exact ⟨by show 2 ≤ 100; decide, by simp, by simp⟩

theorem dn_ok32 (x : (List Int × Int × Int × Unit)) (h : P32 x) (N : Int) (hN : SrcOk N x) (hN2 : N ≤ 800000000) : SrcOk (N + 10) (cs32 x 5).1 ∧ (cs32 x 5).2.length ≤ 5 ∧ In32 0 0 (cs32 x 5).2 ∧ SrcOk (N + 60) (es32 (cs32 x 5).2.length (cs32 x 5)).1 ∧ In32 5 0 (es32 (cs32 x 5).2.length (cs32 x 5)).2 := by
  obtain ⟨h1, h2, h3⟩ := cs_ok32 hN (by omega) 5 (Nat.le_refl _)
  obtain ⟨h4, h5⟩ := es_ok32 h1 (by omega) h2 h3 _ (Nat.le_refl _)
  refine ⟨h1, h2, h3, h4.up (by omega), fun m r hr => ?_⟩
  obtain ⟨z1, z2, z3, z4, z5⟩ := h5 m r hr
  have hm := (List.getElem?_eq_some_iff.1 hr).1
  rw [es_len32] at hm
  exact ⟨z1, z2, fun _ => z3 hm, fun he => absurd he (by omega), fun he => absurd he (by omega)⟩

theorem In32.small {xs : List RL32} (h : In32 5 0 xs) (hl : xs.length ≤ 5) : small32 xs := by
  refine ⟨by omega, fun r hr => ?_⟩
  obtain ⟨m, hm⟩ := List.getElem?_of_mem hr
  obtain ⟨z1, z2, z3, z4, z5⟩ := h m r hm
  have := (List.getElem?_eq_some_iff.1 hm).1
  have := z3 (by omega)
  exact ⟨z1, by omega, z2⟩

theorem set_small32 {xs : List RL32} (h : small32 xs) (k : Nat) (y : ByteArray) (hy : y.size ≤ 100) (hk : k < xs.length) : small32 (xs.set k ((xs.getD k dr32).1, [y], ())) := by
  refine ⟨by rw [List.length_set]; exact h.1, fun r hr => ?_⟩
  rcases List.mem_or_eq_of_mem_set hr with hr | rfl
  · exact h.2 r hr
  · exact ⟨(h.2 _ (mem_getD xs k _ hk)).1, by simp, fun n hn => by simp at hn; subst hn; exact hy⟩

theorem fi_ok32 {st : SS32} {N : Int} (h : SrcOk N st.1) (hN : N ≤ 1000000000) (hl : st.2.length ≤ 5) (hs : small32 st.2) : SrcOk (N + 10) (fi32 st).1 ∧ small32 (fi32 st).2 := by
  obtain ⟨p1, s1, a1, _⟩ := pick_ok h 24 (by omega)
  unfold fi32
  by_cases c0 : g33_0 st.1 24 = 0
  · rw [if_pos c0]
    refine ⟨s1.up (by omega), ?_⟩
    show small32 (if _ then _ else _)
    split
    · exact set_small32 hs _ _ (hs.2 _ (mem_getD st.2 0 _ (by omega))).1 (by omega)
    · exact hs
  rw [if_neg c0]
  by_cases c1 : g33_0 st.1 24 = 1
  · rw [if_pos c1]
    by_cases c : 0 < st.2.length
    · rw [if_pos c]
      obtain ⟨p2, s2, a2, b2, _⟩ := pick_ok s1 (st.2.length : Int) (by omega)
      obtain ⟨p3, s3, m3⟩ := text_ok s2 zz32 (by decide) (by omega)
      have b2 := b2 (by omega)
      refine ⟨s3.up (by omega), set_small32 hs _ _ ?_ (by omega)⟩
      have : ∀ y ∈ zz32, ByteArray.size y ≤ 100 := by
        intro y hy
        simp [zz32] at hy
        rcases hy with rfl | rfl | rfl <;> decide
      exact this _ m3
    · rw [if_neg c]
      exact ⟨s1.up (by omega), hs⟩
  rw [if_neg c1]
  by_cases c2 : g33_0 st.1 24 = 2
  · rw [if_pos c2]
    obtain ⟨p2, s2, m2⟩ := among_ok s1 [12, 13] (by decide) (by omega)
    refine ⟨s2.up (by omega), (many_ok32 _ ?_).1⟩
    simp at m2
    omega
  · rw [if_neg c2]
    exact ⟨s1.up (by omega), hs⟩

theorem q32 (x0 : (List Int × Int × Int × Unit)) (h : P32 x0) : SrcOk (x0.2.1 + 1000) (u32_0 x0) ∧ small32 (g32_0 x0) := by
  have h' : SrcOk 800000000 x0 := h
  obtain ⟨h1, h2, h3, h4, h5⟩ := dn_ok32 x0 h x0.2.1 h'.self h'.at_le
  have hl := es_len32 (cs32 x0 5).2.length (cs32 x0 5)
  obtain ⟨k1, k2⟩ := fi_ok32 h4 (by have := h'.at_le; omega) (by omega) (h5.small (by omega))
  exact ⟨k1.up (by omega), k2⟩

theorem gb32 {w W : World} (h : Below w.heap.size w W) : w.grownBy W none := ⟨h.1, h.2, h.3, h.4, fun q hq _ => h.5 q hq⟩
theorem gba32 (w : World) (o : Obj) : w.grownBy (w.alloc o) none := gb32 ((Below.refl _ w).alloc (Nat.le_refl _) o)

theorem cel32 {w : World} {b : Nat} {cs : Array Value} {ty : TypeId} (h : w.heap[b]? = some (.cells cs ty)) (j : Nat) (u : Value) (hj : cs[j]? = some u) : w.cell? ⟨b, j, none⟩ = some u := by
  unfold World.cell?
  rw [show w.heap[(⟨b, j, none⟩ : Addr).block]? = _ from h]
  exact hj

def nv32 : Array Value := #[.string (ByteArray.mk #[99, 104, 105, 101, 102]), .string (ByteArray.mk #[100, 114, 105, 118, 101, 114]), .string (ByteArray.mk #[103, 117, 97, 114, 100]), .string (ByteArray.mk #[112, 117, 112, 105, 108]), .string (ByteArray.mk #[119, 97, 114, 100, 101, 110])]

theorem news232 (w1 : World) (o : Obj) (cs : Array Value) (t : TypeId) : ∀ j u, cs.toList[j]? = some u → ((w1.alloc o).alloc (.cells cs t)).cell? ⟨w1.heap.size + 1, 0 + j, none⟩ = some u := fun j u hj => by
  have e : (w1.alloc o).heap.size = w1.heap.size + 1 := by simp
  have h := heap_alloc_new (w1.alloc o) (.cells cs t)
  rw [e] at h
  exact cel32 h (0 + j) u (by rw [Nat.zero_add]; simpa using hj)

theorem nw32 {w w1 w2 : World} {u v' : Value} {xs : List RL32} {us : List Value} (h : Rs32 w w1 u xs us) (hw : w.heap.size ≤ w1.heap.size) (y : ByteArray)
    (hown : w2.ownsRow w.heap.size 35 2 v' (xs.length + 1) (row32 xs us ++ [.string y, .slice (some ⟨w1.heap.size, 0, none⟩) 0 0])) (hgrow : ((w1.alloc (.cells #[] 9)).alloc (.cells #[.string y, .slice (some ⟨w1.heap.size, 0, none⟩) 0 0] 35)).grownBy w2 u.ownBlock) :
    Rs32 w w2 v' (xs ++ [(y, [], ())]) (us ++ [.slice (some ⟨w1.heap.size, 0, none⟩) 0 0]) :=
  h.push (x := (y, [], ())) (gb32 (((Below.refl _ w1).alloc (Nat.le_refl _) _).alloc (by simp) _)) (World.ownsRow.alloc (World.ownsRow_lit (base := w.heap.size) (size := 1) w1 #[] 0 hw (by simp) rfl) _)
    (fun b hb => by simp [Value.ownBlock] at hb; omega) hgrow hown

theorem gal32 {w w1 : World} {o : Obj} {row : Option Nat} (h : ((w.alloc o).drew).grownBy w1 row) : w.grownBy w1 row :=
  ⟨h.os, h.tape, h.output, Nat.le_trans (show w.heap.size ≤ (w.alloc o).heap.size by simp) h.size, fun q hq hr => (h.block q (Nat.lt_of_lt_of_le hq (show w.heap.size ≤ (w.alloc o).heap.size by simp)) hr).trans (Below.heap_alloc _ _ _ hq)⟩

theorem getDr32 {xs : List RL32} {i : Nat} (hi : i < xs.length) : xs[i]? = some (xs.getD i dr32) := by rw [List.getD_eq_getElem?_getD, List.getElem?_eq_getElem hi]; rfl

theorem name32 {w wr : World} {G cp : Nat} {xs : List RL32} {us : List Value} (h : Rs32 w wr (.slice (some ⟨G, 0, none⟩) xs.length cp) xs us) {i : Nat} (hi : i < xs.length) : wr.cell? ⟨G, i * 2, none⟩ = some (.string (xs.getD i dr32).1) := by
  have hl := h.len
  rw [h.own.cellAt (i * 2) (by omega), Nat.mul_comm]
  exact (rowGet32 xs us i _ _ (getDr32 hi) (List.getElem?_eq_getElem (by omega))).1

theorem fx32 {w wr : World} {G cp S off : Nat} {G0 : Nat → Prop} {s : (List Int × Int × Int × Unit)} {xs : List RL32} {us : List Value} (h : Rs32 w wr (.slice (some ⟨G, 0, none⟩) xs.length cp) xs us) (hst : St32 w wr G0 S off s) (hS : S < w.heap.size) (hG0 : ∀ b, G0 b → b < w.heap.size) {i : Nat} (hi : i < xs.length) (y : ByteArray) :
    ∃ u L xs0, wr.cell? ⟨G, i * 2 + 1, none⟩ = some u ∧ L = (xs.getD i dr32).2.1.length ∧ G < wr.heap.size ∧ Aside (wr.ownsRow w.heap.size 9 1 u L xs0) ∧
      Aside (∀ o w1, ((wr.alloc o).drew).grownBy w1 u.ownBlock → w1.frozen? ⟨G, i * 2 + 1, none⟩ = false ∧ w1.cell? ⟨G, i * 2 + 1, none⟩ = some u) ∧
      Aside (∀ o w1 gg c1, ((wr.alloc o).drew).grownBy w1 u.ownBlock → w1.ownsRow w.heap.size 9 1 (.slice (some ⟨gg, 0, none⟩) (L + 1) c1) (L + 1) (xs0 ++ [.string y]) → (u.ownBlock = some gg ∨ gg = wr.heap.size + 1) →
        ∃ us', Rs32 w (w1.setCell ⟨G, i * 2 + 1, none⟩ (.slice (some ⟨gg, 0, none⟩) (L + 1) c1)) (.slice (some ⟨G, 0, none⟩) xs.length cp) (xs.set i ((xs.getD i dr32).1, (xs.getD i dr32).2.1 ++ [y], ())) us' ∧
          St32 w (w1.setCell ⟨G, i * 2 + 1, none⟩ (.slice (some ⟨gg, 0, none⟩) (L + 1) c1)) G0 S off s) := by
  have hl := h.len
  have hu : us[i]? = some (us[i]'(by omega)) := List.getElem?_eq_getElem (by omega)
  have hx := getDr32 hi
  have i2 := h.inn i _ _ hx hu
  refine ⟨us[i]'(by omega), _, _, ?_, rfl, (h.own.lt _ rfl).2, i2, fun o w1 hg => ?_, fun o w1 gg c1 hg ho hat => ?_⟩
  · rw [h.own.cellAt (i * 2 + 1) (by omega), Nat.mul_comm]
    exact (rowGet32 xs us i _ _ hx hu).2
  · have h' := (World.ownsRow.drew (World.ownsRow.alloc h.own o)).kept hg (apart32 h.own i2 (by decide))
    refine ⟨h'.frozenAt _, (h'.cellAt _ (by omega)).trans ?_⟩
    rw [Nat.mul_comm]
    exact (rowGet32 xs us i _ _ hx hu).2
  · have el : ((xs.getD i dr32).2.1 ++ [y]).length = (xs.getD i dr32).2.1.length + 1 := by simp
    have ef : fcs .str ((xs.getD i dr32).2.1 ++ [y]) = fcs .str (xs.getD i dr32).2.1 ++ [.string y] := by unfold fcs; simp [fcells]
    have hg' := gal32 hg
    obtain ⟨r1, r2⟩ := h.put (ys := (xs.getD i dr32).2.1 ++ [y]) hx hu hg' (by rw [el, ef]; exact ho) (fun b hb => by
      simp [Value.ownBlock] at hb
      subst hb
      rcases hat with he | he
      · exact .inl he
      · exact .inr (by omega))
    rw [Nat.mul_comm]
    exact ⟨_, r1, (hst.grown hS hG0 hg' (fun b hb => (i2.lt b hb).1)).grown hS hG0 r2 (fun b hb => by cases hb; exact (h.own.lt _ rfl).1)⟩

theorem gmono32 {w w1 : World} (h : w.grownBy w1 none) (r : Option Nat) : w.grownBy w1 r := ⟨h.os, h.tape, h.output, h.size, fun q hq _ => h.block q hq (by simp)⟩

theorem fy32 {w wr : World} {G cp S off : Nat} {G0 : Nat → Prop} {s : (List Int × Int × Int × Unit)} {xs : List RL32} {us : List Value} (h : Rs32 w wr (.slice (some ⟨G, 0, none⟩) xs.length cp) xs us) (hst : St32 w wr G0 S off s) (hS : S < w.heap.size) (hG0 : ∀ b, G0 b → b < w.heap.size) {i : Nat} (hi : i < xs.length) (y : ByteArray) :
    ∃ u, wr.cell? ⟨G, i * 2 + 1, none⟩ = some u ∧ G < wr.heap.size ∧ wr.frozen? ⟨G, i * 2 + 1, none⟩ = false ∧
      Aside (∃ us', Rs32 w ((wr.setCell ⟨G, i * 2 + 1, none⟩ (.slice (some ⟨wr.heap.size, 0, none⟩) 1 1)).alloc (.cells #[.string y] 9)) (.slice (some ⟨G, 0, none⟩) xs.length cp) (xs.set i ((xs.getD i dr32).1, [y], ())) us' ∧
          St32 w ((wr.setCell ⟨G, i * 2 + 1, none⟩ (.slice (some ⟨wr.heap.size, 0, none⟩) 1 1)).alloc (.cells #[.string y] 9)) G0 S off s) := by
  have hl := h.len
  have hu : us[i]? = some (us[i]'(by omega)) := List.getElem?_eq_getElem (by omega)
  have hx := getDr32 hi
  refine ⟨us[i]'(by omega), ?_, (h.own.lt _ rfl).2, h.own.frozenAt _, ?_⟩
  · rw [h.own.cellAt (i * 2 + 1) (by omega), Nat.mul_comm]
    exact (rowGet32 xs us i _ _ hx hu).2
  · have i2 := h.inn i _ _ hx hu
    obtain ⟨r1, r2⟩ := h.put (ys := [y]) hx hu (gmono32 (gba32 wr (.cells #[.string y] 9)) _) (World.ownsRow_lit (base := w.heap.size) (size := 1) wr #[.string y] 1 hst.low.size (by decide) rfl) (fun b hb => .inr (by simp [Value.ownBlock] at hb; omega))
    rw [← World.setCell_alloc_past _ _ _ _ (h.own.lt _ rfl).2, Nat.mul_comm]
    exact ⟨_, r1, (hst.grown hS hG0 (gba32 wr _) (fun b hb => by cases hb)).grown hS hG0 r2 (fun b hb => by cases hb; exact (h.own.lt _ rfl).1)⟩

theorem lz32 {w w2 : World} {S : Nat} (hw : w.heap.size ≤ w2.heap.size) (hS : S < w.heap.size) :
    SlAt (w2.alloc (.cells #[.string (ByteArray.mk #[122, 122]), .string (ByteArray.mk #[99, 104, 105, 101, 102]), .string (ByteArray.mk #[119, 97, 114, 100, 101, 110])] 9)) (Am.Good (w2.alloc (.cells #[.string (ByteArray.mk #[122, 122]), .string (ByteArray.mk #[99, 104, 105, 101, 102]), .string (ByteArray.mk #[119, 97, 114, 100, 101, 110])] 9)) [S])
      (RepC (w2.alloc (.cells #[.string (ByteArray.mk #[122, 122]), .string (ByteArray.mk #[99, 104, 105, 101, 102]), .string (ByteArray.mk #[119, 97, 114, 100, 101, 110])] 9)) (Am.Good (w2.alloc (.cells #[.string (ByteArray.mk #[122, 122]), .string (ByteArray.mk #[99, 104, 105, 101, 102]), .string (ByteArray.mk #[119, 97, 114, 100, 101, 110])] 9)) [S]) .str) 1 zz32 (.slice (some ⟨w2.heap.size, 0, none⟩) 3 3) := by
  have h := World.ownsRow_lit (base := w.heap.size) (size := 1) (e := 9) w2 #[.string (ByteArray.mk #[122, 122]), .string (ByteArray.mk #[99, 104, 105, 101, 102]), .string (ByteArray.mk #[119, 97, 114, 100, 101, 110])] 3 hw (by decide) rfl
  exact slOf32 (x := zz32) h (fun b h1 h2 => ⟨h2, by simp; omega⟩) (by decide) (by
    intro y hy
    simp [zz32] at hy
    rcases hy with rfl | rfl | rfl <;> decide)

theorem la32 {w w2 : World} {S : Nat} (hw : w.heap.size ≤ w2.heap.size) (hS : S < w.heap.size) :
    SlAt (w2.alloc (.cells #[.int .i64 12, .int .i64 13] 2)) (Am.Good (w2.alloc (.cells #[.int .i64 12, .int .i64 13] 2)) [S]) (RepC (w2.alloc (.cells #[.int .i64 12, .int .i64 13] 2)) (Am.Good (w2.alloc (.cells #[.int .i64 12, .int .i64 13] 2)) [S]) (.int .i64)) 1 [12, 13] (.slice (some ⟨w2.heap.size, 0, none⟩) 2 2) := by
  have h := heap_alloc_new w2 (.cells #[.int .i64 12, .int .i64 13] 2)
  refine ⟨by decide, .inr ⟨w2.heap.size, 0, 2, rfl, Nat.le_refl _, by decide, ⟨by simp, by simp; omega⟩, fun i x hx => ?_⟩⟩
  rcases i with _ | _ | i
  · simp at hx
    subst hx
    refine ⟨[.int .i64 12], rfl, fun j c hj => ?_, rfl, by show InR .i64 12; rw [i64_iff]; omega⟩
    rcases j with _ | j
    · simp at hj; subst hj; exact cel32 h 0 _ rfl
    · simp at hj
  · simp at hx
    subst hx
    refine ⟨[.int .i64 13], rfl, fun j c hj => ?_, rfl, by show InR .i64 13; rw [i64_iff]; omega⟩
    rcases j with _ | j
    · simp at hj; subst hj; exact cel32 h 1 _ rfl
    · simp at hj
  · simp at hx

theorem cv32 (wr : World) (k : Nat) (hk : k ≤ 13) : (convert 22 9 (.slice (some ⟨wr.heap.size, 0, none⟩) 1 1)).run Tryz.prog (wr.alloc (.cells #[.int .u8 (97 + (k : Int))] 5)) = .ok (.string (ByteArray.mk #[UInt8.ofNat (97 + k)])) (wr.alloc (.cells #[.int .u8 (97 + (k : Int))] 5)) := by
  refine run_convert_bytes_back (P := Tryz.prog) _ 22 9 5 ⟨wr.heap.size, 0, none⟩ 1 [UInt8.ofNat (97 + k)] Tryz.underlying22 Tryz.underlying5 Tryz.underlying9 (fun j hj => ?_)
  have hj0 : j = 0 := by simpa using hj
  subst hj0
  refine (cel32 (heap_alloc_new wr (.cells #[.int .u8 (97 + (k : Int))] 5)) 0 (.int .u8 (97 + (k : Int))) rfl).trans ?_
  have : (UInt8.ofNat (97 + k)).toNat = 97 + k := by
    show (97 + k) % 256 = 97 + k
    omega
  show some (Value.int .u8 (97 + (k : Int))) = some (.int .u8 ((UInt8.ofNat (97 + k)).toNat : Int))
  rw [this]
  rfl

theorem nw032 {w w1 w2 : World} {u v' : Value} {xs : List RL32} {us : List Value} {o : Obj} (h : Rs32 w w1 u xs us) (y : ByteArray)
    (hown : w2.ownsRow w.heap.size 35 2 v' (xs.length + 1) (row32 xs us ++ [.string y, .slice none 0 0])) (hgrow : ((w1.alloc o).alloc (.cells #[.string y, .slice none 0 0] 35)).grownBy w2 u.ownBlock) :
    Rs32 w w2 v' (xs ++ [(y, [], ())]) (us ++ [.slice none 0 0]) :=
  h.push (x := (y, [], ())) (gb32 (((Below.refl _ w1).alloc (Nat.le_refl _) _).alloc (by simp) _)) (World.ownsRow_nil _ _ _ _) (fun b hb => by simp [Value.ownBlock] at hb) hgrow hown

theorem nvGet32 (k : Nat) (hk : k < 5) : nv32[k]? = some (.string (nm32.getD k ByteArray.empty)) := by
  rcases k with _ | _ | _ | _ | _ | k <;> first | rfl | omega

def Fin32 (w : World) (G0 : Nat → Prop) (S off : Nat) (x : (List Int × Int × Int × Unit)) (e : Ending) (w' : World) : Prop :=
  ∃ v us, e = .returned v ∧ Rs32 w w' v (g32_0 x) us ∧ St32 w w' G0 S off (u32_0 x)

set_option maxHeartbeats 2000000 in
theorem walk32 (w : World) (G0 : Nat → Prop) (S off : Nat) (x : (List Int × Int × Int × Unit)) (hgo : GOk w [S]) (hG : ∀ b, G0 b → Am.Good w [S] b) (hs : PbAt w G0 (.cons (.sl (.int .u8)) (.cons (.int .i64) (.cons (.int .u64) .unit))) x (.pointer (some ⟨S, off, none⟩)) [S]) (hp : P32 x) :
    Calls Tryz.prog 32 #[.pointer (some ⟨S, off, none⟩)] w (Fin32 w G0 S off x) := by
  have lS : S < w.heap.size := by obtain ⟨_, _, _, h1⟩ := hs; exact h1.lt S (by simp)
  have HG : Aside (GOk w [S]) := hgo
  have HGG : Aside (∀ b, G0 b → Am.Good w [S] b) := hG
  have HP : Aside (PbAt w G0 (.cons (.sl (.int .u8)) (.cons (.int .i64) (.cons (.int .u64) .unit))) x (.pointer (some ⟨S, off, none⟩)) [S]) := hs
  have HX : Aside (P32 x) := hp
  have gs : ∀ {W}, Kept [S] w W → ∀ b, G0 b → Am.Good W [S] b := fun h b hb => ⟨Nat.lt_of_lt_of_le (hG b hb).1 h.size, (hG b hb).2⟩
  clear hgo hG hs hp
  have mixed := mixed
  go_enter Tryz.func32, Tryz.ntmps32
  go_wp2
  go_loopw [5, 4] (fun kv v wr => ∃ (k : Nat) (us : List Value), k ≤ 5 ∧ kv = .int .i64 k ∧ Rs32 w wr v (cs32 x k).2 us ∧ St32 w wr G0 S off (cs32 x k).1 ∧ wr.heap[w.heap.size]? = some (.cells nv32 9)) (fun kv _ _ => 5 - (intOf kv).toNat)
  case atStart =>
    refine ⟨0, [], by omega, rfl, ⟨?_, rfl, fun j x u h => by simp [cs32] at h, fun i j a b q h => by simp at h⟩, ⟨?_, ((Kept.refl _ w).alloc _).alloc _⟩, ?_⟩
    · have h := World.ownsRow_lit (base := w.heap.size) (e := 35) (size := 2) (w.alloc (.cells nv32 9)) #[] 0 (by simp) (by simp) rfl
      rw [World.size_alloc] at h
      exact h
    · exact (St32.grown (St32.grown ⟨HP.out, Kept.refl _ w⟩ lS (fun b hb => (HGG.out b hb).1) (gba32 w _) (fun b hb => by cases hb)) lS (fun b hb => (HGG.out b hb).1) (gba32 _ _) (fun b hb => by cases hb)).src
    · exact (Below.heap_alloc _ _ _ (by simp)).trans (heap_alloc_new w _)
  case round =>
    obtain ⟨k, us, hk, rfl, hr, hst, hnb⟩ := hrel
    have HR : Aside (Rs32 w wr u4 (cs32 x k).2 us) := hr
    have HS : Aside (St32 w wr G0 S off (cs32 x k).1) := hst
    obtain ⟨ad, cp, rfl, hGG⟩ := form32 hr.own
    have hsz : w.heap.size < wr.heap.size := (Array.getElem?_eq_some_iff.1 hnb).1
    clear hr hst
    by_cases hlt : k < 5
    · have p0 : wr.cell? ⟨w.heap.size, k, none⟩ = some (.string (nm32.getD k ByteArray.empty)) := cel32 hnb k _ (nvGet32 k hlt)
      obtain ⟨o1, o2, o3⟩ := cs_ok32 (show SrcOk 800000000 x from HX.out) (by omega) k hk
      obtain ⟨op, os⟩ := one_ok o1 5 (by omega)
      have HN : Aside (cs32 x (k + 1) = a32 (cs32 x k) (nm32.getD k ByteArray.empty)) := rfl
      have HNB : Aside (nv32[k]? = some (.string (nm32.getD k ByteArray.empty))) := nvGet32 k hlt
      clear p0 o1 o3 os
      generalize nm32.getD k ByteArray.empty = y at *
      generalize cs32 x k = st at *
      obtain ⟨s, xs⟩ := st
      have HC : Aside (∀ W, Kept [S] w W → PbAt W G0 (.cons (.sl (.int .u8)) (.cons (.int .i64) (.cons (.int .u64) .unit))) s (.pointer (some ⟨S, off, none⟩)) [S] → _) := fun W h1 h2 => one32 W G0 S off s 5 (gokK32 HG.out h1) (gs h1) h2 (by rw [i64_iff]; omega) op
      have hxl : xs.length ≤ k := o2
      clear op o2
      have HI : Aside (TIOk Tryz.prog 24 (tabGet tab 24)) := tabOk 24
      cases hb : g52_0 s 5 with
      | true =>
        have HN2 : Aside (cs32 x (k + 1) = (u52_0 s 5, xs)) := by
          refine HN.out.trans ?_
          unfold a32
          rw [if_pos hb]
        go_wp2_with (go_at_call 52; refine (HC.out _ HS.out.low HS.out.src).mono ?_; rintro e w1 ⟨rfl, k1, s1⟩; rw [hb])
        refine ⟨⟨k + 1, us, by omega, by simp, ?_, ?_, (k1.block _ hsz (by simp; omega)).trans hnb⟩, by simp [intOf]; omega⟩
        · rw [HN2.out]
          exact HR.out.keep (kg32 k1) (fun b hb => by cases hb; exact lS)
        · rw [HN2.out]
          exact ⟨s1, HS.out.low.trans k1⟩
      | false =>
        have HN2 : Aside (cs32 x (k + 1) = (u52_0 s 5, xs ++ [(y, [], ())])) := by
          refine HN.out.trans ?_
          unfold a32
          rw [if_neg (by rw [hb]; decide)]
        go_wp2_with (first
          | (go_at_call 52; refine (HC.out _ HS.out.low HS.out.src).mono ?_; rintro e w1 ⟨rfl, k1, s1⟩; rw [hb]; have hnb1 : w1.heap[w.heap.size]? = _ := (k1.block _ hsz (by simp; omega)).trans hnb; have p1 := cel32 hnb1 k _ HNB.out; have hsz1 : w.heap.size ≤ w1.heap.size := Nat.le_trans (Nat.le_of_lt hsz) k1.size; have HR1 : Aside (Rs32 w w1 _ xs us) := HR.out.keep (kg32 k1) (fun b hb => by cases hb; exact lS))
          | (at_builtin; go_loud (refine app32 HI.out w.heap.size (World.ownsRow.alloc (World.ownsRow.alloc HR1.out.own _) _) (w1.heap.size + 1) 0 1 [.string y, .slice (some ⟨w1.heap.size, 0, none⟩) 0 0] rfl (news232 w1 _ _ _) (by simp [Value.oneCell']) (by omega) (by simp; omega) rfl rfl rfl rfl ?_); intro v' w2 hown hgrow))
        have hne : some w.heap.size ≠ (Value.slice ad xs.length cp).ownBlock := fun he => by
          obtain ⟨cur, hc⟩ := obj32 HR1.out.own he.symm
          rw [hnb1] at hc
          cases hc
        refine ⟨⟨k + 1, us ++ [.slice (some ⟨w1.heap.size, 0, none⟩) 0 0], by omega, by simp, ?_, ?_, ?_⟩, by simp [intOf]; omega⟩
        · rw [HN2.out]
          exact nw32 HR1.out hsz1 y hown hgrow
        · rw [HN2.out]
          exact St32.grown (St32.grown (St32.grown ⟨s1, HS.out.low.trans k1⟩ lS (fun b hb => (HGG.out b hb).1) (gba32 _ _) (fun b hb => by cases hb)) lS (fun b hb => (HGG.out b hb).1) (gba32 _ _) (fun b hb => by cases hb)) lS (fun b hb => (HGG.out b hb).1) hgrow (fun b hb => (HR1.out.own.lt b hb).1)
        · have hlt1 : w.heap.size < w1.heap.size := Nat.lt_of_lt_of_le hsz k1.size
          exact (hgrow.block _ (by simp; omega) hne).trans ((Below.heap_alloc _ _ _ (by simp; omega)).trans ((Below.heap_alloc _ _ _ hlt1).trans hnb1))
    · have e5 : cs32 x 5 = cs32 x k := by rw [show k = 5 by omega]
      obtain ⟨o1, o2, o3, o4, o5⟩ := dn_ok32 x HX.out 800000000 HX.out (by omega)
      have HD : Aside (dn32 x = fi32 (es32 (cs32 x 5).2.length (cs32 x 5))) := rfl
      rw [e5] at o1 o2 o3 o4 o5 HD
      clear e5 hnb hsz
      generalize cs32 x k = c at *
      have HO1 : Aside (SrcOk (800000000 + 10) c.1) := o1
      have HO3 : Aside (In32 0 0 c.2) := o3
      have HO4 : Aside (SrcOk (800000000 + 60) (es32 c.2.length c).1) := o4
      have HO5 : Aside (In32 5 0 (es32 c.2.length c).2) := o5
      clear o1 o3 o4 o5
      have hn5 : c.2.length ≤ 5 := o2
      clear o2
      go_wp2_with fail
      go_loopw [6] (fun iv wr => ∃ (i : Nat) (us : List Value), i ≤ c.2.length ∧ iv = .int .i64 i ∧ Rs32 w wr (.slice ad c.2.length cp) (es32 i c).2 us ∧ St32 w wr G0 S off (es32 i c).1) (fun iv _ => c.2.length - (intOf iv).toNat)
      case atStart => exact ⟨0, us, Nat.zero_le _, rfl, HR.out, HS.out⟩
      case round =>
        obtain ⟨i, us, hi, rfl, hr, hst⟩ := hrel
        have HR : Aside (Rs32 w wr (.slice ad c.2.length cp) (es32 i c).2 us) := hr
        have HS : Aside (St32 w wr G0 S off (es32 i c).1) := hst
        clear hr hst
        by_cases hlt : i < c.2.length
        · obtain ⟨G, rfl⟩ := hGG (by omega)
          obtain ⟨t1, t2⟩ := es_ok32 HO1.out (by omega) hn5 HO3.out i hi
          have tl := es_len32 i c
          have HE : Aside (es32 (i + 1) c = bs32 i (c.2.length - (i + 1)) (es32 i c)) := by
            show bs32 _ _ _ = _
            rw [tl]
          have HT1 : Aside (SrcOk (800000000 + 10 + 10 * i) (es32 i c).1) := t1
          have HT2 : Aside (In32 i 0 (es32 i c).2) := t2
          have HTL : Aside ((es32 i c).2.length = c.2.length) := tl
          clear t1 t2 tl
          generalize es32 i c = T at *
          generalize c.2.length = n at *
          go_wp2_with fail
          go_loopw [7] (fun kv wr => ∃ (k m : Nat) (us : List Value), k = i + 1 + m ∧ k ≤ n ∧ kv = .int .i64 k ∧ Rs32 w wr (.slice (some ⟨G, 0, none⟩) n cp) (bs32 i m T).2 us ∧ St32 w wr G0 S off (bs32 i m T).1) (fun kv _ => n - (intOf kv).toNat)
          case atStart => exact ⟨i + 1, 0, us, rfl, hlt, by simp, HR.out, HS.out⟩
          case round =>
            obtain ⟨k, m, us, hkm, hkn, rfl, hr, hst⟩ := hrel
            have HR : Aside (Rs32 w wr (.slice (some ⟨G, 0, none⟩) n cp) (bs32 i m T).2 us) := hr
            have HS : Aside (St32 w wr G0 S off (bs32 i m T).1) := hst
            clear hr hst
            by_cases hk : k < n
            · obtain ⟨o1, o2⟩ := bs_ok32 HT1.out (by omega) (by rw [HTL.out]; exact hlt) HT2.out m (by rw [HTL.out]; omega) (by omega)
              obtain ⟨op, os⟩ := one_ok o1 3 (by omega)
              have hzl := (bs_len32 i m T).trans HTL.out
              have HN : Aside (bs32 i (m + 1) T = b32 i (bs32 i m T) k) := by
                show _ = _
                rw [hkm]
                rfl
              have HLE : Aside (((bs32 i m T).2.getD i dr32).2.1.length ≤ 100) := Nat.le_trans ((o2 i _ (getDr32 (by rw [hzl]; exact hlt))).2.2.2.1 rfl) (by omega)
              clear o1 o2 os
              generalize bs32 i m T = st at *
              obtain ⟨s, xs⟩ := st
              have hzl : xs.length = n := hzl
              have HC : Aside (∀ W, Kept [S] w W → PbAt W G0 (.cons (.sl (.int .u8)) (.cons (.int .i64) (.cons (.int .u64) .unit))) s (.pointer (some ⟨S, off, none⟩)) [S] → _) := fun W h1 h2 => one32 W G0 S off s 3 (gokK32 HG.out h1) (gs h1) h2 (by rw [i64_iff]; omega) op
              have HKM : Aside (k = i + 1 + m) := hkm
              clear op hkm
              cases hb : g52_0 s 3 with
              | false =>
                have HN2 : Aside (bs32 i (m + 1) T = (u52_0 s 3, xs)) := by
                  refine HN.out.trans ?_
                  unfold b32
                  rw [if_neg (by rw [hb]; decide)]
                go_wp2_with (go_at_call 52; refine (HC.out _ HS.out.low HS.out.src).mono ?_; rintro e w1 ⟨rfl, k1, s1⟩; rw [hb])
                have hkm := HKM.out
                refine ⟨⟨k + 1, m + 1, us, by omega, by omega, by simp, ?_, ?_⟩, by simp [intOf]; omega⟩
                · rw [HN2.out]
                  exact HR.out.keep (kg32 k1) (fun b hb => by cases hb; exact lS)
                · rw [HN2.out]
                  exact ⟨s1, HS.out.low.trans k1⟩
              | true =>
                have HN2 : Aside (bs32 i (m + 1) T = (u52_0 s 3, xs.set i ((xs.getD i dr32).1, (xs.getD i dr32).2.1 ++ [(xs.getD k dr32).1], ()))) := by
                  refine HN.out.trans ?_
                  unfold b32
                  rw [if_pos hb]
                have hG0 : Aside (∀ b, G0 b → b < w.heap.size) := fun b hb => (HGG.out b hb).1
                have hinfo : TIOk Tryz.prog 28 (tabGet tab 28) := tabOk 28
                obtain ⟨_, _, ⟨_, ⟨i0, hi0, hz1, z, hz0, hzs, _⟩⟩, hby⟩ := hinfo
                rw [hi0] at hby
                simp only [Option.map_some, Option.some.injEq] at hby
                have hz2 : i0.bytes = 16 := hby
                have hzz : z.cells.size = 1 := by rw [← Array.length_toList, hzs]; rfl
                clear hby hzs
                have HZ : Aside (xs.length = n) := hzl
                subst hzl
                go_wp2_with (go_at_call 52; refine (HC.out _ HS.out.low HS.out.src).mono ?_; rintro e w1 ⟨rfl, k1, s1⟩; rw [hb]; have HR1 : Aside (Rs32 w w1 (.slice (some ⟨G, 0, none⟩) xs.length cp) xs us) := HR.out.keep (kg32 k1) (fun b hb => by cases hb; exact lS); have hS1 : Aside (St32 w w1 G0 S off (u52_0 s 3)) := ⟨s1, HS.out.low.trans k1⟩; obtain ⟨u, L, xs0, p1, hL, hGl, HO, HFZ, HNX⟩ := fx32 HR1.out hS1.out lS hG0.out hlt (xs.getD k dr32).1; have p2 := name32 HR1.out hk; have hsz1 : w.heap.size ≤ w1.heap.size := hS1.out.low.size; have hL2 : L ≤ 100 := hL ▸ HLE.out; clear hL)
                generalize (xs.getD k dr32).1 = y at *
                have hq2 : (0 : Int) ≤ (i : Int) := by omega
                have hq3 : (i : Int) < (xs.length : Int) := by omega
                have hq5 : (0 : Int) ≤ (k : Int) := by omega
                have hq6 : (k : Int) < (xs.length : Int) := by omega
                go_region_law (refine step_append_lies _ (by rfl) _ _ _ (by rfl) w.heap.size 9 i0 _ 1 16 Tryz.underlying28 hi0 hz0 hz1 hz2 hzz (by omega) u L xs0 (by rfl) (World.ownsRow.drew (World.ownsRow.alloc HO.out _)) ⟨w1.heap.size, 0, none⟩ 1 1 [.string y] (by rfl) (by rfl) (World.news_of_block (cs := #[.string y]) (t := 9) (fr := (0, 0)) (heap_alloc_new w1 _)) (by simp [Value.oneCell']) (by omega) (by unfold maxLen; omega) (by omega) (by have := hsz1; simp; omega) (w1.heap.size + 1) (by simp) ?_; intro gg cap1 w2 hown1 hgrow hat hlt1; obtain ⟨hfz, hcz⟩ := HFZ.out _ w2 hgrow)
                all_goals go_wp2
                all_goals
                  have hkm := HKM.out
                  obtain ⟨us', r1, r2⟩ := HNX.out _ w2 gg cap1 hgrow hown1 hat
                  refine ⟨⟨k + 1, m + 1, us', by omega, by omega, by simp, ?_, ?_⟩, by simp [intOf]; omega⟩
                  · rw [HN2.out]
                    exact r1
                  · rw [HN2.out]
                    exact r2
            · have HKM : Aside (k = i + 1 + m) := hkm
              have HE2 : Aside (es32 (i + 1) c = bs32 i m T) := by
                refine HE.out.trans ?_
                rw [show n - (i + 1) = m by omega]
              clear hkm
              go_wp2
              refine ⟨⟨i + 1, us, by omega, by simp, ?_, ?_⟩, by simp [intOf]; omega⟩
              · rw [HE2.out]
                exact HR.out
              · rw [HE2.out]
                exact HS.out
        · have e6 : es32 c.2.length c = es32 i c := by rw [show c.2.length = i by omega]
          have hT := es_len32 c.2.length c
          obtain ⟨p1', s1', a1', b1', _⟩ := pick_ok HO4.out 24 (by omega)
          have HO4 := HO4.out
          have HO5 := HO5.out
          have HD := HD.out
          rw [e6] at hT HO4 HO5 HD p1' s1' a1' b1'
          clear e6
          have HG1 : Aside (∀ b, G0 b → b < w.heap.size) := fun b hb => (HGG.out b hb).1
          generalize es32 i c = T at *
          generalize c.2.length = n at *
          obtain ⟨s, xs⟩ := T
          have hT : xs.length = n := hT
          have HC : Aside (∀ W, Kept [S] w W → PbAt W G0 (.cons (.sl (.int .u8)) (.cons (.int .i64) (.cons (.int .u64) .unit))) s (.pointer (some ⟨S, off, none⟩)) [S] → _) := fun W h1 h2 => pick32 W G0 S off s 24 (gokK32 HG.out h1) (gs h1) h2 (by rw [i64_iff]; omega) p1'
          have HF : Aside (∀ v us w', Rs32 w w' v (fi32 (s, xs)).2 us → St32 w w' G0 S off (fi32 (s, xs)).1 → Fin32 w G0 S off x (.returned v) w') := fun v us w' h1 h2 => by
            refine ⟨v, us, rfl, ?_, ?_⟩
            · unfold g32_0
              rw [HD]
              exact h1
            · unfold u32_0
              rw [HD]
              exact h2
          have HO4 : Aside (SrcOk (800000000 + 60) s) := HO4
          have HS1 : Aside (SrcOk (800000000 + 60 + 2) (u33_0 s 24)) := s1'
          clear HO5 HD p1' s1' a1' b1'
          by_cases c0 : g33_0 s 24 = 0
          · by_cases hn : 1 < n
            · obtain ⟨m, hm⟩ : ∃ m, n = m + 1 := ⟨n - 1, by omega⟩
              subst hm
              obtain ⟨G, rfl⟩ := hGG (by omega)
              have HZ : Aside (xs.length = m + 1) := hT
              have HFI : Aside (fi32 (s, xs) = (u33_0 s 24, xs.set m ((xs.getD m dr32).1, [(xs.getD 0 dr32).1], ()))) := by
                show _ = _
                unfold fi32
                rw [if_pos c0, if_pos (by show 1 < xs.length; omega)]
                show (_, xs.set (xs.length - 1) _) = _
                rw [hT]
                rfl
              have HR2 : Aside (Rs32 w wr (.slice (some ⟨G, 0, none⟩) xs.length cp) xs us) := by rw [HZ.out]; exact HR.out
              have hq1 : IntKind.i64.wrap ((m : Int) + 1 - 1) = (m : Int) := by rw [IntKind.wrap_i64]; omega
              have hq7 : IntKind.i64.wrap (m : Int) = (m : Int) := by rw [IntKind.wrap_i64]; omega
              have hq8 : ((m : Int)).toNat = m := by simp
              have hq9 : (1 : Int) < (m : Int) + 1 := by omega
              clear hT hGG
              have HNM : Aside (∀ w1, Rs32 w w1 (.slice (some ⟨G, 0, none⟩) xs.length cp) xs us → w1.cell? ⟨G, 0 * 2, none⟩ = some (.string (xs.getD 0 dr32).1)) := fun w1 h => name32 h (i := 0) (by rw [HZ.out]; omega)
              generalize (xs.getD 0 dr32).1 = y at *
              go_wp2_with (go_at_call 33; refine (HC.out _ HS.out.low HS.out.src).mono ?_; rintro e w1 ⟨rfl, k1, s1⟩; rw [c0]; have HR1 : Aside (Rs32 w w1 (.slice (some ⟨G, 0, none⟩) xs.length cp) xs us) := HR2.out.keep (kg32 k1) (fun b hb => by cases hb; exact lS); have hS1 : Aside (St32 w w1 G0 S off (u33_0 s 24)) := ⟨s1, HS.out.low.trans k1⟩; have p2 := HNM.out w1 HR1.out; rw [Nat.zero_mul] at p2; obtain ⟨u, p1, hGl, pf, HNX⟩ := fy32 HR1.out hS1.out lS HG1.out (i := m) (by rw [HZ.out]; omega) y)
              obtain ⟨us', r1, r2⟩ := HNX.out
              rw [HZ.out] at r1
              go_ret
              refine HF.out _ us' _ ?_ ?_
              · rw [HFI.out]
                exact r1
              · rw [HFI.out]
                exact r2
            · have HFI : Aside (fi32 (s, xs) = (u33_0 s 24, xs)) := by
                show _ = _
                unfold fi32
                rw [if_pos c0, if_neg (by show ¬ 1 < xs.length; omega)]
              go_wp2_with (go_at_call 33; refine (HC.out _ HS.out.low HS.out.src).mono ?_; rintro e w1 ⟨rfl, k1, s1⟩; rw [c0])
              go_ret
              refine HF.out _ us _ ?_ ?_
              · rw [HFI.out]
                exact HR.out.keep (kg32 k1) (fun b hb => by cases hb; exact lS)
              · rw [HFI.out]
                exact ⟨s1, HS.out.low.trans k1⟩
          · by_cases c1 : g33_0 s 24 = 1
            · by_cases hn : 0 < n
              · obtain ⟨G, rfl⟩ := hGG hn
                obtain ⟨p2', s2', a2', b2', _⟩ := pick_ok HS1.out (n : Int) (by omega)
                obtain ⟨p3', s3', m3'⟩ := text_ok s2' zz32 (by decide) (by omega)
                have b2' := b2' (by omega)
                have HZ : Aside (xs.length = n) := hT
                have HFI : Aside (fi32 (s, xs) = (u37_0 (u33_0 (u33_0 s 24) (n : Int)) zz32, xs.set (g33_0 (u33_0 s 24) (n : Int)).toNat ((xs.getD (g33_0 (u33_0 s 24) (n : Int)).toNat dr32).1, [g37_0 (u33_0 (u33_0 s 24) (n : Int)) zz32], ()))) := by
                  show _ = _
                  unfold fi32
                  rw [if_neg c0, if_pos c1, if_pos (by show 0 < xs.length; omega)]
                  show (u37_0 (u33_0 _ (xs.length : Int)) _, _) = _
                  rw [hT]
                have HC2 : Aside (∀ W, Kept [S] w W → PbAt W G0 (.cons (.sl (.int .u8)) (.cons (.int .i64) (.cons (.int .u64) .unit))) (u33_0 s 24) (.pointer (some ⟨S, off, none⟩)) [S] → _) := fun W h1 h2 => pick32 W G0 S off _ (n : Int) (gokK32 HG.out h1) (gs h1) h2 (by rw [i64_iff]; omega) p2'
                obtain ⟨j, hj⟩ := Int.eq_ofNat_of_zero_le a2'
                rw [hj] at HFI b2'
                rw [Int.toNat_natCast] at HFI
                have HC3 : Aside (∀ W v, Kept [S] w W → PbAt W G0 (.cons (.sl (.int .u8)) (.cons (.int .i64) (.cons (.int .u64) .unit))) (u33_0 (u33_0 s 24) (n : Int)) (.pointer (some ⟨S, off, none⟩)) [S] → SlAt W (Am.Good W [S]) (RepC W (Am.Good W [S]) .str) 1 zz32 v → _) := fun W v h1 h2 h3 => text32 W G0 S off _ zz32 v (gokK32 HG.out h1) (gs h1) h2 h3 p3'
                have hjn : (j : Int) < (n : Int) := b2'
                clear p2' s2' a2' p3' s3' m3' hT hGG b2'
                have hq5 : (0 : Int) ≤ (j : Int) := by omega
                have hq6 : ((0 : Int) < (n : Int)) := by omega
                have HJ : Aside (j < xs.length) := by rw [HZ.out]; show j < n; omega
                have HR2 : Aside (Rs32 w wr (.slice (some ⟨G, 0, none⟩) xs.length cp) xs us) := by rw [HZ.out]; exact HR.out
                have hjn' : j < n := by omega
                go_wp2_with (first
                  | (go_at_call 37; go_loud (refine (HC3.out _ _ ((HT2.out.grown lS HG1.out (gba32 w2 _) (fun b hb => by cases hb)).low) ((HT2.out.grown lS HG1.out (gba32 w2 _) (fun b hb => by cases hb)).src) (lz32 HT2.out.low.size lS)).mono ?_); rintro e w3 ⟨rfl, k3, s3⟩; have HR4 : Aside (Rs32 w w3 (.slice (some ⟨G, 0, none⟩) xs.length cp) xs us) := (HR3.out.keep (gba32 w2 _) (fun b hb => by cases hb)).keep (kg32 k3) (fun b hb => by cases hb; exact lS); have HT3 : Aside (St32 w w3 G0 S off (u37_0 (u33_0 (u33_0 s 24) (n : Int)) zz32)) := ⟨s3, (HT2.out.grown lS HG1.out (gba32 w2 _) (fun b hb => by cases hb)).low.trans k3⟩; obtain ⟨u, p1, hGl, pf, HNX⟩ := fy32 HR4.out HT3.out lS HG1.out (i := j) HJ.out (g37_0 (u33_0 (u33_0 s 24) (n : Int)) zz32))
                  | (go_at_call 33; refine (HC2.out _ HT1.out.low HT1.out.src).mono ?_; rintro e w2 ⟨rfl, k2, s2⟩; rw [hj]; have HR3 : Aside (Rs32 w w2 (.slice (some ⟨G, 0, none⟩) xs.length cp) xs us) := HR1.out.keep (kg32 k2) (fun b hb => by cases hb; exact lS); have HT2 : Aside (St32 w w2 G0 S off (u33_0 (u33_0 s 24) (n : Int))) := ⟨s2, HT1.out.low.trans k2⟩)
                  | (go_at_call 33; refine (HC.out _ HS.out.low HS.out.src).mono ?_; rintro e w1 ⟨rfl, k1, s1⟩; rw [c1]; have HR1 : Aside (Rs32 w w1 (.slice (some ⟨G, 0, none⟩) xs.length cp) xs us) := HR2.out.keep (kg32 k1) (fun b hb => by cases hb; exact lS); have HT1 : Aside (St32 w w1 G0 S off (u33_0 s 24)) := ⟨s1, HS.out.low.trans k1⟩))
                obtain ⟨us', r1, r2⟩ := HNX.out
                rw [HZ.out] at r1
                go_ret
                refine HF.out _ us' _ ?_ ?_
                · rw [HFI.out]
                  exact r1
                · rw [HFI.out]
                  exact r2
              · have HFI : Aside (fi32 (s, xs) = (u33_0 s 24, xs)) := by
                  show _ = _
                  unfold fi32
                  rw [if_neg c0, if_pos c1, if_neg (by show ¬ 0 < xs.length; omega)]
                go_wp2_with (go_at_call 33; refine (HC.out _ HS.out.low HS.out.src).mono ?_; rintro e w1 ⟨rfl, k1, s1⟩; rw [c1])
                go_ret
                refine HF.out _ us _ ?_ ?_
                · rw [HFI.out]
                  exact HR.out.keep (kg32 k1) (fun b hb => by cases hb; exact lS)
                · rw [HFI.out]
                  exact ⟨s1, HS.out.low.trans k1⟩
            · by_cases c2 : g33_0 s 24 = 2
              · obtain ⟨p2', s2', m2'⟩ := among_ok HS1.out [12, 13] (by decide) (by omega)
                have HFI : Aside (fi32 (s, xs) = (u36_0 (u33_0 s 24) [12, 13], many32 (g36_0 (u33_0 s 24) [12, 13]).toNat)) := by
                  show _ = _
                  unfold fi32
                  rw [if_neg c0, if_neg c1, if_pos c2]
                have HC3 : Aside (∀ W v, Kept [S] w W → PbAt W G0 (.cons (.sl (.int .u8)) (.cons (.int .i64) (.cons (.int .u64) .unit))) (u33_0 s 24) (.pointer (some ⟨S, off, none⟩)) [S] → SlAt W (Am.Good W [S]) (RepC W (Am.Good W [S]) (.int .i64)) 1 [12, 13] v → _) := fun W v h1 h2 h3 => among32 W G0 S off _ [12, 13] v (gokK32 HG.out h1) (gs h1) h2 h3 p2'
                have hM : 0 ≤ g36_0 (u33_0 s 24) [12, 13] ∧ g36_0 (u33_0 s 24) [12, 13] ≤ 13 := by
                  simp at m2'
                  omega
                obtain ⟨M, hMe⟩ := Int.eq_ofNat_of_zero_le hM.1
                rw [hMe] at HFI hM
                rw [Int.toNat_natCast] at HFI
                have hM13 : M ≤ 13 := by omega
                have HT : Aside (Rs32 w wr (.slice ad n cp) xs us) := HR.out
                clear p2' s2' m2' hT hGG hM HR
                go_wp2_with (first
                  | (go_at_call 36; go_loud (refine (HC3.out _ _ ((HT1.out.grown lS HG1.out (gba32 w1 _) (fun b hb => by cases hb)).low) ((HT1.out.grown lS HG1.out (gba32 w1 _) (fun b hb => by cases hb)).src) (la32 HT1.out.low.size lS)).mono ?_); rintro e w3 ⟨rfl, k3, s3⟩; rw [hMe]; have HT3 : Aside (St32 w w3 G0 S off (u36_0 (u33_0 s 24) [12, 13])) := ⟨s3, (HT1.out.grown lS HG1.out (gba32 w1 _) (fun b hb => by cases hb)).low.trans k3⟩)
                  | (go_at_call 33; refine (HC.out _ HS.out.low HS.out.src).mono ?_; rintro e w1 ⟨rfl, k1, s1⟩; rw [c2]; have HT1 : Aside (St32 w w1 G0 S off (u33_0 s 24)) := ⟨s1, HS.out.low.trans k1⟩))
                clear HC HC3 HS HT
                generalize u36_0 (u33_0 s 24) [12, 13] = s' at *
                go_loopw [10, 4] (fun kv v wr => ∃ (k : Nat) (us : List Value), k ≤ M ∧ kv = .int .i64 k ∧ Rs32 w wr v (many32 k) us ∧ St32 w wr G0 S off s') (fun kv _ _ => M - (intOf kv).toNat)
                case atStart =>
                  refine ⟨0, [], by omega, rfl, ⟨World.ownsRow_lit (base := w.heap.size) (size := 2) w3 #[] 0 HT3.out.low.size (by simp) rfl, rfl, fun j x u h => by simp [many32] at h, fun i j a b q h => by simp at h⟩, ?_⟩
                  exact HT3.out.grown lS HG1.out (gba32 w3 _) (fun b hb => by cases hb)
                case round =>
                  obtain ⟨k, us, hk, rfl, hr, hst⟩ := hrel
                  have HR : Aside (Rs32 w wr u4 (many32 k) us) := hr
                  have HS : Aside (St32 w wr G0 S off s') := hst
                  obtain ⟨ad, cp, rfl, hGG⟩ := form32 hr.own
                  have hsz : w.heap.size ≤ wr.heap.size := hst.low.size
                  have hml : (many32 k).length ≤ 13 := (many_ok32 k (by omega)).1.1
                  clear hr hst
                  by_cases hkM : k < M
                  · have HN : Aside (many32 (k + 1) = many32 k ++ [(ByteArray.mk #[110, UInt8.ofNat (97 + k)], [], ())]) := rfl
                    have hcv := cv32 wr k (by omega)
                    have HZZ : Aside (ByteArray.mk #[110] ++ ByteArray.mk #[UInt8.ofNat (97 + k)] = ByteArray.mk #[110, UInt8.ofNat (97 + k)]) := rfl
                    have hzs : (ByteArray.mk #[UInt8.ofNat (97 + k)]).size = 1 := rfl
                    generalize many32 k = xs at *
                    generalize ByteArray.mk #[UInt8.ofNat (97 + k)] = z at *
                    have HI : Aside (TIOk Tryz.prog 24 (tabGet tab 24)) := tabOk 24
                    go_wp2_with (at_builtin; go_loud (refine app32 HI.out w.heap.size (World.ownsRow.alloc (World.ownsRow.alloc HR.out.own _) _) (wr.heap.size + 1) 0 1 [.string (ByteArray.mk #[110] ++ z), .slice none 0 0] rfl (news232 wr _ _ _) (by simp [Value.oneCell']) (by omega) (by simp; omega) rfl rfl rfl rfl ?_); intro v' w2 hown hgrow)
                    refine ⟨⟨k + 1, us ++ [.slice none 0 0], by omega, by simp, ?_, ?_⟩, by simp [intOf]; omega⟩
                    · rw [HN, ← HZZ.out]
                      exact nw032 HR.out _ hown hgrow
                    · exact St32.grown (St32.grown (St32.grown HS.out lS HG1.out (gba32 _ _) (fun b hb => by cases hb)) lS HG1.out (gba32 _ _) (fun b hb => by cases hb)) lS HG1.out hgrow (fun b hb => (HR.out.own.lt b hb).1)
                  · have HKM : Aside (k = M) := by show k = M; omega
                    go_wp2
                    go_ret
                    refine HF.out _ us _ ?_ ?_
                    · rw [HFI.out, ← HKM.out]
                      exact HR.out
                    · rw [HFI.out]
                      exact HS.out
              · have HFI : Aside (fi32 (s, xs) = (u33_0 s 24, xs)) := by
                  show _ = _
                  unfold fi32
                  rw [if_neg c0, if_neg c1, if_neg c2]
                generalize g33_0 s 24 = q at *
                have hb0 : (q == 0) = false := by simpa using c0
                have hb1 : (q == 1) = false := by simpa using c1
                have hb2 : (q == 2) = false := by simpa using c2
                go_wp2_with (go_at_call 33; refine (HC.out _ HS.out.low HS.out.src).mono ?_; rintro e w1 ⟨rfl, k1, s1⟩)
                go_ret
                refine HF.out _ us _ ?_ ?_
                · rw [HFI.out]
                  exact HR.out.keep (kg32 k1) (fun b hb => by cases hb; exact lS)
                · rw [HFI.out]
                  exact ⟨s1, HS.out.low.trans k1⟩

def kds32 : List RK := [.frz]
def sig32 : List AT := [AT.pb (.cons (.sl (.int .u8)) (.cons (.int .i64) (.cons (.int .u64) .unit)))]
def S32 : Am.Spec := { sig := sig32, pre := fun ⟨x0, _⟩ => P32 x0, upd := fun ⟨x0, _⟩ => [some ⟨(.cons (.sl (.int .u8)) (.cons (.int .i64) (.cons (.int .u64) .unit))), [u32_0 x0]⟩], res := fun ⟨x0, _⟩ => [⟨.sl RY32, g32_0 x0⟩], kds := kds32 }

theorem con32 : Contract Tryz.prog 32 S32 := by
  rintro w G G0 ⟨x0, u⟩ vs bss hgo hG hG0 hp ⟨v, s, b, bs, rfl, rfl, h0, rfl, rfl⟩ hnd
  have h0 : PbAt w G0 (.cons (.sl (.int .u8)) (.cons (.int .i64) (.cons (.int .u64) .unit))) x0 v b := h0
  have hv := h0
  obtain ⟨S, off, rfl, _⟩ := hv
  have hb := pbS32 h0
  subst hb
  have hgo : GOk w [S] := hgo
  have lS : S < w.heap.size := by obtain ⟨_, _, _, h1⟩ := h0; exact h1.lt S (by simp)
  refine (walk32 w G0 S off x0 hgo (fun b hb => hG b (hG0 b hb)) h0 hp).mono ?_
  rintro e w' ⟨v, us, rfl, hr, hst⟩
  obtain ⟨_, hq1, hq2⟩ := q32 x0 hp
  have hrep := hr.rep (Q := fun k => G k ∨ (w.heap.size ≤ k ∧ k < w'.heap.size)) (fun b h1 h2 => .inr ⟨h1, h2⟩) (by unfold maxLen; omega) (fun r hr => by
    obtain ⟨a1, a2, a3⟩ := hq2 r hr
    exact ⟨by unfold maxLen; omega, by unfold maxLen; omega, fun y hy => by have := a3 y hy; unfold maxLen; omega⟩)
  refine ⟨[v], [[S]], [[]], fun k => w.heap.size ≤ k ∧ k < w'.heap.size, rfl, hst.low, ⟨v, [], [], [], rfl, rfl, ⟨rfl, [v], ⟨v, rfl, hrep⟩, rfl⟩, rfl, rfl⟩, ⟨_, _, _, _, rfl, rfl, ⟨_, rfl, hst.src⟩, rfl, rfl⟩, by simp, fun b hb => ?_, fun b hb => ⟨hb.2, fun hg => ?_, fun hm => ?_⟩⟩
  · simp at hb
    subst hb
    exact fun hg => hg.2 (by simp)
  · exact absurd hg.1 (Nat.not_lt.2 hb.1)
  · simp at hm
    subst hm
    exact absurd hb.1 (Nat.not_le.2 lS)

end
end Go.Proofs.YtpellcnihifdaaaGreatDoor

/- Function 17 (spec.l28DrawObject): its runs between cut points. Written by a program of this repo (gen). -/
set_option linter.unusedVariables false
set_option linter.unusedSimpArgs false
set_option maxRecDepth 100000
namespace Go.Proofs.YtpellcnihifdaaaGreatDoor
open Go Go.Am Go.Proofs
noncomputable section
def ext17 : Ext := [(37, S37)]
theorem call17_37 : Callable Tryz.prog 37 := ⟨Tryz.f37, Tryz.func37, by kernel_rfl, by kernel_rfl⟩
theorem ext17Ok : ExtOk Tryz.prog ext17 := ⟨⟨call17_37, con37⟩, trivial⟩

noncomputable def b17 : Code := bodyOf Tryz.f17
theorem hb17 : Tryz.f17.body = some b17 := by kernel_rfl
def sig17 : List AT := [AT.pb (Ty.cons (Ty.sl (Ty.int IntKind.u8)) (Ty.cons (Ty.int IntKind.i64) (Ty.cons (Ty.int IntKind.u64) Ty.unit)))]
def tys17 : List Ty := [Ty.str]
def kds17 : List RK := []
def oks17 : List AT := owns sig17
def P17 (x0 : List Int × Int × Int × Unit) : Prop := ((P37 x0 [ByteArray.mk #[98, 114, 97, 107, 101], ByteArray.mk #[114, 111, 112, 101], ByteArray.mk #[115, 116, 111, 99, 107]]) ∧ True)
def g17_0 (x0 : List Int × Int × Int × Unit) : ByteArray := g37_0 x0 [ByteArray.mk #[98, 114, 97, 107, 101], ByteArray.mk #[114, 111, 112, 101], ByteArray.mk #[115, 116, 111, 99, 107]]
def u17_0 (x0 : List Int × Int × Int × Unit) : List Int × Int × Int × Unit := u37_0 x0 [ByteArray.mk #[98, 114, 97, 107, 101], ByteArray.mk #[114, 111, 112, 101], ByteArray.mk #[115, 116, 111, 99, 107]]
theorem at17 (x0 : List Int × Int × Int × Unit) (h : P17 x0) (K : Ctx) (q : Nat → Value) : AtV Tryz.prog 17 (PostR kds17 oks17 [⟨Ty.str, g17_0 x0⟩] [some ⟨Ty.cons (Ty.sl (Ty.int IntKind.u8)) (Ty.cons (Ty.int IntKind.i64) (Ty.cons (Ty.int IntKind.u64) Ty.unit)), [u17_0 x0]⟩] [0] q K) 6 K q [0] [.code b17] (entE 0 0 sig17 (x0, ())) (entL sig17 (x0, ())) := by
  unfold P17 at h
  unfold g17_0 u17_0
  obtain ⟨s0, h⟩ := h
  exact AtV.weak (AtV.ret (us := [Option.some (Lst.mk (Ty.cons (Ty.sl (Ty.int IntKind.u8)) (Ty.cons (Ty.int IntKind.i64) (Ty.cons (Ty.int IntKind.u64) Ty.unit))) [u37_0 x0 [ByteArray.mk #[98, 114, 97, 107, 101], ByteArray.mk #[114, 111, 112, 101], ByteArray.mk #[115, 116, 111, 99, 107]]])]) Tryz.func17 tabOk ext17Ok mixed false [] tys17 [] (a1 s0 trivial) (by kernel_rfl)) ⟨.inl rfl, trivial⟩

def S17 : Am.Spec := { sig := sig17, pre := fun ⟨x0, _⟩ => P17 x0, upd := fun ⟨x0, _⟩ => [some ⟨Ty.cons (Ty.sl (Ty.int IntKind.u8)) (Ty.cons (Ty.int IntKind.i64) (Ty.cons (Ty.int IntKind.u64) Ty.unit)), [u17_0 x0]⟩], res := fun ⟨x0, _⟩ => [⟨Ty.str, g17_0 x0⟩], kds := kds17 }
theorem con17 : Contract Tryz.prog 17 S17 := contract_of Tryz.func17 hb17 (Nat.le_of_ble_eq_true (by kernel_rfl)) (fun ⟨x0, _⟩ h _ K q => at17 x0 h K q)


end
end Go.Proofs.YtpellcnihifdaaaGreatDoor

/- Function 35 (spec.l28DrawOne): its runs between cut points. Written by a program of this repo (gen). -/
set_option linter.unusedVariables false
set_option linter.unusedSimpArgs false
set_option maxRecDepth 100000
namespace Go.Proofs.YtpellcnihifdaaaGreatDoor
open Go Go.Am Go.Proofs
noncomputable section
def ext35 : Ext := [(17, S17), (33, S33), (36, S36), (37, S37)]
theorem call35_17 : Callable Tryz.prog 17 := ⟨Tryz.f17, Tryz.func17, by kernel_rfl, by kernel_rfl⟩
theorem call35_33 : Callable Tryz.prog 33 := ⟨Tryz.f33, Tryz.func33, by kernel_rfl, by kernel_rfl⟩
theorem call35_36 : Callable Tryz.prog 36 := ⟨Tryz.f36, Tryz.func36, by kernel_rfl, by kernel_rfl⟩
theorem call35_37 : Callable Tryz.prog 37 := ⟨Tryz.f37, Tryz.func37, by kernel_rfl, by kernel_rfl⟩
theorem ext35Ok : ExtOk Tryz.prog ext35 := ⟨⟨call35_17, con17⟩, ⟨call35_33, con33⟩, ⟨call35_36, con36⟩, ⟨call35_37, con37⟩, trivial⟩

noncomputable def b35 : Code := bodyOf Tryz.f35
theorem hb35 : Tryz.f35.body = some b35 := by kernel_rfl
def sig35 : List AT := [AT.pb (Ty.cons (Ty.sl (Ty.int IntKind.u8)) (Ty.cons (Ty.int IntKind.i64) (Ty.cons (Ty.int IntKind.u64) Ty.unit))), AT.v (Ty.sl (Ty.cons Ty.str (Ty.cons (Ty.sl Ty.str) Ty.unit)))]
def tys35 : List Ty := [Ty.cons Ty.str (Ty.cons Ty.str (Ty.cons (Ty.int IntKind.i64) Ty.unit))]
def kds35 : List RK := []
def oks35 : List AT := owns sig35
def P35 (x0 : List Int × Int × Int × Unit) (x1 : List (ByteArray × List ByteArray × Unit)) : Prop := ((P17 x0) ∧ ((P33 (u17_0 x0) 3) ∧ ((InR IntKind.i64 (1 + g33_0 (u17_0 x0) 3)) ∧ (if (Decidable.decide ((↑(List.length x1) : Int) > 0)) = true then ((P33 (u33_0 (u17_0 x0) 3) (↑(List.length x1) : Int)) ∧ ((0 ≤ g33_0 (u33_0 (u17_0 x0) 3) (↑(List.length x1) : Int)) ∧ (g33_0 (u33_0 (u17_0 x0) 3) (↑(List.length x1) : Int) < (↑(List.length x1) : Int)) ∧ ((P33 (u33_0 (u33_0 (u17_0 x0) 3) (↑(List.length x1) : Int)) 24) ∧ (if (g33_0 (u33_0 (u33_0 (u17_0 x0) 3) (↑(List.length x1) : Int)) 24 == 0) = true then ((P36 (u33_0 (u33_0 (u33_0 (u17_0 x0) 3) (↑(List.length x1) : Int)) 24) [0, 4]) ∧ True) else (if (g33_0 (u33_0 (u33_0 (u17_0 x0) 3) (↑(List.length x1) : Int)) 24 == 1) = true then ((P37 (u33_0 (u33_0 (u33_0 (u17_0 x0) 3) (↑(List.length x1) : Int)) 24) [ByteArray.mk #[122, 122], ByteArray.mk #[]]) ∧ True) else (if (g33_0 (u33_0 (u33_0 (u17_0 x0) 3) (↑(List.length x1) : Int)) 24 == 2) = true then ((P37 (u33_0 (u33_0 (u33_0 (u17_0 x0) 3) (↑(List.length x1) : Int)) 24) [ByteArray.mk #[], ByteArray.mk #[66]]) ∧ True) else True)))))) else ((P33 (u33_0 (u17_0 x0) 3) 24) ∧ (if (g33_0 (u33_0 (u17_0 x0) 3) 24 == 0) = true then ((P36 (u33_0 (u33_0 (u17_0 x0) 3) 24) [0, 4]) ∧ True) else (if (g33_0 (u33_0 (u17_0 x0) 3) 24 == 1) = true then ((P37 (u33_0 (u33_0 (u17_0 x0) 3) 24) [ByteArray.mk #[122, 122], ByteArray.mk #[]]) ∧ True) else (if (g33_0 (u33_0 (u17_0 x0) 3) 24 == 2) = true then ((P37 (u33_0 (u33_0 (u17_0 x0) 3) 24) [ByteArray.mk #[], ByteArray.mk #[66]]) ∧ True) else True))))))))
def g35_0 (x0 : List Int × Int × Int × Unit) (x1 : List (ByteArray × List ByteArray × Unit)) : ByteArray × ByteArray × Int × Unit := (if (Decidable.decide ((↑(List.length x1) : Int) > 0)) = true then (if (g33_0 (u33_0 (u33_0 (u17_0 x0) 3) (↑(List.length x1) : Int)) 24 == 0) = true then (Prod.fst (List.getD x1 (Int.toNat (g33_0 (u33_0 (u17_0 x0) 3) (↑(List.length x1) : Int))) (ByteArray.empty, [], ())), g17_0 x0, g36_0 (u33_0 (u33_0 (u33_0 (u17_0 x0) 3) (↑(List.length x1) : Int)) 24) [0, 4], ()) else (if (g33_0 (u33_0 (u33_0 (u17_0 x0) 3) (↑(List.length x1) : Int)) 24 == 1) = true then (g37_0 (u33_0 (u33_0 (u33_0 (u17_0 x0) 3) (↑(List.length x1) : Int)) 24) [ByteArray.mk #[122, 122], ByteArray.mk #[]], g17_0 x0, 1 + g33_0 (u17_0 x0) 3, ()) else (if (g33_0 (u33_0 (u33_0 (u17_0 x0) 3) (↑(List.length x1) : Int)) 24 == 2) = true then (Prod.fst (List.getD x1 (Int.toNat (g33_0 (u33_0 (u17_0 x0) 3) (↑(List.length x1) : Int))) (ByteArray.empty, [], ())), g37_0 (u33_0 (u33_0 (u33_0 (u17_0 x0) 3) (↑(List.length x1) : Int)) 24) [ByteArray.mk #[], ByteArray.mk #[66]], 1 + g33_0 (u17_0 x0) 3, ()) else (Prod.fst (List.getD x1 (Int.toNat (g33_0 (u33_0 (u17_0 x0) 3) (↑(List.length x1) : Int))) (ByteArray.empty, [], ())), g17_0 x0, 1 + g33_0 (u17_0 x0) 3, ())))) else (if (g33_0 (u33_0 (u17_0 x0) 3) 24 == 0) = true then (ByteArray.mk #[100, 114, 105, 118, 101, 114], g17_0 x0, g36_0 (u33_0 (u33_0 (u17_0 x0) 3) 24) [0, 4], ()) else (if (g33_0 (u33_0 (u17_0 x0) 3) 24 == 1) = true then (g37_0 (u33_0 (u33_0 (u17_0 x0) 3) 24) [ByteArray.mk #[122, 122], ByteArray.mk #[]], g17_0 x0, 1 + g33_0 (u17_0 x0) 3, ()) else (if (g33_0 (u33_0 (u17_0 x0) 3) 24 == 2) = true then (ByteArray.mk #[100, 114, 105, 118, 101, 114], g37_0 (u33_0 (u33_0 (u17_0 x0) 3) 24) [ByteArray.mk #[], ByteArray.mk #[66]], 1 + g33_0 (u17_0 x0) 3, ()) else (ByteArray.mk #[100, 114, 105, 118, 101, 114], g17_0 x0, 1 + g33_0 (u17_0 x0) 3, ())))))
def u35_0 (x0 : List Int × Int × Int × Unit) (x1 : List (ByteArray × List ByteArray × Unit)) : List Int × Int × Int × Unit := (if (Decidable.decide ((↑(List.length x1) : Int) > 0)) = true then (if (g33_0 (u33_0 (u33_0 (u17_0 x0) 3) (↑(List.length x1) : Int)) 24 == 0) = true then u36_0 (u33_0 (u33_0 (u33_0 (u17_0 x0) 3) (↑(List.length x1) : Int)) 24) [0, 4] else (if (g33_0 (u33_0 (u33_0 (u17_0 x0) 3) (↑(List.length x1) : Int)) 24 == 1) = true then u37_0 (u33_0 (u33_0 (u33_0 (u17_0 x0) 3) (↑(List.length x1) : Int)) 24) [ByteArray.mk #[122, 122], ByteArray.mk #[]] else (if (g33_0 (u33_0 (u33_0 (u17_0 x0) 3) (↑(List.length x1) : Int)) 24 == 2) = true then u37_0 (u33_0 (u33_0 (u33_0 (u17_0 x0) 3) (↑(List.length x1) : Int)) 24) [ByteArray.mk #[], ByteArray.mk #[66]] else u33_0 (u33_0 (u33_0 (u17_0 x0) 3) (↑(List.length x1) : Int)) 24))) else (if (g33_0 (u33_0 (u17_0 x0) 3) 24 == 0) = true then u36_0 (u33_0 (u33_0 (u17_0 x0) 3) 24) [0, 4] else (if (g33_0 (u33_0 (u17_0 x0) 3) 24 == 1) = true then u37_0 (u33_0 (u33_0 (u17_0 x0) 3) 24) [ByteArray.mk #[122, 122], ByteArray.mk #[]] else (if (g33_0 (u33_0 (u17_0 x0) 3) 24 == 2) = true then u37_0 (u33_0 (u33_0 (u17_0 x0) 3) 24) [ByteArray.mk #[], ByteArray.mk #[66]] else u33_0 (u33_0 (u17_0 x0) 3) 24))))
theorem at35 (x0 : List Int × Int × Int × Unit) (x1 : List (ByteArray × List ByteArray × Unit)) (h : P35 x0 x1) (K : Ctx) (q : Nat → Value) : AtV Tryz.prog 35 (PostR kds35 oks35 [⟨Ty.cons Ty.str (Ty.cons Ty.str (Ty.cons (Ty.int IntKind.i64) Ty.unit)), g35_0 x0 x1⟩] [some ⟨Ty.cons (Ty.sl (Ty.int IntKind.u8)) (Ty.cons (Ty.int IntKind.i64) (Ty.cons (Ty.int IntKind.u64) Ty.unit)), [u35_0 x0 x1]⟩] [0] q K) 45 K q [0] [.code b35] (entE 0 0 sig35 (x0, x1, ())) (entL sig35 (x0, x1, ())) := by
  unfold P35 at h
  unfold g35_0 u35_0
  obtain ⟨s0, h⟩ := h
  obtain ⟨s1, h⟩ := h
  obtain ⟨s2, h⟩ := h
  by_cases b0 : (Decidable.decide ((↑(List.length x1) : Int) > 0)) = true
  · try simp only [if_pos b0] at h ⊢
    obtain ⟨s3, h⟩ := h
    obtain ⟨s4, s5, h⟩ := h
    obtain ⟨s6, h⟩ := h
    by_cases b1 : (g33_0 (u33_0 (u33_0 (u17_0 x0) 3) (↑(List.length x1) : Int)) 24 == 0) = true
    · try simp only [if_pos b1] at h ⊢
      obtain ⟨s7, h⟩ := h
      exact AtV.weak (AtV.ret (us := [Option.some (Lst.mk (Ty.cons (Ty.sl (Ty.int IntKind.u8)) (Ty.cons (Ty.int IntKind.i64) (Ty.cons (Ty.int IntKind.u64) Ty.unit))) [u36_0 (u33_0 (u33_0 (u33_0 (u17_0 x0) 3) (↑(List.length x1) : Int)) 24) [0, 4]])]) Tryz.func35 tabOk ext35Ok mixed false [] tys35 [true, true] (a1 s0 (a1 s1 (a1 s2 (a1 b0 (a1 s3 (a1 s4 (a1 s5 (a1 s6 (a1 b1 (a1 s7 trivial)))))))))) (by kernel_rfl)) ⟨.inl rfl, trivial⟩
    · try simp only [if_neg b1] at h ⊢
      replace b1 := Bool.eq_false_iff.2 b1
      by_cases b2 : (g33_0 (u33_0 (u33_0 (u17_0 x0) 3) (↑(List.length x1) : Int)) 24 == 1) = true
      · try simp only [if_pos b2] at h ⊢
        obtain ⟨s7, h⟩ := h
        exact AtV.weak (AtV.ret (us := [Option.some (Lst.mk (Ty.cons (Ty.sl (Ty.int IntKind.u8)) (Ty.cons (Ty.int IntKind.i64) (Ty.cons (Ty.int IntKind.u64) Ty.unit))) [u37_0 (u33_0 (u33_0 (u33_0 (u17_0 x0) 3) (↑(List.length x1) : Int)) 24) [ByteArray.mk #[122, 122], ByteArray.mk #[]]])]) Tryz.func35 tabOk ext35Ok mixed false [] tys35 [true, false, true] (a1 s0 (a1 s1 (a1 s2 (a1 b0 (a1 s3 (a1 s4 (a1 s5 (a1 s6 (a1 b1 (a1 b2 (a1 s7 trivial))))))))))) (by kernel_rfl)) ⟨.inl rfl, trivial⟩
      · try simp only [if_neg b2] at h ⊢
        replace b2 := Bool.eq_false_iff.2 b2
        by_cases b3 : (g33_0 (u33_0 (u33_0 (u17_0 x0) 3) (↑(List.length x1) : Int)) 24 == 2) = true
        · try simp only [if_pos b3] at h ⊢
          obtain ⟨s7, h⟩ := h
          exact AtV.weak (AtV.ret (us := [Option.some (Lst.mk (Ty.cons (Ty.sl (Ty.int IntKind.u8)) (Ty.cons (Ty.int IntKind.i64) (Ty.cons (Ty.int IntKind.u64) Ty.unit))) [u37_0 (u33_0 (u33_0 (u33_0 (u17_0 x0) 3) (↑(List.length x1) : Int)) 24) [ByteArray.mk #[], ByteArray.mk #[66]]])]) Tryz.func35 tabOk ext35Ok mixed false [] tys35 [true, false, false, true] (a1 s0 (a1 s1 (a1 s2 (a1 b0 (a1 s3 (a1 s4 (a1 s5 (a1 s6 (a1 b1 (a1 b2 (a1 b3 (a1 s7 trivial)))))))))))) (by kernel_rfl)) ⟨.inl rfl, trivial⟩
        · try simp only [if_neg b3] at h ⊢
          replace b3 := Bool.eq_false_iff.2 b3
          exact AtV.weak (AtV.ret (us := [Option.some (Lst.mk (Ty.cons (Ty.sl (Ty.int IntKind.u8)) (Ty.cons (Ty.int IntKind.i64) (Ty.cons (Ty.int IntKind.u64) Ty.unit))) [u33_0 (u33_0 (u33_0 (u17_0 x0) 3) (↑(List.length x1) : Int)) 24])]) Tryz.func35 tabOk ext35Ok mixed false [] tys35 [true, false, false, false] (a1 s0 (a1 s1 (a1 s2 (a1 b0 (a1 s3 (a1 s4 (a1 s5 (a1 s6 (a1 b1 (a1 b2 (a1 b3 trivial))))))))))) (by kernel_rfl)) ⟨.inl rfl, trivial⟩
  · try simp only [if_neg b0] at h ⊢
    replace b0 := Bool.eq_false_iff.2 b0
    obtain ⟨s3, h⟩ := h
    by_cases b1 : (g33_0 (u33_0 (u17_0 x0) 3) 24 == 0) = true
    · try simp only [if_pos b1] at h ⊢
      obtain ⟨s4, h⟩ := h
      exact AtV.weak (AtV.ret (us := [Option.some (Lst.mk (Ty.cons (Ty.sl (Ty.int IntKind.u8)) (Ty.cons (Ty.int IntKind.i64) (Ty.cons (Ty.int IntKind.u64) Ty.unit))) [u36_0 (u33_0 (u33_0 (u17_0 x0) 3) 24) [0, 4]])]) Tryz.func35 tabOk ext35Ok mixed false [] tys35 [false, true] (a1 s0 (a1 s1 (a1 s2 (a1 b0 (a1 s3 (a1 b1 (a1 s4 trivial))))))) (by kernel_rfl)) ⟨.inl rfl, trivial⟩
    · try simp only [if_neg b1] at h ⊢
      replace b1 := Bool.eq_false_iff.2 b1
      by_cases b2 : (g33_0 (u33_0 (u17_0 x0) 3) 24 == 1) = true
      · try simp only [if_pos b2] at h ⊢
        obtain ⟨s4, h⟩ := h
        exact AtV.weak (AtV.ret (us := [Option.some (Lst.mk (Ty.cons (Ty.sl (Ty.int IntKind.u8)) (Ty.cons (Ty.int IntKind.i64) (Ty.cons (Ty.int IntKind.u64) Ty.unit))) [u37_0 (u33_0 (u33_0 (u17_0 x0) 3) 24) [ByteArray.mk #[122, 122], ByteArray.mk #[]]])]) Tryz.func35 tabOk ext35Ok mixed false [] tys35 [false, false, true] (a1 s0 (a1 s1 (a1 s2 (a1 b0 (a1 s3 (a1 b1 (a1 b2 (a1 s4 trivial)))))))) (by kernel_rfl)) ⟨.inl rfl, trivial⟩
      · try simp only [if_neg b2] at h ⊢
        replace b2 := Bool.eq_false_iff.2 b2
        by_cases b3 : (g33_0 (u33_0 (u17_0 x0) 3) 24 == 2) = true
        · try simp only [if_pos b3] at h ⊢
          obtain ⟨s4, h⟩ := h
          exact AtV.weak (AtV.ret (us := [Option.some (Lst.mk (Ty.cons (Ty.sl (Ty.int IntKind.u8)) (Ty.cons (Ty.int IntKind.i64) (Ty.cons (Ty.int IntKind.u64) Ty.unit))) [u37_0 (u33_0 (u33_0 (u17_0 x0) 3) 24) [ByteArray.mk #[], ByteArray.mk #[66]]])]) Tryz.func35 tabOk ext35Ok mixed false [] tys35 [false, false, false, true] (a1 s0 (a1 s1 (a1 s2 (a1 b0 (a1 s3 (a1 b1 (a1 b2 (a1 b3 (a1 s4 trivial))))))))) (by kernel_rfl)) ⟨.inl rfl, trivial⟩
        · try simp only [if_neg b3] at h ⊢
          replace b3 := Bool.eq_false_iff.2 b3
          exact AtV.weak (AtV.ret (us := [Option.some (Lst.mk (Ty.cons (Ty.sl (Ty.int IntKind.u8)) (Ty.cons (Ty.int IntKind.i64) (Ty.cons (Ty.int IntKind.u64) Ty.unit))) [u33_0 (u33_0 (u17_0 x0) 3) 24])]) Tryz.func35 tabOk ext35Ok mixed false [] tys35 [false, false, false, false] (a1 s0 (a1 s1 (a1 s2 (a1 b0 (a1 s3 (a1 b1 (a1 b2 (a1 b3 trivial)))))))) (by kernel_rfl)) ⟨.inl rfl, trivial⟩

def S35 : Am.Spec := { sig := sig35, pre := fun ⟨x0, x1, _⟩ => P35 x0 x1, upd := fun ⟨x0, x1, _⟩ => [some ⟨Ty.cons (Ty.sl (Ty.int IntKind.u8)) (Ty.cons (Ty.int IntKind.i64) (Ty.cons (Ty.int IntKind.u64) Ty.unit)), [u35_0 x0 x1]⟩], res := fun ⟨x0, x1, _⟩ => [⟨Ty.cons Ty.str (Ty.cons Ty.str (Ty.cons (Ty.int IntKind.i64) Ty.unit)), g35_0 x0 x1⟩], kds := kds35 }
theorem con35 : Contract Tryz.prog 35 S35 := contract_of Tryz.func35 hb35 (Nat.le_of_ble_eq_true (by kernel_rfl)) (fun ⟨x0, x1, _⟩ h _ K q => at35 x0 x1 h K q)


end
end Go.Proofs.YtpellcnihifdaaaGreatDoor

/- Function 92 (spec.l01Small): its runs between cut points. Written by a program of this repo (gen). -/
set_option linter.unusedVariables false
set_option linter.unusedSimpArgs false
set_option maxRecDepth 100000
namespace Go.Proofs.YtpellcnihifdaaaGreatDoor
open Go Go.Am Go.Proofs
noncomputable section
def ext92 : Ext := []
theorem ext92Ok : ExtOk Tryz.prog ext92 := trivial

noncomputable def b92 : Code := bodyOf Tryz.f92
theorem hb92 : Tryz.f92.body = some b92 := by kernel_rfl
def sig92 : List AT := [AT.v (Ty.int IntKind.u8)]
def tys92 : List Ty := [Ty.bool]
def kds92 : List RK := []
def oks92 : List AT := owns sig92
def P92 (x0 : Int) : Prop := True
def g92_0 (x0 : Int) : Bool := (if (Decidable.decide (x0 ≥ 97)) = true then Decidable.decide (x0 ≤ 122) else Bool.false)
theorem at92 (x0 : Int) (h : P92 x0) (K : Ctx) (q : Nat → Value) : AtV Tryz.prog 92 (PostR kds92 oks92 [⟨Ty.bool, g92_0 x0⟩] [] [] q K) 9 K q [] [.code b92] (entE 0 0 sig92 (x0, ())) (entL sig92 (x0, ())) := by
  unfold P92 at h
  unfold g92_0
  by_cases b0 : (Decidable.decide (x0 ≥ 97)) = true
  · try simp only [if_pos b0] at h ⊢
    exact AtV.ret Tryz.func92 tabOk ext92Ok mixed false [] tys92 [true] (a1 b0 trivial) (by kernel_rfl)
  · try simp only [if_neg b0] at h ⊢
    replace b0 := Bool.eq_false_iff.2 b0
    exact AtV.ret Tryz.func92 tabOk ext92Ok mixed false [] tys92 [false] (a1 b0 trivial) (by kernel_rfl)

def S92 : Am.Spec := { sig := sig92, pre := fun ⟨x0, _⟩ => P92 x0, res := fun ⟨x0, _⟩ => [⟨Ty.bool, g92_0 x0⟩], kds := kds92 }
theorem con92 : Contract Tryz.prog 92 S92 := contract_of Tryz.func92 hb92 (Nat.le_of_ble_eq_true (by kernel_rfl)) (fun ⟨x0, _⟩ h _ K q => at92 x0 h K q)


end
end Go.Proofs.YtpellcnihifdaaaGreatDoor

/- Function 93 (spec.l01Digit): its runs between cut points. Written by a program of this repo (gen). -/
set_option linter.unusedVariables false
set_option linter.unusedSimpArgs false
set_option maxRecDepth 100000
namespace Go.Proofs.YtpellcnihifdaaaGreatDoor
open Go Go.Am Go.Proofs
noncomputable section
def ext93 : Ext := []
theorem ext93Ok : ExtOk Tryz.prog ext93 := trivial

noncomputable def b93 : Code := bodyOf Tryz.f93
theorem hb93 : Tryz.f93.body = some b93 := by kernel_rfl
def sig93 : List AT := [AT.v (Ty.int IntKind.u8)]
def tys93 : List Ty := [Ty.bool]
def kds93 : List RK := []
def oks93 : List AT := owns sig93
def P93 (x0 : Int) : Prop := True
def g93_0 (x0 : Int) : Bool := (if (Decidable.decide (x0 ≥ 48)) = true then Decidable.decide (x0 ≤ 57) else Bool.false)
theorem at93 (x0 : Int) (h : P93 x0) (K : Ctx) (q : Nat → Value) : AtV Tryz.prog 93 (PostR kds93 oks93 [⟨Ty.bool, g93_0 x0⟩] [] [] q K) 9 K q [] [.code b93] (entE 0 0 sig93 (x0, ())) (entL sig93 (x0, ())) := by
  unfold P93 at h
  unfold g93_0
  by_cases b0 : (Decidable.decide (x0 ≥ 48)) = true
  · try simp only [if_pos b0] at h ⊢
    exact AtV.ret Tryz.func93 tabOk ext93Ok mixed false [] tys93 [true] (a1 b0 trivial) (by kernel_rfl)
  · try simp only [if_neg b0] at h ⊢
    replace b0 := Bool.eq_false_iff.2 b0
    exact AtV.ret Tryz.func93 tabOk ext93Ok mixed false [] tys93 [false] (a1 b0 trivial) (by kernel_rfl)

def S93 : Am.Spec := { sig := sig93, pre := fun ⟨x0, _⟩ => P93 x0, res := fun ⟨x0, _⟩ => [⟨Ty.bool, g93_0 x0⟩], kds := kds93 }
theorem con93 : Contract Tryz.prog 93 S93 := contract_of Tryz.func93 hb93 (Nat.le_of_ble_eq_true (by kernel_rfl)) (fun ⟨x0, _⟩ h _ K q => at93 x0 h K q)


end
end Go.Proofs.YtpellcnihifdaaaGreatDoor

/- Function 72 (spec.l01Name): its runs between cut points. Written by a program of this repo (gen). -/
set_option linter.unusedVariables false
set_option linter.unusedSimpArgs false
set_option maxRecDepth 100000
namespace Go.Proofs.YtpellcnihifdaaaGreatDoor
open Go Go.Am Go.Proofs
noncomputable section
def ext72 : Ext := [(92, S92), (93, S93)]
theorem call72_92 : Callable Tryz.prog 92 := ⟨Tryz.f92, Tryz.func92, by kernel_rfl, by kernel_rfl⟩
theorem call72_93 : Callable Tryz.prog 93 := ⟨Tryz.f93, Tryz.func93, by kernel_rfl, by kernel_rfl⟩
theorem ext72Ok : ExtOk Tryz.prog ext72 := ⟨⟨call72_92, con92⟩, ⟨call72_93, con93⟩, trivial⟩

noncomputable def b72 : Code := bodyOf Tryz.f72
theorem hb72 : Tryz.f72.body = some b72 := by kernel_rfl
def sig72 : List AT := [AT.v (Ty.str)]
def tys72 : List Ty := [Ty.bool]
def kds72 : List RK := []
def oks72 : List AT := owns sig72
def E72_4 (v3 : Int) (x0 : ByteArray) : Env := [(0, PV.a (Atom.val (Value.string x0))), (3, PV.a (Atom.val (Value.int IntKind.i64 v3)))]
def L72_4 (v3 : Int) (x0 : ByteArray) : Heap := []
mutual
def R72 : Nat → ByteArray → List Dyn → Prop
  | 0, _, _ => False
  | n + 1, x0, ds => (if (ByteArray.toList x0 == ByteArray.toList (ByteArray.mk #[])) = true then (ds = [Dyn.mk Ty.bool Bool.false]) else (if (Decidable.decide ((↑(ByteArray.size x0) : Int) > 10)) = true then (ds = [Dyn.mk Ty.bool Bool.false]) else ((0 < (↑(ByteArray.size x0) : Int)) ∧ (if (!g92_0 (↑(UInt8.toNat (List.getD (Array.toList (ByteArray.data x0)) 0 0)) : Int)) = true then (ds = [Dyn.mk Ty.bool Bool.false]) else (R72_4 n (0) (x0) ds)))))
def R72_4 : Nat → Int → ByteArray → List Dyn → Prop
  | 0, _, _, _ => False
  | n + 1, v3, x0, ds => (if (Decidable.decide (v3 < (↑(ByteArray.size x0) : Int))) = true then ((0 ≤ v3) ∧ (v3 < (↑(ByteArray.size x0) : Int)) ∧ (if (!g92_0 (↑(UInt8.toNat (List.getD (Array.toList (ByteArray.data x0)) (Int.toNat v3) 0)) : Int)) = true then ((0 ≤ v3) ∧ (v3 < (↑(ByteArray.size x0) : Int)) ∧ (if (!g93_0 (↑(UInt8.toNat (List.getD (Array.toList (ByteArray.data x0)) (Int.toNat v3) 0)) : Int)) = true then (ds = [Dyn.mk Ty.bool Bool.false]) else ((InR IntKind.i64 (v3 + 1)) ∧ (R72_4 n (v3 + 1) (x0) ds)))) else ((InR IntKind.i64 (v3 + 1)) ∧ (R72_4 n (v3 + 1) (x0) ds)))) else (ds = [Dyn.mk Ty.bool Bool.true]))
end
theorem snd72 : ∀ n, (∀ (x0 : ByteArray) ds, R72 n x0 ds → ∀ K q, AtV Tryz.prog 72 (PostR kds72 oks72 ds [] [] q K) 35 K q [] [.code b72] (entE 0 0 sig72 (x0, ())) (entL sig72 (x0, ()))) ∧ (∀ (v3 : Int) (x0 : ByteArray) ds, R72_4 n v3 x0 ds → ∀ K q, AtV Tryz.prog 72 (PostR kds72 oks72 ds [] [] q K) 35 K q [] (cutAt b72 4) (E72_4 v3 x0) (L72_4 v3 x0)) := by
  intro n
  induction n with
  | zero => exact ⟨fun _ _ h => by simp only [R72] at h, fun _ _ _ h => by simp only [R72_4] at h⟩
  | succ n ih =>
  obtain ⟨ih, ih4⟩ := ih
  refine ⟨?_, ?_⟩
  · intro x0 ds h K q
    rw [R72] at h
    by_cases b0 : (ByteArray.toList x0 == ByteArray.toList (ByteArray.mk #[])) = true
    · rw [if_pos b0] at h
      subst h
      exact AtV.ret Tryz.func72 tabOk ext72Ok mixed false [] tys72 [true, true, true] (a1 b0 (a1 (rfl : Bool.true = Bool.true) (a1 (rfl : Bool.true = Bool.true) trivial))) (by kernel_rfl)
    · rw [if_neg b0] at h
      replace b0 := Bool.eq_false_iff.2 b0
      by_cases b1 : (Decidable.decide ((↑(ByteArray.size x0) : Int) > 10)) = true
      · rw [if_pos b1] at h
        subst h
        exact AtV.ret Tryz.func72 tabOk ext72Ok mixed false [] tys72 [false, true, true] (a1 b0 (a1 b1 (a1 (rfl : Bool.true = Bool.true) trivial))) (by kernel_rfl)
      · rw [if_neg b1] at h
        replace b1 := Bool.eq_false_iff.2 b1
        obtain ⟨s0, h⟩ := h
        by_cases b2 : (!g92_0 (↑(UInt8.toNat (List.getD (Array.toList (ByteArray.data x0)) 0 0)) : Int)) = true
        · rw [if_pos b2] at h
          subst h
          exact AtV.ret Tryz.func72 tabOk ext72Ok mixed false [] tys72 [false, false, true] (a1 b0 (a1 b1 (a1 ((by decide) : (0 : Int) ≤ (0 : Int)) (a1 s0 (a1 trivial (a1 b2 trivial)))))) (by kernel_rfl)
        · rw [if_neg b2] at h
          replace b2 := Bool.eq_false_iff.2 b2
          exact AtV.go tabOk ext72Ok mixed false [] [] [0, 3] [] [false, false, false] (a1 b0 (a1 b1 (a1 ((by decide) : (0 : Int) ≤ (0 : Int)) (a1 s0 (a1 trivial (a1 b2 trivial)))))) (ih4 _ _ _ h K q) (by kernel_rfl)

  · intro v3 x0 ds h K q
    rw [R72_4] at h
    by_cases b0 : (Decidable.decide (v3 < (↑(ByteArray.size x0) : Int))) = true
    · rw [if_pos b0] at h
      obtain ⟨s0, s1, h⟩ := h
      by_cases b1 : (!g92_0 (↑(UInt8.toNat (List.getD (Array.toList (ByteArray.data x0)) (Int.toNat v3) 0)) : Int)) = true
      · rw [if_pos b1] at h
        obtain ⟨s2, s3, h⟩ := h
        by_cases b2 : (!g93_0 (↑(UInt8.toNat (List.getD (Array.toList (ByteArray.data x0)) (Int.toNat v3) 0)) : Int)) = true
        · rw [if_pos b2] at h
          subst h
          exact AtV.ret Tryz.func72 tabOk ext72Ok mixed false [] tys72 [true, true, true] (a1 b0 (a1 s0 (a1 s1 (a1 trivial (a1 b1 (a1 s2 (a1 s3 (a1 trivial (a1 b2 trivial))))))))) (by kernel_rfl)
        · rw [if_neg b2] at h
          replace b2 := Bool.eq_false_iff.2 b2
          obtain ⟨s4, h⟩ := h
          exact AtV.go tabOk ext72Ok mixed false [] [] [0, 3] [] [true, true, false] (a1 b0 (a1 s0 (a1 s1 (a1 trivial (a1 b1 (a1 s2 (a1 s3 (a1 trivial (a1 b2 (a1 s4 trivial)))))))))) (ih4 _ _ _ h K q) (by kernel_rfl)
      · rw [if_neg b1] at h
        replace b1 := Bool.eq_false_iff.2 b1
        obtain ⟨s2, h⟩ := h
        exact AtV.go tabOk ext72Ok mixed false [] [] [0, 3] [] [true, false, false] (a1 b0 (a1 s0 (a1 s1 (a1 trivial (a1 b1 (a1 (rfl : Bool.false = Bool.false) (a1 s2 trivial))))))) (ih4 _ _ _ h K q) (by kernel_rfl)
    · rw [if_neg b0] at h
      replace b0 := Bool.eq_false_iff.2 b0
      subst h
      exact AtV.ret Tryz.func72 tabOk ext72Ok mixed false [] tys72 [false] (a1 b0 trivial) (by kernel_rfl)



def g72_0 (x0 : ByteArray) : Bool := decide (1 ≤ x0.size) && decide (x0.size ≤ 10) && g92_0 ((bytesOf x0).getD 0 0) && (bytesOf x0).all fun b => g92_0 b || g93_0 b
def P72 (x0 : ByteArray) : Prop := True

theorem top72 (x0 : ByteArray) (hw : Wf .str x0) : R72 (x0.size + 1 + 1) x0 [⟨.bool, g72_0 x0⟩] := by
  have hl := bytesOf_length x0
  rw [R72]
  by_cases h0 : x0 = ByteArray.mk #[]
  · rw [if_pos ((bytes_eq _ _).2 h0)]
    subst h0
    rfl
  · rw [if_neg (fun h => h0 ((bytes_eq _ _).1 h))]
    have hs : 1 ≤ x0.size := by
      rcases Nat.lt_or_ge 0 x0.size with h | h
      · exact h
      · exact absurd (bytesOf_inj (s := x0) (t := ByteArray.mk #[]) (List.eq_nil_of_length_eq_zero (by rw [hl]; omega))) h0
    by_cases h1 : (x0.size : Int) > 10
    · rw [if_pos (by simpa using h1)]
      have : ¬ x0.size ≤ 10 := by omega
      simp [g72_0, this]
    · rw [if_neg (by simpa using h1)]
      refine ⟨by omega, ?_⟩
      rw [byte_get]
      cases h2 : g92_0 ((bytesOf x0).getD 0 0) with
      | false =>
        rw [if_pos (by simp)]
        simp [g72_0, h2, -List.getD_eq_getElem?_getD]
      | true =>
        rw [if_neg (by simp)]
        have key := loop_test (bytesOf x0) 0 (fun b => g92_0 b || g93_0 b) [(⟨.bool, false⟩ : Dyn)] [⟨.bool, true⟩] (fun n i ds => R72_4 n i x0 ds) (fun n => ?_) (fun n i hi hok ds hr => ?_) (fun n i hi hok => ?_)
        · rw [hl] at key
          have e : g72_0 x0 = (bytesOf x0).all fun b => g92_0 b || g93_0 b := by
            have : x0.size ≤ 10 := by omega
            unfold g72_0
            simp only [hs, this, decide_true, Bool.true_and, h2]
          rw [e]
          cases h : (bytesOf x0).all fun b => g92_0 b || g93_0 b with
          | true => rw [if_pos h] at key; exact key
          | false => rw [if_neg (by rw [h]; simp)] at key; exact key
        · show R72_4 (n + 1) ((bytesOf x0).length : Int) x0 _
          rw [R72_4, hl, if_neg (by simp)]
        · rw [R72_4, if_pos (by simp; omega)]
          simp only [Int.toNat_natCast, byte_get]
          generalize (bytesOf x0).getD i 0 = c at *
          refine ⟨by omega, by omega, ?_⟩
          have hu := inR_up (xs := bytesOf x0) (by rw [hl]; exact hw) hi
          cases h3 : g92_0 c with
          | true => rw [if_neg (by simp)]; exact ⟨hu, hr⟩
          | false =>
            rw [if_pos (by simp)]
            rw [h3, Bool.false_or] at hok
            refine ⟨by omega, by omega, ?_⟩
            rw [if_neg (by rw [hok]; simp)]
            exact ⟨hu, hr⟩
        · simp only [Bool.or_eq_false_iff] at hok
          rw [R72_4, if_pos (by simp; omega)]
          simp only [Int.toNat_natCast, byte_get]
          refine ⟨by omega, by omega, ?_⟩
          rw [if_pos (by rw [hok.1]; rfl)]
          refine ⟨by omega, by omega, ?_⟩
          rw [if_pos (by rw [hok.2]; rfl)] <;> trivial

def S72 : Am.Spec := { sig := sig72, pre := fun ⟨x0, _⟩ => P72 x0, res := fun ⟨x0, _⟩ => [⟨Ty.bool, g72_0 x0⟩] }
theorem con72 : Contract Tryz.prog 72 S72 := contract_of Tryz.func72 hb72 (Nat.le_of_ble_eq_true (by kernel_rfl)) (fun ⟨x0, _⟩ h hwf K q =>
  (snd72 _).1 x0 _ (top72 x0 hwf.1) K q)

end
end Go.Proofs.YtpellcnihifdaaaGreatDoor

/- Function 71 (spec.l28Find): its runs between cut points. Written by a program of this repo (gen). -/
set_option linter.unusedVariables false
set_option linter.unusedSimpArgs false
set_option maxRecDepth 100000
namespace Go.Proofs.YtpellcnihifdaaaGreatDoor
open Go Go.Am Go.Proofs
noncomputable section
def ext71 : Ext := []
theorem ext71Ok : ExtOk Tryz.prog ext71 := trivial

noncomputable def b71 : Code := bodyOf Tryz.f71
theorem hb71 : Tryz.f71.body = some b71 := by kernel_rfl
def sig71 : List AT := [AT.v (Ty.sl (Ty.cons Ty.str (Ty.cons (Ty.sl Ty.str) Ty.unit))), AT.v (Ty.str)]
def tys71 : List Ty := [Ty.int IntKind.i64]
def kds71 : List RK := []
def oks71 : List AT := owns sig71
def E71_2 (v5 : Int) (x0 : List (ByteArray × List ByteArray × Unit)) (x1 : ByteArray) : Env := [(0, PV.a (Atom.sl (Ty.cons Ty.str (Ty.cons (Ty.sl Ty.str) Ty.unit)) x0)), (1, PV.a (Atom.val (Value.string x1))), (5, PV.a (Atom.val (Value.int IntKind.i64 v5)))]
def L71_2 (v5 : Int) (x0 : List (ByteArray × List ByteArray × Unit)) (x1 : ByteArray) : Heap := []
mutual
def R71 : Nat → List (ByteArray × List ByteArray × Unit) → ByteArray → List Dyn → Prop
  | 0, _, _, _ => False
  | n + 1, x0, x1, ds => (R71_2 n (0) (x0) (x1) ds)
def R71_2 : Nat → Int → List (ByteArray × List ByteArray × Unit) → ByteArray → List Dyn → Prop
  | 0, _, _, _, _ => False
  | n + 1, v5, x0, x1, ds => (if (Decidable.decide (v5 < (↑(List.length x0) : Int))) = true then ((0 ≤ v5) ∧ (v5 < (↑(List.length x0) : Int)) ∧ (if (ByteArray.toList (Prod.fst (List.getD x0 (Int.toNat v5) (ByteArray.empty, [], ()))) == ByteArray.toList x1) = true then (ds = [Dyn.mk (Ty.int IntKind.i64) v5]) else ((InR IntKind.i64 (v5 + 1)) ∧ (R71_2 n (v5 + 1) (x0) (x1) ds)))) else (ds = [Dyn.mk (Ty.int IntKind.i64) (-1)]))
end
theorem snd71 : ∀ n, (∀ (x0 : List (ByteArray × List ByteArray × Unit)) (x1 : ByteArray) ds, R71 n x0 x1 ds → ∀ K q, AtV Tryz.prog 71 (PostR kds71 oks71 ds [] [] q K) 20 K q [] [.code b71] (entE 0 0 sig71 (x0, x1, ())) (entL sig71 (x0, x1, ()))) ∧ (∀ (v5 : Int) (x0 : List (ByteArray × List ByteArray × Unit)) (x1 : ByteArray) ds, R71_2 n v5 x0 x1 ds → ∀ K q, AtV Tryz.prog 71 (PostR kds71 oks71 ds [] [] q K) 20 K q [] (cutAt b71 2) (E71_2 v5 x0 x1) (L71_2 v5 x0 x1)) := by
  intro n
  induction n with
  | zero => exact ⟨fun _ _ _ h => by simp only [R71] at h, fun _ _ _ _ h => by simp only [R71_2] at h⟩
  | succ n ih =>
  obtain ⟨ih, ih2⟩ := ih
  refine ⟨?_, ?_⟩
  · intro x0 x1 ds h K q
    rw [R71] at h
    exact AtV.go tabOk ext71Ok mixed false [] [] [0, 1, 5] [] [] trivial (ih2 _ _ _ _ h K q) (by kernel_rfl)

  · intro v5 x0 x1 ds h K q
    rw [R71_2] at h
    by_cases b0 : (Decidable.decide (v5 < (↑(List.length x0) : Int))) = true
    · rw [if_pos b0] at h
      obtain ⟨s0, s1, h⟩ := h
      by_cases b1 : (ByteArray.toList (Prod.fst (List.getD x0 (Int.toNat v5) (ByteArray.empty, [], ()))) == ByteArray.toList x1) = true
      · rw [if_pos b1] at h
        subst h
        exact AtV.ret Tryz.func71 tabOk ext71Ok mixed false [] tys71 [true, true] (a1 b0 (a1 s0 (a1 s1 (a1 b1 trivial)))) (by kernel_rfl)
      · rw [if_neg b1] at h
        replace b1 := Bool.eq_false_iff.2 b1
        obtain ⟨s2, h⟩ := h
        exact AtV.go tabOk ext71Ok mixed false [] [] [0, 1, 5] [] [true, false] (a1 b0 (a1 s0 (a1 s1 (a1 b1 (a1 s2 trivial))))) (ih2 _ _ _ _ h K q) (by kernel_rfl)
    · rw [if_neg b0] at h
      replace b0 := Bool.eq_false_iff.2 b0
      subst h
      exact AtV.ret Tryz.func71 tabOk ext71Ok mixed false [] tys71 [false] (a1 b0 trivial) (by kernel_rfl)



def is71 (x1 : ByteArray) (r : ByteArray × List ByteArray × Unit) : Bool := ByteArray.toList r.1 == ByteArray.toList x1
def g71_0 (x0 : List (ByteArray × List ByteArray × Unit)) (x1 : ByteArray) : Int := idx (x0.findIdx? (is71 x1))
def P71 (x0 : List (ByteArray × List ByteArray × Unit)) (x1 : ByteArray) : Prop := True

theorem top71 (x0 : List (ByteArray × List ByteArray × Unit)) (x1 : ByteArray) (hm : x0.length ≤ maxLen) : R71 (x0.length + 1 + 1) x0 x1 [⟨.int .i64, g71_0 x0 x1⟩] := by
  rw [R71]
  have key := loop_find x0 (ByteArray.empty, [], ()) (is71 x1) [(⟨.int .i64, -1⟩ : Dyn)] (fun k => [⟨.int .i64, k⟩]) (fun n i ds => R71_2 n i x0 x1 ds) (fun n => ?_) (fun n i hi hok ds hr => ?_) (fun n i hi hok => ?_)
  · unfold g71_0
    cases h : x0.findIdx? (is71 x1) <;> rw [h] at key <;> exact key
  · rw [R71_2, if_neg (by simp)]
  · rw [R71_2, if_pos (by simp; omega)]
    simp only [Int.toNat_natCast]
    refine ⟨by omega, by omega, ?_⟩
    unfold is71 at hok
    rw [if_neg (by rw [hok]; simp)]
    exact ⟨inR_up hm hi, hr⟩
  · rw [R71_2, if_pos (by simp; omega)]
    simp only [Int.toNat_natCast]
    refine ⟨by omega, by omega, ?_⟩
    unfold is71 at hok
    rw [if_pos hok] <;> trivial

def S71 : Am.Spec := { sig := sig71, pre := fun ⟨x0, x1, _⟩ => P71 x0 x1, res := fun ⟨x0, x1, _⟩ => [⟨Ty.int .i64, g71_0 x0 x1⟩] }
theorem con71 : Contract Tryz.prog 71 S71 := contract_of Tryz.func71 hb71 (Nat.le_of_ble_eq_true (by kernel_rfl)) (fun ⟨x0, x1, _⟩ h hwf K q =>
  (snd71 _).1 x0 x1 _ (top71 x0 x1 hwf.1.1) K q)

end
end Go.Proofs.YtpellcnihifdaaaGreatDoor

/- Function 91 (spec.l28Under): its runs between cut points. Written by a program of this repo (gen). -/
set_option linter.unusedVariables false
set_option linter.unusedSimpArgs false
set_option maxRecDepth 100000
namespace Go.Proofs.YtpellcnihifdaaaGreatDoor
open Go Go.Am Go.Proofs
noncomputable section
def ext91 : Ext := [(71, S71)]
theorem call91_71 : Callable Tryz.prog 71 := ⟨Tryz.f71, Tryz.func71, by kernel_rfl, by kernel_rfl⟩
theorem ext91Ok : ExtOk Tryz.prog ext91 := ⟨⟨call91_71, con71⟩, trivial⟩

noncomputable def b91 : Code := bodyOf Tryz.f91
theorem hb91 : Tryz.f91.body = some b91 := by kernel_rfl
def sig91 : List AT := [AT.v (Ty.sl (Ty.cons Ty.str (Ty.cons (Ty.sl Ty.str) Ty.unit))), AT.v (Ty.int IntKind.i64)]
def tys91 : List Ty := [Ty.sl Ty.bool]
def kds91 : List RK := []
def oks91 : List AT := owns sig91
def E91_3 (v6 : Int) (h0 : List Bool) (x0 : List (ByteArray × List ByteArray × Unit)) (x1 : Int) : Env := [(0, PV.a (Atom.sl (Ty.cons Ty.str (Ty.cons (Ty.sl Ty.str) Ty.unit)) x0)), (1, PV.a (Atom.val (Value.int IntKind.i64 x1))), (5, PV.a (Atom.osl 0 Option.none)), (6, PV.a (Atom.val (Value.int IntKind.i64 v6)))]
def L91_3 (v6 : Int) (h0 : List Bool) (x0 : List (ByteArray × List ByteArray × Unit)) (x1 : Int) : Heap := [Option.some (Arr.mk Ty.bool h0 Bool.false Option.none Option.none)]
def E91_6 (v7 : Int) (h0 : List Bool) (x0 : List (ByteArray × List ByteArray × Unit)) (x1 : Int) (v6 : Int) : Env := [(0, PV.a (Atom.sl (Ty.cons Ty.str (Ty.cons (Ty.sl Ty.str) Ty.unit)) x0)), (1, PV.a (Atom.val (Value.int IntKind.i64 x1))), (5, PV.a (Atom.osl 0 Option.none)), (6, PV.a (Atom.val (Value.int IntKind.i64 v6))), (7, PV.a (Atom.val (Value.int IntKind.i64 v7)))]
def L91_6 (v7 : Int) (h0 : List Bool) (x0 : List (ByteArray × List ByteArray × Unit)) (x1 : Int) (v6 : Int) : Heap := [Option.some (Arr.mk Ty.bool h0 Bool.false Option.none Option.none)]
def E91_9 (v8 : Int) (h0 : List Bool) (x0 : List (ByteArray × List ByteArray × Unit)) (x1 : Int) (v6 : Int) (v7 : Int) : Env := [(0, PV.a (Atom.sl (Ty.cons Ty.str (Ty.cons (Ty.sl Ty.str) Ty.unit)) x0)), (1, PV.a (Atom.val (Value.int IntKind.i64 x1))), (5, PV.a (Atom.osl 0 Option.none)), (6, PV.a (Atom.val (Value.int IntKind.i64 v6))), (7, PV.a (Atom.val (Value.int IntKind.i64 v7))), (8, PV.a (Atom.val (Value.int IntKind.i64 v8)))]
def L91_9 (v8 : Int) (h0 : List Bool) (x0 : List (ByteArray × List ByteArray × Unit)) (x1 : Int) (v6 : Int) (v7 : Int) : Heap := [Option.some (Arr.mk Ty.bool h0 Bool.false Option.none Option.none)]
mutual
def R91 : Nat → List (ByteArray × List ByteArray × Unit) → Int → List Dyn → Prop
  | 0, _, _, _ => False
  | n + 1, x0, x1, ds => ((0 ≤ (↑(List.length x0) : Int)) ∧ ((↑(List.length x0) : Int) ≤ (↑(List.length x0) : Int)) ∧ (1 * (↑(List.length x0) : Int) ≤ 281474976710656) ∧ (R91_3 n (0) (List.replicate (Int.toNat (↑(List.length x0) : Int)) Bool.false) (x0) (x1) ds))
def R91_3 : Nat → Int → List Bool → List (ByteArray × List ByteArray × Unit) → Int → List Dyn → Prop
  | 0, _, _, _, _, _ => False
  | n + 1, v6, h0, x0, x1, ds => (if (Decidable.decide (v6 < (↑(List.length x0) : Int))) = true then (R91_6 n (0) (h0) (x0) (x1) (v6) ds) else (ds = [Dyn.mk (Ty.sl Ty.bool) h0]))
def R91_6 : Nat → Int → List Bool → List (ByteArray × List ByteArray × Unit) → Int → Int → List Dyn → Prop
  | 0, _, _, _, _, _, _ => False
  | n + 1, v7, h0, x0, x1, v6, ds => (if (Decidable.decide (v7 < (↑(List.length x0) : Int))) = true then (R91_9 n (0) (h0) (x0) (x1) (v6) (v7) ds) else ((InR IntKind.i64 (v6 + 1)) ∧ (R91_3 n (v6 + 1) (h0) (x0) (x1) ds)))
def R91_9 : Nat → Int → List Bool → List (ByteArray × List ByteArray × Unit) → Int → Int → Int → List Dyn → Prop
  | 0, _, _, _, _, _, _, _ => False
  | n + 1, v8, h0, x0, x1, v6, v7, ds => ((0 ≤ v7) ∧ (v7 < (↑(List.length x0) : Int)) ∧ (if (Decidable.decide (v8 < (↑(List.length (Prod.fst (Prod.snd (List.getD x0 (Int.toNat v7) (ByteArray.empty, [], ()))))) : Int))) = true then (if (v7 == x1) = true then ((0 ≤ v7) ∧ (v7 < (↑(List.length x0) : Int)) ∧ ((0 ≤ v8) ∧ (v8 < (↑(List.length (Prod.fst (Prod.snd (List.getD x0 (Int.toNat v7) (ByteArray.empty, [], ()))))) : Int)) ∧ ((0 ≤ g71_0 x0 (List.getD (Prod.fst (Prod.snd (List.getD x0 (Int.toNat v7) (ByteArray.empty, [], ())))) (Int.toNat v8) ByteArray.empty)) ∧ (g71_0 x0 (List.getD (Prod.fst (Prod.snd (List.getD x0 (Int.toNat v7) (ByteArray.empty, [], ())))) (Int.toNat v8) ByteArray.empty) < (↑(List.length h0) : Int)) ∧ ((InR IntKind.i64 (v8 + 1)) ∧ (R91_9 n (v8 + 1) (List.set h0 (Int.toNat (g71_0 x0 (List.getD (Prod.fst (Prod.snd (List.getD x0 (Int.toNat v7) (ByteArray.empty, [], ())))) (Int.toNat v8) ByteArray.empty))) Bool.true) (x0) (x1) (v6) (v7) ds))))) else ((0 ≤ v7) ∧ (v7 < (↑(List.length h0) : Int)) ∧ (if (List.getD h0 (Int.toNat v7) Bool.false) = true then ((0 ≤ v7) ∧ (v7 < (↑(List.length x0) : Int)) ∧ ((0 ≤ v8) ∧ (v8 < (↑(List.length (Prod.fst (Prod.snd (List.getD x0 (Int.toNat v7) (ByteArray.empty, [], ()))))) : Int)) ∧ ((0 ≤ g71_0 x0 (List.getD (Prod.fst (Prod.snd (List.getD x0 (Int.toNat v7) (ByteArray.empty, [], ())))) (Int.toNat v8) ByteArray.empty)) ∧ (g71_0 x0 (List.getD (Prod.fst (Prod.snd (List.getD x0 (Int.toNat v7) (ByteArray.empty, [], ())))) (Int.toNat v8) ByteArray.empty) < (↑(List.length h0) : Int)) ∧ ((InR IntKind.i64 (v8 + 1)) ∧ (R91_9 n (v8 + 1) (List.set h0 (Int.toNat (g71_0 x0 (List.getD (Prod.fst (Prod.snd (List.getD x0 (Int.toNat v7) (ByteArray.empty, [], ())))) (Int.toNat v8) ByteArray.empty))) Bool.true) (x0) (x1) (v6) (v7) ds))))) else ((InR IntKind.i64 (v7 + 1)) ∧ (R91_6 n (v7 + 1) (h0) (x0) (x1) (v6) ds))))) else ((InR IntKind.i64 (v7 + 1)) ∧ (R91_6 n (v7 + 1) (h0) (x0) (x1) (v6) ds))))
end
theorem snd91 : ∀ n, (∀ (x0 : List (ByteArray × List ByteArray × Unit)) (x1 : Int) ds, R91 n x0 x1 ds → ∀ K q, AtV Tryz.prog 91 (PostR kds91 oks91 ds [] [] q K) 58 K q [] [.code b91] (entE 0 0 sig91 (x0, x1, ())) (entL sig91 (x0, x1, ()))) ∧ (∀ (v6 : Int) (h0 : List Bool) (x0 : List (ByteArray × List ByteArray × Unit)) (x1 : Int) ds, R91_3 n v6 h0 x0 x1 ds → ∀ K q, AtV Tryz.prog 91 (PostR kds91 oks91 ds [] [] q K) 58 K q [] (cutAt b91 3) (E91_3 v6 h0 x0 x1) (L91_3 v6 h0 x0 x1)) ∧ (∀ (v7 : Int) (h0 : List Bool) (x0 : List (ByteArray × List ByteArray × Unit)) (x1 : Int) (v6 : Int) ds, R91_6 n v7 h0 x0 x1 v6 ds → ∀ K q, AtV Tryz.prog 91 (PostR kds91 oks91 ds [] [] q K) 58 K q [] (cutAt b91 6) (E91_6 v7 h0 x0 x1 v6) (L91_6 v7 h0 x0 x1 v6)) ∧ (∀ (v8 : Int) (h0 : List Bool) (x0 : List (ByteArray × List ByteArray × Unit)) (x1 : Int) (v6 : Int) (v7 : Int) ds, R91_9 n v8 h0 x0 x1 v6 v7 ds → ∀ K q, AtV Tryz.prog 91 (PostR kds91 oks91 ds [] [] q K) 58 K q [] (cutAt b91 9) (E91_9 v8 h0 x0 x1 v6 v7) (L91_9 v8 h0 x0 x1 v6 v7)) := by
  intro n
  induction n with
  | zero => exact ⟨fun _ _ _ h => by simp only [R91] at h, fun _ _ _ _ _ h => by simp only [R91_3] at h, fun _ _ _ _ _ _ h => by simp only [R91_6] at h, fun _ _ _ _ _ _ _ h => by simp only [R91_9] at h⟩
  | succ n ih =>
  obtain ⟨ih, ih3, ih6, ih9⟩ := ih
  refine ⟨?_, ?_, ?_, ?_⟩
  · intro x0 x1 ds h K q
    rw [R91] at h
    obtain ⟨s0, s1, s2, h⟩ := h
    exact AtV.go tabOk ext91Ok mixed false [] [] [0, 1, 5, 6] [0] [] (a1 s0 (a1 s1 (a1 s2 trivial))) (ih3 _ _ _ _ _ h K q) (by kernel_rfl)

  · intro v6 h0 x0 x1 ds h K q
    rw [R91_3] at h
    by_cases b0 : (Decidable.decide (v6 < (↑(List.length x0) : Int))) = true
    · rw [if_pos b0] at h
      exact AtV.go tabOk ext91Ok mixed false [] [] [0, 1, 5, 6, 7] [0] [true] (a1 b0 trivial) (ih6 _ _ _ _ _ _ h K q) (by kernel_rfl)
    · rw [if_neg b0] at h
      replace b0 := Bool.eq_false_iff.2 b0
      subst h
      exact AtV.ret Tryz.func91 tabOk ext91Ok mixed false [] tys91 [false] (a1 b0 trivial) (by kernel_rfl)

  · intro v7 h0 x0 x1 v6 ds h K q
    rw [R91_6] at h
    by_cases b0 : (Decidable.decide (v7 < (↑(List.length x0) : Int))) = true
    · rw [if_pos b0] at h
      exact AtV.go tabOk ext91Ok mixed false [] [] [0, 1, 5, 6, 7, 8] [0] [true] (a1 b0 trivial) (ih9 _ _ _ _ _ _ _ h K q) (by kernel_rfl)
    · rw [if_neg b0] at h
      replace b0 := Bool.eq_false_iff.2 b0
      obtain ⟨s0, h⟩ := h
      exact AtV.go tabOk ext91Ok mixed false [] [] [0, 1, 5, 6] [0] [false] (a1 b0 (a1 s0 trivial)) (ih3 _ _ _ _ _ h K q) (by kernel_rfl)

  · intro v8 h0 x0 x1 v6 v7 ds h K q
    rw [R91_9] at h
    obtain ⟨s0, s1, h⟩ := h
    by_cases b0 : (Decidable.decide (v8 < (↑(List.length (Prod.fst (Prod.snd (List.getD x0 (Int.toNat v7) (ByteArray.empty, [], ()))))) : Int))) = true
    · rw [if_pos b0] at h
      by_cases b1 : (v7 == x1) = true
      · rw [if_pos b1] at h
        obtain ⟨s2, s3, h⟩ := h
        obtain ⟨s4, s5, h⟩ := h
        obtain ⟨s6, s7, h⟩ := h
        obtain ⟨s8, h⟩ := h
        exact AtV.go tabOk ext91Ok mixed false [] [] [0, 1, 5, 6, 7, 8] [0] [true, true, true] (a1 s0 (a1 s1 (a1 b0 (a1 b1 (a1 (rfl : Bool.true = Bool.true) (a1 s2 (a1 s3 (a1 s4 (a1 s5 (a1 trivial (a1 s6 (a1 s7 (a1 s8 trivial))))))))))))) (ih9 _ _ _ _ _ _ _ h K q) (by kernel_rfl)
      · rw [if_neg b1] at h
        replace b1 := Bool.eq_false_iff.2 b1
        obtain ⟨s2, s3, h⟩ := h
        by_cases b2 : (List.getD h0 (Int.toNat v7) Bool.false) = true
        · rw [if_pos b2] at h
          obtain ⟨s4, s5, h⟩ := h
          obtain ⟨s6, s7, h⟩ := h
          obtain ⟨s8, s9, h⟩ := h
          obtain ⟨s10, h⟩ := h
          exact AtV.go tabOk ext91Ok mixed false [] [] [0, 1, 5, 6, 7, 8] [0] [true, false, true] (a1 s0 (a1 s1 (a1 b0 (a1 b1 (a1 s2 (a1 s3 (a1 b2 (a1 s4 (a1 s5 (a1 s6 (a1 s7 (a1 trivial (a1 s8 (a1 s9 (a1 s10 trivial))))))))))))))) (ih9 _ _ _ _ _ _ _ h K q) (by kernel_rfl)
        · rw [if_neg b2] at h
          replace b2 := Bool.eq_false_iff.2 b2
          obtain ⟨s4, h⟩ := h
          exact AtV.go tabOk ext91Ok mixed false [] [] [0, 1, 5, 6, 7] [0] [true, false, false] (a1 s0 (a1 s1 (a1 b0 (a1 b1 (a1 s2 (a1 s3 (a1 b2 (a1 s4 trivial)))))))) (ih6 _ _ _ _ _ _ h K q) (by kernel_rfl)
    · rw [if_neg b0] at h
      replace b0 := Bool.eq_false_iff.2 b0
      obtain ⟨s2, h⟩ := h
      exact AtV.go tabOk ext91Ok mixed false [] [] [0, 1, 5, 6, 7] [0] [false, false] (a1 s0 (a1 s1 (a1 b0 (a1 (rfl : Bool.false = Bool.false) (a1 s2 trivial))))) (ih6 _ _ _ _ _ _ h K q) (by kernel_rfl)



abbrev RL91 := ByteArray × List ByteArray × Unit
abbrev und91 (x0 : List RL91) (i : Nat) : List ByteArray := (x0.getD i (ByteArray.empty, [], ())).2.1
def mark91 (x0 : List RL91) (h : List Bool) (n : ByteArray) : List Bool := h.set (g71_0 x0 n).toNat true
def role91 (x0 : List RL91) (x1 : Int) (h : List Bool) (i : Nat) : List Bool := if (i : Int) = x1 ∨ h.getD i false = true then (und91 x0 i).foldl (mark91 x0) h else h
def turn91 (x0 : List RL91) (x1 : Int) : Nat → Nat → List Bool → List Bool
  | 0, _, h => h
  | k + 1, i, h => turn91 x0 x1 k (i + 1) (role91 x0 x1 h i)
def turns91 (x0 : List RL91) (x1 : Int) : Nat → List Bool → List Bool
  | 0, h => h
  | k + 1, h => turns91 x0 x1 k (turn91 x0 x1 x0.length 0 h)
def g91_0 (x0 : List RL91) (x1 : Int) : List Bool := turns91 x0 x1 x0.length (List.replicate x0.length false)
def P91 (x0 : List RL91) (x1 : Int) : Prop := x0.length ≤ 1000 ∧ ∀ r ∈ x0, ∀ n ∈ r.2.1, 0 ≤ g71_0 x0 n ∧ g71_0 x0 n < (x0.length : Int)

theorem mark_len91 (x0 : List RL91) (h : List Bool) (n : ByteArray) : (mark91 x0 h n).length = h.length := List.length_set
theorem marks_len91 (x0 : List RL91) : ∀ (l : List ByteArray) (h : List Bool), (l.foldl (mark91 x0) h).length = h.length
  | [], _ => rfl
  | a :: l, h => by rw [List.foldl_cons, marks_len91 x0 l, mark_len91]
theorem role_len91 (x0 : List RL91) (x1 : Int) (h : List Bool) (i : Nat) : (role91 x0 x1 h i).length = h.length := by
  unfold role91
  split
  · exact marks_len91 x0 _ h
  · rfl
theorem turn_len91 (x0 : List RL91) (x1 : Int) : ∀ (k i : Nat) (h : List Bool), (turn91 x0 x1 k i h).length = h.length
  | 0, _, _ => rfl
  | k + 1, i, h => by rw [turn91, turn_len91 x0 x1 k, role_len91]
theorem turns_len91 (x0 : List RL91) (x1 : Int) : ∀ (k : Nat) (h : List Bool), (turns91 x0 x1 k h).length = h.length
  | 0, _ => rfl
  | k + 1, h => by rw [turns91, turns_len91 x0 x1 k, turn_len91]
theorem len91 (x0 : List RL91) (x1 : Int) : (g91_0 x0 x1).length = x0.length := by
  unfold g91_0
  rw [turns_len91, List.length_replicate]

theorem mark_up91 (x0 : List RL91) (h : List Bool) (n : ByteArray) (i : Nat) (hi : h.getD i false = true) : (mark91 x0 h n).getD i false = true := by
  unfold mark91
  rw [List.getD_eq_getElem?_getD, List.getElem?_set]
  split
  · split
    · rfl
    · rename_i h1 h2
      subst h1
      rw [List.getD_eq_getElem?_getD, List.getElem?_eq_none (by omega)] at hi
      cases hi
  · rw [← List.getD_eq_getElem?_getD]; exact hi

theorem names91 (x0 : List RL91) (x1 : Int) (h : P91 x0 x1) (ds : List Dyn) (v6 : Int) (i m : Nat) (hi : i < x0.length) (hul : (x0.getD i (ByteArray.empty, [], ())).2.1.length ≤ maxLen) : ∀ (k j : Nat) (h0 : List Bool), j + k = (x0.getD i (ByteArray.empty, [], ())).2.1.length → h0.length = x0.length → ((i : Int) = x1 ∨ h0.getD i false = true) → R91_6 m ((i : Int) + 1) (((x0.getD i (ByteArray.empty, [], ())).2.1.drop j).foldl (mark91 x0) h0) x0 x1 v6 ds → R91_9 (m + k + 1) (j : Int) h0 x0 x1 v6 (i : Int) ds := by
  obtain ⟨p1, p2⟩ := h
  intro k
  induction k with
  | zero =>
    intro j h0 hj hl hc hr
    rw [List.drop_eq_nil_of_le (by omega)] at hr
    show R91_9 (m + 0 + 1) _ _ _ _ _ _ _
    rw [R91_9]
    simp only [Int.toNat_natCast]
    refine ⟨by omega, by omega, ?_⟩
    rw [if_neg (by simp only [decide_eq_true_eq]; omega)]
    exact ⟨by rw [i64_iff]; omega, hr⟩
  | succ k ih =>
    intro j h0 hj hl hc hr
    have hlt : j < (x0.getD i (ByteArray.empty, [], ())).2.1.length := by omega
    obtain ⟨f1, f2⟩ := p2 _ (mem_getD x0 i (ByteArray.empty, [], ()) hi) _ (mem_getD _ j ByteArray.empty hlt)
    rw [drop_get _ j ByteArray.empty hlt, List.foldl_cons] at hr
    have e3 : (j : Int) + 1 = ((j + 1 : Nat) : Int) := by omega
    have ih := ih (j + 1) (mark91 x0 h0 ((x0.getD i (ByteArray.empty, [], ())).2.1.getD j ByteArray.empty)) (by omega) (by rw [mark_len91]; exact hl) (hc.imp id (mark_up91 x0 h0 _ i)) hr
    show R91_9 (m + k + 1 + 1) _ _ _ _ _ _ _
    rw [R91_9]
    simp only [Int.toNat_natCast]
    refine ⟨by omega, by omega, ?_⟩
    rw [if_pos (by simp only [decide_eq_true_eq]; omega)]
    by_cases c : ((i : Int) == x1) = true
    · rw [if_pos c]
      exact ⟨by omega, by omega, by omega, by omega, f1, by rw [hl]; exact f2, by rw [e3]; exact inR_up hul hlt, by rw [e3]; exact ih⟩
    · have c2 := hc.resolve_left (by simpa using c)
      rw [if_neg c]
      refine ⟨by omega, by omega, ?_⟩
      rw [if_pos c2]
      exact ⟨by omega, by omega, by omega, by omega, f1, by rw [hl]; exact f2, by rw [e3]; exact inR_up hul hlt, by rw [e3]; exact ih⟩

theorem roles91 (x0 : List RL91) (x1 : Int) (h : P91 x0 x1) (hw : ∀ r ∈ x0, r.2.1.length ≤ maxLen) (ds : List Dyn) (v6 : Int) (i6 : InR .i64 (v6 + 1)) (m : Nat) : ∀ (k i : Nat) (h0 : List Bool), i + k = x0.length → h0.length = x0.length → R91_3 m (v6 + 1) (turn91 x0 x1 k i h0) x0 x1 ds → ∃ n, R91_6 n (i : Int) h0 x0 x1 v6 ds := by
  intro k
  induction k with
  | zero =>
    intro i h0 hi hl hr
    refine ⟨m + 1, ?_⟩
    rw [R91_6, if_neg (by simp only [decide_eq_true_eq]; omega)]
    exact ⟨i6, hr⟩
  | succ k ih =>
    intro i h0 hi hl hr
    have hlt : i < x0.length := by omega
    have hu := hw _ (mem_getD x0 i (ByteArray.empty, [], ()) hlt)
    obtain ⟨n, hn⟩ := ih (i + 1) (role91 x0 x1 h0 i) (by omega) (by rw [role_len91]; exact hl) hr
    have e3 : ((i + 1 : Nat) : Int) = (i : Int) + 1 := by omega
    rw [e3] at hn
    unfold role91 at hn
    by_cases c : (i : Int) = x1 ∨ h0.getD i false = true
    · rw [if_pos c] at hn
      have := names91 x0 x1 h ds v6 i n hlt hu _ 0 h0 (by rw [Nat.zero_add]) hl c (by rw [List.drop_zero]; exact hn)
      exact ⟨_ + 1, by
        rw [R91_6, if_pos (by simp only [decide_eq_true_eq]; omega)]
        exact this⟩
    · rw [if_neg c] at hn
      refine ⟨n + 1 + 1, ?_⟩
      rw [R91_6, if_pos (by simp only [decide_eq_true_eq]; omega), R91_9]
      simp only [Int.toNat_natCast]
      have c1 : ¬ ((i : Int) == x1) = true := fun hh => c (.inl (by simpa using hh))
      have c2 : ¬ h0.getD i false = true := fun hh => c (.inr hh)
      refine ⟨by omega, by omega, ?_⟩
      by_cases c3 : decide ((0 : Int) < ((x0.getD i (ByteArray.empty, [], ())).2.1.length : Int)) = true
      · rw [if_pos c3, if_neg c1]
        refine ⟨by omega, by omega, ?_⟩
        rw [if_neg c2]
        exact ⟨by have := h.1; rw [i64_iff]; omega, hn⟩
      · rw [if_neg c3]
        exact ⟨by have := h.1; rw [i64_iff]; omega, hn⟩

theorem tops91 (x0 : List RL91) (x1 : Int) (h : P91 x0 x1) (hw : ∀ r ∈ x0, r.2.1.length ≤ maxLen) : ∀ (k i : Nat) (h0 : List Bool), i + k = x0.length → h0.length = x0.length → ∃ n, R91_3 n (i : Int) h0 x0 x1 [⟨.sl .bool, turns91 x0 x1 k h0⟩] := by
  have p1 := h.1
  intro k
  induction k with
  | zero =>
    intro i h0 hi hl
    refine ⟨1, ?_⟩
    rw [R91_3, if_neg (by simp only [decide_eq_true_eq]; omega)]
    rfl
  | succ k ih =>
    intro i h0 hi hl
    obtain ⟨m, hm⟩ := ih (i + 1) (turn91 x0 x1 x0.length 0 h0) (by omega) (by rw [turn_len91]; exact hl)
    have e3 : ((i + 1 : Nat) : Int) = (i : Int) + 1 := by omega
    rw [e3] at hm
    obtain ⟨n, hn⟩ := roles91 x0 x1 h hw _ (i : Int) (by rw [i64_iff]; omega) m x0.length 0 h0 (by omega) hl hm
    refine ⟨n + 1, ?_⟩
    rw [R91_3, if_pos (by simp only [decide_eq_true_eq]; omega)]
    exact hn

theorem top91 (x0 : List RL91) (x1 : Int) (h : P91 x0 x1) (hw : ∀ r ∈ x0, r.2.1.length ≤ maxLen) : ∃ n, R91 n x0 x1 [⟨.sl .bool, g91_0 x0 x1⟩] := by
  have p1 := h.1
  obtain ⟨n, hn⟩ := tops91 x0 x1 h hw x0.length 0 (List.replicate x0.length false) (by omega) (by rw [List.length_replicate])
  refine ⟨n + 1, ?_⟩
  rw [R91]
  simp only [Int.toNat_natCast]
  exact ⟨by omega, by omega, by omega, hn⟩

def S91 : Am.Spec := { sig := sig91, pre := fun ⟨x0, x1, _⟩ => P91 x0 x1, res := fun ⟨x0, x1, _⟩ => [⟨.sl .bool, g91_0 x0 x1⟩] }
theorem con91 : Contract Tryz.prog 91 S91 := contract_of Tryz.func91 hb91 (Nat.le_of_ble_eq_true (by kernel_rfl)) (fun ⟨x0, x1, _⟩ h hwf K q =>
  let ⟨_, hn⟩ := top91 x0 x1 h (fun r hr => (hwf.1.2 r hr).2.1.1)
  (snd91 _).1 x0 x1 _ hn K q)

end
end Go.Proofs.YtpellcnihifdaaaGreatDoor

/- Function 70 (spec.l28Roles): its runs between cut points. Written by a program of this repo (gen). -/
set_option linter.unusedVariables false
set_option linter.unusedSimpArgs false
set_option maxRecDepth 100000
namespace Go.Proofs.YtpellcnihifdaaaGreatDoor
open Go Go.Am Go.Proofs
noncomputable section
def ext70 : Ext := [(72, S72), (71, S71), (91, S91)]
theorem call70_72 : Callable Tryz.prog 72 := ⟨Tryz.f72, Tryz.func72, by kernel_rfl, by kernel_rfl⟩
theorem call70_71 : Callable Tryz.prog 71 := ⟨Tryz.f71, Tryz.func71, by kernel_rfl, by kernel_rfl⟩
theorem call70_91 : Callable Tryz.prog 91 := ⟨Tryz.f91, Tryz.func91, by kernel_rfl, by kernel_rfl⟩
theorem ext70Ok : ExtOk Tryz.prog ext70 := ⟨⟨call70_72, con72⟩, ⟨call70_71, con71⟩, ⟨call70_91, con91⟩, trivial⟩

noncomputable def b70 : Code := bodyOf Tryz.f70
theorem hb70 : Tryz.f70.body = some b70 := by kernel_rfl
def sig70 : List AT := [AT.v (Ty.sl (Ty.cons Ty.str (Ty.cons (Ty.sl Ty.str) Ty.unit)))]
def tys70 : List Ty := [Ty.bool]
def kds70 : List RK := []
def oks70 : List AT := owns sig70
def E70_4 (v3 : Int) (x0 : List (ByteArray × List ByteArray × Unit)) : Env := [(0, PV.a (Atom.sl (Ty.cons Ty.str (Ty.cons (Ty.sl Ty.str) Ty.unit)) x0)), (3, PV.a (Atom.val (Value.int IntKind.i64 v3)))]
def L70_4 (v3 : Int) (x0 : List (ByteArray × List ByteArray × Unit)) : Heap := []
def E70_9 (v4 : Int) (v38 : Bool) (x0 : List (ByteArray × List ByteArray × Unit)) (v3 : Int) : Env := [(0, PV.a (Atom.sl (Ty.cons Ty.str (Ty.cons (Ty.sl Ty.str) Ty.unit)) x0)), (3, PV.a (Atom.val (Value.int IntKind.i64 v3))), (4, PV.a (Atom.val (Value.int IntKind.i64 v4))), (23, PV.a (Atom.val (Value.int IntKind.i64 v3))), (24, PV.a (Atom.val (Value.bool (Decidable.decide (v3 > 0))))), (25, PV.a (Atom.val (Value.bool (Decidable.decide (v3 > 0))))), (38, PV.a (Atom.val (Value.bool v38)))]
def L70_9 (v4 : Int) (v38 : Bool) (x0 : List (ByteArray × List ByteArray × Unit)) (v3 : Int) : Heap := []
def E70_14 (v5 : Int) (x0 : List (ByteArray × List ByteArray × Unit)) : Env := [(0, PV.a (Atom.sl (Ty.cons Ty.str (Ty.cons (Ty.sl Ty.str) Ty.unit)) x0)), (5, PV.a (Atom.val (Value.int IntKind.i64 v5)))]
def L70_14 (v5 : Int) (x0 : List (ByteArray × List ByteArray × Unit)) : Heap := []
mutual
def R70 : Nat → List (ByteArray × List ByteArray × Unit) → List Dyn → Prop
  | 0, _, _ => False
  | n + 1, x0, ds => (if (Decidable.decide ((↑(List.length x0) : Int) > 12)) = true then (ds = [Dyn.mk Ty.bool Bool.false]) else (R70_4 n (0) (x0) ds))
def R70_4 : Nat → Int → List (ByteArray × List ByteArray × Unit) → List Dyn → Prop
  | 0, _, _, _ => False
  | n + 1, v3, x0, ds => (if (Decidable.decide (v3 < (↑(List.length x0) : Int))) = true then ((0 ≤ v3) ∧ (v3 < (↑(List.length x0) : Int)) ∧ (if (!g72_0 (Prod.fst (List.getD x0 (Int.toNat v3) (ByteArray.empty, [], ())))) = true then (ds = [Dyn.mk Ty.bool Bool.false]) else (if (Decidable.decide (v3 > 0)) = true then ((InR IntKind.i64 (v3 - 1)) ∧ ((0 ≤ v3 - 1) ∧ (v3 - 1 < (↑(List.length x0) : Int)) ∧ ((0 ≤ v3) ∧ (v3 < (↑(List.length x0) : Int)) ∧ (if (!Op.bytesLess (ByteArray.toList (Prod.fst (List.getD x0 (Int.toNat (v3 - 1)) (ByteArray.empty, [], ())))) (ByteArray.toList (Prod.fst (List.getD x0 (Int.toNat v3) (ByteArray.empty, [], ()))))) = true then (ds = [Dyn.mk Ty.bool Bool.false]) else (R70_9 n (0) (!Op.bytesLess (ByteArray.toList (Prod.fst (List.getD x0 (Int.toNat (v3 - 1)) (ByteArray.empty, [], ())))) (ByteArray.toList (Prod.fst (List.getD x0 (Int.toNat v3) (ByteArray.empty, [], ()))))) (x0) (v3) ds))))) else (R70_9 n (0) (Bool.false) (x0) (v3) ds)))) else (R70_14 n (0) (x0) ds))
def R70_9 : Nat → Int → Bool → List (ByteArray × List ByteArray × Unit) → Int → List Dyn → Prop
  | 0, _, _, _, _, _ => False
  | n + 1, v4, v38, x0, v3, ds => ((0 ≤ v3) ∧ (v3 < (↑(List.length x0) : Int)) ∧ (if (Decidable.decide (v4 < (↑(List.length (Prod.fst (Prod.snd (List.getD x0 (Int.toNat v3) (ByteArray.empty, [], ()))))) : Int))) = true then ((0 ≤ v3) ∧ (v3 < (↑(List.length x0) : Int)) ∧ ((0 ≤ v4) ∧ (v4 < (↑(List.length (Prod.fst (Prod.snd (List.getD x0 (Int.toNat v3) (ByteArray.empty, [], ()))))) : Int)) ∧ (if (Decidable.decide (g71_0 x0 (List.getD (Prod.fst (Prod.snd (List.getD x0 (Int.toNat v3) (ByteArray.empty, [], ())))) (Int.toNat v4) ByteArray.empty) < 0)) = true then (ds = [Dyn.mk Ty.bool Bool.false]) else (if (Decidable.decide (v4 > 0)) = true then ((0 ≤ v3) ∧ (v3 < (↑(List.length x0) : Int)) ∧ ((InR IntKind.i64 (v4 - 1)) ∧ ((0 ≤ v4 - 1) ∧ (v4 - 1 < (↑(List.length (Prod.fst (Prod.snd (List.getD x0 (Int.toNat v3) (ByteArray.empty, [], ()))))) : Int)) ∧ ((0 ≤ v3) ∧ (v3 < (↑(List.length x0) : Int)) ∧ ((0 ≤ v4) ∧ (v4 < (↑(List.length (Prod.fst (Prod.snd (List.getD x0 (Int.toNat v3) (ByteArray.empty, [], ()))))) : Int)) ∧ (if (!Op.bytesLess (ByteArray.toList (List.getD (Prod.fst (Prod.snd (List.getD x0 (Int.toNat v3) (ByteArray.empty, [], ())))) (Int.toNat (v4 - 1)) ByteArray.empty)) (ByteArray.toList (List.getD (Prod.fst (Prod.snd (List.getD x0 (Int.toNat v3) (ByteArray.empty, [], ())))) (Int.toNat v4) ByteArray.empty))) = true then (ds = [Dyn.mk Ty.bool Bool.false]) else ((InR IntKind.i64 (v4 + 1)) ∧ (R70_9 n (v4 + 1) (v38) (x0) (v3) ds)))))))) else ((InR IntKind.i64 (v4 + 1)) ∧ (R70_9 n (v4 + 1) (v38) (x0) (v3) ds)))))) else ((InR IntKind.i64 (v3 + 1)) ∧ (R70_4 n (v3 + 1) (x0) ds))))
def R70_14 : Nat → Int → List (ByteArray × List ByteArray × Unit) → List Dyn → Prop
  | 0, _, _, _ => False
  | n + 1, v5, x0, ds => (if (Decidable.decide (v5 < (↑(List.length x0) : Int))) = true then ((P91 x0 v5) ∧ ((0 ≤ v5) ∧ (v5 < (↑(List.length (g91_0 x0 v5)) : Int)) ∧ (if (List.getD (g91_0 x0 v5) (Int.toNat v5) Bool.false) = true then (ds = [Dyn.mk Ty.bool Bool.false]) else ((InR IntKind.i64 (v5 + 1)) ∧ (R70_14 n (v5 + 1) (x0) ds))))) else (ds = [Dyn.mk Ty.bool Bool.true]))
end
theorem snd70 : ∀ n, (∀ (x0 : List (ByteArray × List ByteArray × Unit)) ds, R70 n x0 ds → ∀ K q, AtV Tryz.prog 70 (PostR kds70 oks70 ds [] [] q K) 97 K q [] [.code b70] (entE 0 0 sig70 (x0, ())) (entL sig70 (x0, ()))) ∧ (∀ (v3 : Int) (x0 : List (ByteArray × List ByteArray × Unit)) ds, R70_4 n v3 x0 ds → ∀ K q, AtV Tryz.prog 70 (PostR kds70 oks70 ds [] [] q K) 97 K q [] (cutAt b70 4) (E70_4 v3 x0) (L70_4 v3 x0)) ∧ (∀ (v4 : Int) (v38 : Bool) (x0 : List (ByteArray × List ByteArray × Unit)) (v3 : Int) ds, R70_9 n v4 v38 x0 v3 ds → ∀ K q, AtV Tryz.prog 70 (PostR kds70 oks70 ds [] [] q K) 97 K q [] (cutAt b70 9) (E70_9 v4 v38 x0 v3) (L70_9 v4 v38 x0 v3)) ∧ (∀ (v5 : Int) (x0 : List (ByteArray × List ByteArray × Unit)) ds, R70_14 n v5 x0 ds → ∀ K q, AtV Tryz.prog 70 (PostR kds70 oks70 ds [] [] q K) 97 K q [] (cutAt b70 14) (E70_14 v5 x0) (L70_14 v5 x0)) := by
  intro n
  induction n with
  | zero => exact ⟨fun _ _ h => by simp only [R70] at h, fun _ _ _ h => by simp only [R70_4] at h, fun _ _ _ _ _ h => by simp only [R70_9] at h, fun _ _ _ h => by simp only [R70_14] at h⟩
  | succ n ih =>
  obtain ⟨ih, ih4, ih9, ih14⟩ := ih
  refine ⟨?_, ?_, ?_, ?_⟩
  · intro x0 ds h K q
    rw [R70] at h
    by_cases b0 : (Decidable.decide ((↑(List.length x0) : Int) > 12)) = true
    · rw [if_pos b0] at h
      subst h
      exact AtV.ret Tryz.func70 tabOk ext70Ok mixed false [] tys70 [true] (a1 b0 trivial) (by kernel_rfl)
    · rw [if_neg b0] at h
      replace b0 := Bool.eq_false_iff.2 b0
      exact AtV.go tabOk ext70Ok mixed false [] [] [0, 3] [] [false] (a1 b0 trivial) (ih4 _ _ _ h K q) (by kernel_rfl)

  · intro v3 x0 ds h K q
    rw [R70_4] at h
    by_cases b0 : (Decidable.decide (v3 < (↑(List.length x0) : Int))) = true
    · rw [if_pos b0] at h
      obtain ⟨s0, s1, h⟩ := h
      by_cases b1 : (!g72_0 (Prod.fst (List.getD x0 (Int.toNat v3) (ByteArray.empty, [], ())))) = true
      · rw [if_pos b1] at h
        subst h
        exact AtV.ret Tryz.func70 tabOk ext70Ok mixed false [] tys70 [true, true, true] (a1 b0 (a1 s0 (a1 s1 (a1 trivial (a1 b1 (a1 (rfl : Bool.true = Bool.true) trivial)))))) (by kernel_rfl)
      · rw [if_neg b1] at h
        replace b1 := Bool.eq_false_iff.2 b1
        by_cases b2 : (Decidable.decide (v3 > 0)) = true
        · rw [if_pos b2] at h
          obtain ⟨s2, h⟩ := h
          obtain ⟨s3, s4, h⟩ := h
          obtain ⟨s5, s6, h⟩ := h
          by_cases b3 : (!Op.bytesLess (ByteArray.toList (Prod.fst (List.getD x0 (Int.toNat (v3 - 1)) (ByteArray.empty, [], ())))) (ByteArray.toList (Prod.fst (List.getD x0 (Int.toNat v3) (ByteArray.empty, [], ()))))) = true
          · rw [if_pos b3] at h
            subst h
            exact AtV.ret Tryz.func70 tabOk ext70Ok mixed false [] tys70 [true, false, true, true] (a1 b0 (a1 s0 (a1 s1 (a1 trivial (a1 b1 (a1 b2 (a1 s2 (a1 s3 (a1 s4 (a1 s5 (a1 s6 (a1 b3 trivial)))))))))))) (by kernel_rfl)
          · rw [if_neg b3] at h
            replace b3 := Bool.eq_false_iff.2 b3
            exact AtV.go tabOk ext70Ok mixed false [] [] [0, 3, 4, 23, 24, 25, 38] [] [true, false, true, false] (a1 b0 (a1 s0 (a1 s1 (a1 trivial (a1 b1 (a1 b2 (a1 s2 (a1 s3 (a1 s4 (a1 s5 (a1 s6 (a1 b3 trivial)))))))))))) (ih9 _ _ _ _ _ h K q) (by kernel_rfl)
        · rw [if_neg b2] at h
          replace b2 := Bool.eq_false_iff.2 b2
          exact AtV.go tabOk ext70Ok mixed false [] [] [0, 3, 4, 23, 24, 25, 38] [] [true, false, false, false] (a1 b0 (a1 s0 (a1 s1 (a1 trivial (a1 b1 (a1 b2 (a1 (rfl : Bool.false = Bool.false) trivial))))))) (ih9 _ _ _ _ _ h K q) (by kernel_rfl)
    · rw [if_neg b0] at h
      replace b0 := Bool.eq_false_iff.2 b0
      exact AtV.go tabOk ext70Ok mixed false [] [] [0, 5] [] [false] (a1 b0 trivial) (ih14 _ _ _ h K q) (by kernel_rfl)

  · intro v4 v38 x0 v3 ds h K q
    rw [R70_9] at h
    obtain ⟨s0, s1, h⟩ := h
    by_cases b0 : (Decidable.decide (v4 < (↑(List.length (Prod.fst (Prod.snd (List.getD x0 (Int.toNat v3) (ByteArray.empty, [], ()))))) : Int))) = true
    · rw [if_pos b0] at h
      obtain ⟨s2, s3, h⟩ := h
      obtain ⟨s4, s5, h⟩ := h
      by_cases b1 : (Decidable.decide (g71_0 x0 (List.getD (Prod.fst (Prod.snd (List.getD x0 (Int.toNat v3) (ByteArray.empty, [], ())))) (Int.toNat v4) ByteArray.empty) < 0)) = true
      · rw [if_pos b1] at h
        subst h
        exact AtV.ret Tryz.func70 tabOk ext70Ok mixed false [] tys70 [true, true, true] (a1 s0 (a1 s1 (a1 b0 (a1 s2 (a1 s3 (a1 s4 (a1 s5 (a1 trivial (a1 b1 (a1 (rfl : Bool.true = Bool.true) trivial)))))))))) (by kernel_rfl)
      · rw [if_neg b1] at h
        replace b1 := Bool.eq_false_iff.2 b1
        by_cases b2 : (Decidable.decide (v4 > 0)) = true
        · rw [if_pos b2] at h
          obtain ⟨s6, s7, h⟩ := h
          obtain ⟨s8, h⟩ := h
          obtain ⟨s9, s10, h⟩ := h
          obtain ⟨s11, s12, h⟩ := h
          obtain ⟨s13, s14, h⟩ := h
          by_cases b3 : (!Op.bytesLess (ByteArray.toList (List.getD (Prod.fst (Prod.snd (List.getD x0 (Int.toNat v3) (ByteArray.empty, [], ())))) (Int.toNat (v4 - 1)) ByteArray.empty)) (ByteArray.toList (List.getD (Prod.fst (Prod.snd (List.getD x0 (Int.toNat v3) (ByteArray.empty, [], ())))) (Int.toNat v4) ByteArray.empty))) = true
          · rw [if_pos b3] at h
            subst h
            exact AtV.ret Tryz.func70 tabOk ext70Ok mixed false [] tys70 [true, false, true, true] (a1 s0 (a1 s1 (a1 b0 (a1 s2 (a1 s3 (a1 s4 (a1 s5 (a1 trivial (a1 b1 (a1 b2 (a1 s6 (a1 s7 (a1 s8 (a1 s9 (a1 s10 (a1 s11 (a1 s12 (a1 s13 (a1 s14 (a1 b3 trivial)))))))))))))))))))) (by kernel_rfl)
          · rw [if_neg b3] at h
            replace b3 := Bool.eq_false_iff.2 b3
            obtain ⟨s15, h⟩ := h
            exact AtV.go tabOk ext70Ok mixed false [] [] [0, 3, 4, 23, 24, 25, 38] [] [true, false, true, false] (a1 s0 (a1 s1 (a1 b0 (a1 s2 (a1 s3 (a1 s4 (a1 s5 (a1 trivial (a1 b1 (a1 b2 (a1 s6 (a1 s7 (a1 s8 (a1 s9 (a1 s10 (a1 s11 (a1 s12 (a1 s13 (a1 s14 (a1 b3 (a1 s15 trivial))))))))))))))))))))) (ih9 _ _ _ _ _ h K q) (by kernel_rfl)
        · rw [if_neg b2] at h
          replace b2 := Bool.eq_false_iff.2 b2
          obtain ⟨s6, h⟩ := h
          exact AtV.go tabOk ext70Ok mixed false [] [] [0, 3, 4, 23, 24, 25, 38] [] [true, false, false, false] (a1 s0 (a1 s1 (a1 b0 (a1 s2 (a1 s3 (a1 s4 (a1 s5 (a1 trivial (a1 b1 (a1 b2 (a1 (rfl : Bool.false = Bool.false) (a1 s6 trivial)))))))))))) (ih9 _ _ _ _ _ h K q) (by kernel_rfl)
    · rw [if_neg b0] at h
      replace b0 := Bool.eq_false_iff.2 b0
      obtain ⟨s2, h⟩ := h
      exact AtV.go tabOk ext70Ok mixed false [] [] [0, 3] [] [false] (a1 s0 (a1 s1 (a1 b0 (a1 s2 trivial)))) (ih4 _ _ _ h K q) (by kernel_rfl)

  · intro v5 x0 ds h K q
    rw [R70_14] at h
    by_cases b0 : (Decidable.decide (v5 < (↑(List.length x0) : Int))) = true
    · rw [if_pos b0] at h
      obtain ⟨s0, h⟩ := h
      obtain ⟨s1, s2, h⟩ := h
      by_cases b1 : (List.getD (g91_0 x0 v5) (Int.toNat v5) Bool.false) = true
      · rw [if_pos b1] at h
        subst h
        exact AtV.ret Tryz.func70 tabOk ext70Ok mixed false [] tys70 [true, true] (a1 b0 (a1 s0 (a1 s1 (a1 s2 (a1 b1 trivial))))) (by kernel_rfl)
      · rw [if_neg b1] at h
        replace b1 := Bool.eq_false_iff.2 b1
        obtain ⟨s3, h⟩ := h
        exact AtV.go tabOk ext70Ok mixed false [] [] [0, 5] [] [true, false] (a1 b0 (a1 s0 (a1 s1 (a1 s2 (a1 b1 (a1 s3 trivial)))))) (ih14 _ _ _ h K q) (by kernel_rfl)
    · rw [if_neg b0] at h
      replace b0 := Bool.eq_false_iff.2 b0
      subst h
      exact AtV.ret Tryz.func70 tabOk ext70Ok mixed false [] tys70 [false] (a1 b0 trivial) (by kernel_rfl)



abbrev RL70 := ByteArray × List ByteArray × Unit
def lt70 (a b : ByteArray) : Bool := Op.bytesLess (ByteArray.toList a) (ByteArray.toList b)
def un70 (x0 : List RL70) (l : List ByteArray) (j : Nat) (n : ByteArray) : Bool := !decide (g71_0 x0 n < 0) && (j == 0 || lt70 (l.getD (j - 1) ByteArray.empty) n)
def role70 (x0 : List RL70) (i : Nat) (r : RL70) : Bool := g72_0 r.1 && ((i == 0 || lt70 (x0.getD (i - 1) (ByteArray.empty, [], ())).1 r.1) && allI (un70 x0 r.2.1) 0 r.2.1)
def free70 (x0 : List RL70) (i : Nat) (_ : RL70) : Bool := !(g91_0 x0 (i : Int)).getD i false
def g70_0 (x0 : List RL70) : Bool := if decide (x0.length ≤ 12) = true then (if allI (role70 x0) 0 x0 = true then allI (free70 x0) 0 x0 else false) else false
def P70 (x0 : List RL70) : Prop := True

theorem allm70 {α : Type} (q : Nat → α → Bool) : ∀ (l : List α) (i : Nat), allI q i l = true → ∀ x ∈ l, ∃ j, q j x = true
  | [], _, _, x, hx => by cases hx
  | a :: r, i, h, x, hx => by
    simp only [allI, Bool.and_eq_true] at h
    rcases List.mem_cons.1 hx with rfl | hx
    · exact ⟨i, h.1⟩
    · exact allm70 q r (i + 1) h.2 x hx

theorem closed70 {x0 : List RL70} (h : allI (role70 x0) 0 x0 = true) : ∀ r ∈ x0, ∀ n ∈ r.2.1, 0 ≤ g71_0 x0 n ∧ g71_0 x0 n < (x0.length : Int) := fun r hr n hn => by
  obtain ⟨i, hi⟩ := allm70 _ _ _ h r hr
  unfold role70 at hi
  simp only [Bool.and_eq_true] at hi
  obtain ⟨j, hj⟩ := allm70 _ _ _ hi.2.2 n hn
  unfold un70 at hj
  simp only [Bool.and_eq_true, Bool.not_eq_true', decide_eq_false_iff_not] at hj
  refine ⟨by omega, ?_⟩
  have h0 := hj.1
  unfold g71_0 at h0 ⊢
  cases hf : x0.findIdx? (is71 n) with
  | none => rw [hf] at h0; exact absurd (show idx none < 0 by decide) h0
  | some k =>
    obtain ⟨hk, _⟩ := List.findIdx?_eq_some_iff_getElem.1 hf
    show (k : Int) < _
    omega

theorem third70 (x0 : List RL70) (hl : x0.length ≤ 12) (hp : P91 x0 0) : ∀ (k i : Nat), i + k = x0.length → R70_14 (k + 1) (i : Int) x0 [⟨.bool, allI (free70 x0) i (x0.drop i)⟩] := by
  intro k
  induction k with
  | zero =>
    intro i hi
    rw [R70_14, if_neg (by simp only [decide_eq_true_eq]; omega), List.drop_eq_nil_of_le (by omega)]
    rfl
  | succ k ih =>
    intro i hi
    have e3 : (i : Int) + 1 = ((i + 1 : Nat) : Int) := by omega
    rw [R70_14, if_pos (by simp only [decide_eq_true_eq]; omega), drop_get x0 i (ByteArray.empty, [], ()) (by omega)]
    simp only [Int.toNat_natCast, allI]
    refine ⟨hp, by omega, by rw [len91]; omega, ?_⟩
    unfold free70
    by_cases c : (g91_0 x0 (i : Int)).getD i false = true
    · rw [if_pos c, c]
      rfl
    · rw [if_neg c, Bool.eq_false_iff.2 c, e3]
      exact ⟨by rw [i64_iff]; omega, ih (i + 1) (by omega)⟩

theorem inner70 (x0 : List RL70) (hl : x0.length ≤ 12) (i m : Nat) (hi : i < x0.length) (hu : (x0.getD i (ByteArray.empty, [], ())).2.1.length ≤ maxLen) (D : List Dyn) (v38 : Bool) : ∀ (k j : Nat), j + k = (x0.getD i (ByteArray.empty, [], ())).2.1.length →
    (allI (un70 x0 (x0.getD i (ByteArray.empty, [], ())).2.1) j ((x0.getD i (ByteArray.empty, [], ())).2.1.drop j) = true → R70_4 m ((i : Int) + 1) x0 D) → (allI (un70 x0 (x0.getD i (ByteArray.empty, [], ())).2.1) j ((x0.getD i (ByteArray.empty, [], ())).2.1.drop j) = false → D = [⟨.bool, false⟩]) → R70_9 (m + k + 1) (j : Int) v38 x0 (i : Int) D := by
  have hmx : maxLen ≤ 9223372036854775807 := by decide
  intro k
  induction k with
  | zero =>
    intro j hj hr _
    rw [List.drop_eq_nil_of_le (by omega)] at hr
    have hr := hr rfl
    show R70_9 (m + 0 + 1) _ _ _ _ D
    rw [R70_9]
    simp only [Int.toNat_natCast]
    refine ⟨by omega, by omega, (if_neg (by simp only [decide_eq_true_eq]; omega)).mpr ⟨by rw [i64_iff]; omega, hr⟩⟩
  | succ k ih =>
    intro j hj hr hn
    have hlt : j < (x0.getD i (ByteArray.empty, [], ())).2.1.length := by omega
    have e3 : (j : Int) + 1 = ((j + 1 : Nat) : Int) := by omega
    rw [drop_get _ j ByteArray.empty hlt] at hr hn
    simp only [allI] at hr hn
    show R70_9 (m + k + 1 + 1) _ _ _ _ _
    rw [R70_9]
    simp only [Int.toNat_natCast]
    refine ⟨by omega, by omega, (if_pos (by simp only [decide_eq_true_eq]; omega)).mpr ?_⟩
    refine ⟨by omega, by omega, by omega, by omega, ?_⟩
    by_cases hc : un70 x0 (x0.getD i (ByteArray.empty, [], ())).2.1 j ((x0.getD i (ByteArray.empty, [], ())).2.1.getD j ByteArray.empty) = true
    · have hnext : R70_9 (m + k + 1) ((j + 1 : Nat) : Int) v38 x0 (i : Int) D := ih (j + 1) (by omega) (fun h => hr (by rw [hc, h]; rfl)) (fun h => hn (by rw [hc, h]; rfl))
      unfold un70 at hc
      simp only [Bool.and_eq_true, Bool.not_eq_true', decide_eq_false_iff_not] at hc
      refine (if_neg (by simpa using hc.1)).mpr ?_
      by_cases h0 : (j : Int) > 0
      · have ej : ((j : Int) - 1).toNat = j - 1 := by omega
        have hb : lt70 ((x0.getD i (ByteArray.empty, [], ())).2.1.getD (j - 1) ByteArray.empty) ((x0.getD i (ByteArray.empty, [], ())).2.1.getD j ByteArray.empty) = true := by
          rcases (Bool.or_eq_true _ _).mp hc.2 with h | h
          · have : j = 0 := by simpa using h
            omega
          · exact h
        unfold lt70 at hb
        refine (if_pos (decide_eq_true h0)).mpr ?_
        simp only [ej]
        refine ⟨by omega, by omega, by rw [i64_iff]; omega, by omega, by omega, by omega, by omega, by omega, by omega, (if_neg (by rw [hb]; decide)).mpr ?_⟩
        rw [e3]
        exact ⟨inR_up hu hlt, hnext⟩
      · refine (if_neg (by simpa using h0)).mpr ?_
        rw [e3]
        exact ⟨inR_up hu hlt, hnext⟩
    · have hc := Bool.eq_false_iff.2 hc
      have hD : D = [⟨.bool, false⟩] := hn (by rw [hc]; rfl)
      unfold un70 at hc
      by_cases h1 : g71_0 x0 ((x0.getD i (ByteArray.empty, [], ())).2.1.getD j ByteArray.empty) < 0
      · exact (if_pos (decide_eq_true h1)).mpr hD
      · refine (if_neg (by simpa using h1)).mpr ?_
        rw [decide_eq_false h1] at hc
        by_cases h0 : (j : Int) > 0
        · have ej : ((j : Int) - 1).toNat = j - 1 := by omega
          have j0 : (j == 0) = false := by simp; omega
          rw [j0] at hc
          have hb : lt70 ((x0.getD i (ByteArray.empty, [], ())).2.1.getD (j - 1) ByteArray.empty) ((x0.getD i (ByteArray.empty, [], ())).2.1.getD j ByteArray.empty) = false := by simpa using hc
          unfold lt70 at hb
          refine (if_pos (decide_eq_true h0)).mpr ?_
          simp only [ej]
          exact ⟨by omega, by omega, by rw [i64_iff]; omega, by omega, by omega, by omega, by omega, by omega, by omega, (if_pos (by rw [hb]; decide)).mpr hD⟩
        · have j0 : (j == 0) = true := by simp; omega
          rw [j0] at hc
          cases hc

theorem first70 (x0 : List RL70) (hl : x0.length ≤ 12) (hw : ∀ r ∈ x0, r.2.1.length ≤ maxLen) (D : List Dyn) (m : Nat) : ∀ (k i : Nat), i + k = x0.length → (allI (role70 x0) i (x0.drop i) = true → R70_14 m 0 x0 D) → (allI (role70 x0) i (x0.drop i) = false → D = [⟨.bool, false⟩]) → ∃ n, R70_4 n (i : Int) x0 D := by
  intro k
  induction k with
  | zero =>
    intro i hi hr _
    rw [List.drop_eq_nil_of_le (by omega)] at hr
    refine ⟨m + 1, ?_⟩
    rw [R70_4, if_neg (by simp only [decide_eq_true_eq]; omega)]
    exact hr rfl
  | succ k ih =>
    intro i hi hr hn
    have hlt : i < x0.length := by omega
    have hu := hw _ (mem_getD x0 i (ByteArray.empty, [], ()) hlt)
    have e3 : ((i + 1 : Nat) : Int) = (i : Int) + 1 := by omega
    rw [drop_get x0 i (ByteArray.empty, [], ()) hlt] at hr hn
    simp only [allI] at hr hn
    have key : ∀ v38 : Bool, (g72_0 (x0.getD i (ByteArray.empty, [], ())).1 && (i == 0 || lt70 (x0.getD (i - 1) (ByteArray.empty, [], ())).1 (x0.getD i (ByteArray.empty, [], ())).1)) = true → ∃ n, R70_9 n 0 v38 x0 (i : Int) D := fun v38 hc => by
      have er : role70 x0 i (x0.getD i (ByteArray.empty, [], ())) = allI (un70 x0 (x0.getD i (ByteArray.empty, [], ())).2.1) 0 (x0.getD i (ByteArray.empty, [], ())).2.1 := by
        unfold role70
        rw [← Bool.and_assoc, hc, Bool.true_and]
      by_cases ha : allI (un70 x0 (x0.getD i (ByteArray.empty, [], ())).2.1) 0 (x0.getD i (ByteArray.empty, [], ())).2.1 = true
      · obtain ⟨n, hn⟩ := ih (i + 1) (by omega) (fun h => hr (by rw [er, ha, h]; rfl)) (fun h => hn (by rw [er, ha, h]; rfl))
        rw [e3] at hn
        exact ⟨_, inner70 x0 hl i n hlt hu D v38 _ 0 (by rw [Nat.zero_add]) (fun _ => hn) (fun h => by rw [List.drop_zero, ha] at h; cases h)⟩
      · exact ⟨_, inner70 x0 hl i 0 hlt hu D v38 _ 0 (by rw [Nat.zero_add]) (fun h => absurd (by rw [List.drop_zero] at h; exact h) ha) (fun h => hn (by rw [er, Bool.eq_false_iff.2 ha]; rfl))⟩
    by_cases hc1 : g72_0 (x0.getD i (ByteArray.empty, [], ())).1 = true
    case neg =>
      have er : role70 x0 i (x0.getD i (ByteArray.empty, [], ())) = false := by unfold role70; rw [Bool.eq_false_iff.2 hc1]; rfl
      refine ⟨1, ?_⟩
      rw [R70_4, if_pos (by simp only [decide_eq_true_eq]; omega)]
      simp only [Int.toNat_natCast]
      exact ⟨by omega, by omega, (if_pos (by rw [Bool.eq_false_iff.2 hc1]; rfl)).mpr (hn (by rw [er]; rfl))⟩
    by_cases h0 : (i : Int) > 0
    · have ej : ((i : Int) - 1).toNat = i - 1 := by omega
      have i0 : (i == 0) = false := by simp; omega
      by_cases hb : lt70 (x0.getD (i - 1) (ByteArray.empty, [], ())).1 (x0.getD i (ByteArray.empty, [], ())).1 = true
      case neg =>
        have hb := Bool.eq_false_iff.2 hb
        have er : role70 x0 i (x0.getD i (ByteArray.empty, [], ())) = false := by unfold role70; rw [hc1, i0, hb]; rfl
        refine ⟨1, ?_⟩
        rw [R70_4, if_pos (by simp only [decide_eq_true_eq]; omega)]
        unfold lt70 at hb
        simp only [Int.toNat_natCast, ej]
        exact ⟨by omega, by omega, (if_neg (by rw [hc1]; decide)).mpr ((if_pos (decide_eq_true h0)).mpr ⟨by rw [i64_iff]; omega, by omega, by omega, by omega, by omega, (if_pos (by rw [hb]; decide)).mpr (hn (by rw [er]; rfl))⟩)⟩
      obtain ⟨n, hn⟩ := key (!Op.bytesLess (ByteArray.toList (x0.getD (i - 1) (ByteArray.empty, [], ())).1) (ByteArray.toList (x0.getD i (ByteArray.empty, [], ())).1)) (by rw [hc1, hb]; simp)
      refine ⟨n + 1, ?_⟩
      rw [R70_4, if_pos (by simp only [decide_eq_true_eq]; omega)]
      unfold lt70 at hb
      simp only [Int.toNat_natCast, ej]
      exact ⟨by omega, by omega, (if_neg (by rw [hc1]; decide)).mpr ((if_pos (decide_eq_true h0)).mpr ⟨by rw [i64_iff]; omega, by omega, by omega, by omega, by omega, (if_neg (by rw [hb]; decide)).mpr hn⟩)⟩
    · have i0 : (i == 0) = true := by simp; omega
      obtain ⟨n, hn⟩ := key false (by rw [hc1, i0]; rfl)
      refine ⟨n + 1, ?_⟩
      rw [R70_4, if_pos (by simp only [decide_eq_true_eq]; omega)]
      simp only [Int.toNat_natCast]
      exact ⟨by omega, by omega, (if_neg (by rw [hc1]; decide)).mpr ((if_neg (by simpa using h0)).mpr hn)⟩

theorem top70 (x0 : List RL70) (hw : ∀ r ∈ x0, r.2.1.length ≤ maxLen) : ∃ n, R70 n x0 [⟨.bool, g70_0 x0⟩] := by
  unfold g70_0
  by_cases c : x0.length ≤ 12
  · rw [if_pos (decide_eq_true c)]
    obtain ⟨n, hn⟩ := first70 x0 c hw [⟨.bool, if allI (role70 x0) 0 x0 = true then allI (free70 x0) 0 x0 else false⟩] (x0.length + 1) x0.length 0 (by omega) (fun h => by
      rw [List.drop_zero] at h
      have := third70 x0 c ⟨by omega, closed70 h⟩ x0.length 0 (by omega)
      rw [List.drop_zero] at this
      rw [if_pos h]
      exact this) (fun h => by
      rw [List.drop_zero] at h
      rw [if_neg (by rw [h]; decide)])
    refine ⟨n + 1, ?_⟩
    rw [R70, if_neg (by simp only [decide_eq_true_eq]; omega)]
    exact hn
  · rw [if_neg (by simpa using c)]
    exact ⟨1, by rw [R70, if_pos (by simp only [decide_eq_true_eq]; omega)]⟩

def S70 : Am.Spec := { sig := sig70, pre := fun ⟨x0, _⟩ => P70 x0, res := fun ⟨x0, _⟩ => [⟨.bool, g70_0 x0⟩] }
theorem con70 : Contract Tryz.prog 70 S70 := contract_of Tryz.func70 hb70 (Nat.le_of_ble_eq_true (by kernel_rfl)) (fun ⟨x0, _⟩ h hwf K q =>
  let ⟨_, hn⟩ := top70 x0 (fun r hr => (hwf.1.2 r hr).2.1.1)
  (snd70 _).1 x0 _ hn K q)

end
end Go.Proofs.YtpellcnihifdaaaGreatDoor

/- Function 94 (spec.l00In): its runs between cut points. Written by a program of this repo (gen). -/
set_option linter.unusedVariables false
set_option linter.unusedSimpArgs false
set_option maxRecDepth 100000
namespace Go.Proofs.YtpellcnihifdaaaGreatDoor
open Go Go.Am Go.Proofs
noncomputable section
def ext94 : Ext := []
theorem ext94Ok : ExtOk Tryz.prog ext94 := trivial

noncomputable def b94 : Code := bodyOf Tryz.f94
theorem hb94 : Tryz.f94.body = some b94 := by kernel_rfl
def sig94 : List AT := [AT.v (Ty.int IntKind.i64), AT.v (Ty.int IntKind.i64), AT.v (Ty.int IntKind.i64)]
def tys94 : List Ty := [Ty.bool]
def kds94 : List RK := []
def oks94 : List AT := owns sig94
def P94 (x0 : Int) (x1 : Int) (x2 : Int) : Prop := True
def g94_0 (x0 : Int) (x1 : Int) (x2 : Int) : Bool := (if (Decidable.decide (x0 ≥ x1)) = true then Decidable.decide (x0 ≤ x2) else Bool.false)
theorem at94 (x0 : Int) (x1 : Int) (x2 : Int) (h : P94 x0 x1 x2) (K : Ctx) (q : Nat → Value) : AtV Tryz.prog 94 (PostR kds94 oks94 [⟨Ty.bool, g94_0 x0 x1 x2⟩] [] [] q K) 15 K q [] [.code b94] (entE 0 0 sig94 (x0, x1, x2, ())) (entL sig94 (x0, x1, x2, ())) := by
  unfold P94 at h
  unfold g94_0
  by_cases b0 : (Decidable.decide (x0 ≥ x1)) = true
  · try simp only [if_pos b0] at h ⊢
    exact AtV.ret Tryz.func94 tabOk ext94Ok mixed false [] tys94 [true] (a1 b0 trivial) (by kernel_rfl)
  · try simp only [if_neg b0] at h ⊢
    replace b0 := Bool.eq_false_iff.2 b0
    exact AtV.ret Tryz.func94 tabOk ext94Ok mixed false [] tys94 [false] (a1 b0 trivial) (by kernel_rfl)

def S94 : Am.Spec := { sig := sig94, pre := fun ⟨x0, x1, x2, _⟩ => P94 x0 x1 x2, res := fun ⟨x0, x1, x2, _⟩ => [⟨Ty.bool, g94_0 x0 x1 x2⟩], kds := kds94 }
theorem con94 : Contract Tryz.prog 94 S94 := contract_of Tryz.func94 hb94 (Nat.le_of_ble_eq_true (by kernel_rfl)) (fun ⟨x0, x1, x2, _⟩ h _ K q => at94 x0 x1 x2 h K q)


end
end Go.Proofs.YtpellcnihifdaaaGreatDoor

/- Function 73 (spec.l28Action): its runs between cut points. Written by a program of this repo (gen). -/
set_option linter.unusedVariables false
set_option linter.unusedSimpArgs false
set_option maxRecDepth 100000
namespace Go.Proofs.YtpellcnihifdaaaGreatDoor
open Go Go.Am Go.Proofs
noncomputable section
def ext73 : Ext := [(94, S94)]
theorem call73_94 : Callable Tryz.prog 94 := ⟨Tryz.f94, Tryz.func94, by kernel_rfl, by kernel_rfl⟩
theorem ext73Ok : ExtOk Tryz.prog ext73 := ⟨⟨call73_94, con94⟩, trivial⟩

noncomputable def b73 : Code := bodyOf Tryz.f73
theorem hb73 : Tryz.f73.body = some b73 := by kernel_rfl
def sig73 : List AT := [AT.v (Ty.int IntKind.i64)]
def tys73 : List Ty := [Ty.bool]
def kds73 : List RK := []
def oks73 : List AT := owns sig73
def P73 (x0 : Int) : Prop := True
def g73_0 (x0 : Int) : Bool := g94_0 x0 1 3
theorem at73 (x0 : Int) (h : P73 x0) (K : Ctx) (q : Nat → Value) : AtV Tryz.prog 73 (PostR kds73 oks73 [⟨Ty.bool, g73_0 x0⟩] [] [] q K) 5 K q [] [.code b73] (entE 0 0 sig73 (x0, ())) (entL sig73 (x0, ())) := by
  unfold P73 at h
  unfold g73_0
  exact AtV.ret Tryz.func73 tabOk ext73Ok mixed false [] tys73 [] (a1 trivial trivial) (by kernel_rfl)

def S73 : Am.Spec := { sig := sig73, pre := fun ⟨x0, _⟩ => P73 x0, res := fun ⟨x0, _⟩ => [⟨Ty.bool, g73_0 x0⟩], kds := kds73 }
theorem con73 : Contract Tryz.prog 73 S73 := contract_of Tryz.func73 hb73 (Nat.le_of_ble_eq_true (by kernel_rfl)) (fun ⟨x0, _⟩ h _ K q => at73 x0 h K q)


end
end Go.Proofs.YtpellcnihifdaaaGreatDoor

/- Function 55 (spec.l28One): its runs between cut points. Written by a program of this repo (gen). -/
set_option linter.unusedVariables false
set_option linter.unusedSimpArgs false
set_option maxRecDepth 100000
namespace Go.Proofs.YtpellcnihifdaaaGreatDoor
open Go Go.Am Go.Proofs
noncomputable section
def ext55 : Ext := [(71, S71), (72, S72), (73, S73)]
theorem call55_71 : Callable Tryz.prog 71 := ⟨Tryz.f71, Tryz.func71, by kernel_rfl, by kernel_rfl⟩
theorem call55_72 : Callable Tryz.prog 72 := ⟨Tryz.f72, Tryz.func72, by kernel_rfl, by kernel_rfl⟩
theorem call55_73 : Callable Tryz.prog 73 := ⟨Tryz.f73, Tryz.func73, by kernel_rfl, by kernel_rfl⟩
theorem ext55Ok : ExtOk Tryz.prog ext55 := ⟨⟨call55_71, con71⟩, ⟨call55_72, con72⟩, ⟨call55_73, con73⟩, trivial⟩

noncomputable def b55 : Code := bodyOf Tryz.f55
theorem hb55 : Tryz.f55.body = some b55 := by kernel_rfl
def sig55 : List AT := [AT.v (Ty.sl (Ty.cons Ty.str (Ty.cons (Ty.sl Ty.str) Ty.unit))), AT.p (Ty.cons Ty.str (Ty.cons Ty.str (Ty.cons (Ty.int IntKind.i64) Ty.unit)))]
def tys55 : List Ty := [Ty.bool]
def kds55 : List RK := []
def oks55 : List AT := owns sig55
def P55 (x0 : List (ByteArray × List ByteArray × Unit)) (x1 : ByteArray × ByteArray × Int × Unit) : Prop := True
def g55_0 (x0 : List (ByteArray × List ByteArray × Unit)) (x1 : ByteArray × ByteArray × Int × Unit) : Bool := (if (Decidable.decide (g71_0 x0 (Prod.fst x1) ≥ 0)) = true then (if (g72_0 (Prod.fst (Prod.snd x1))) = true then g73_0 (Prod.fst (Prod.snd (Prod.snd x1))) else Bool.false) else Bool.false)
theorem at55 (x0 : List (ByteArray × List ByteArray × Unit)) (x1 : ByteArray × ByteArray × Int × Unit) (h : P55 x0 x1) (K : Ctx) (q : Nat → Value) : AtV Tryz.prog 55 (PostR kds55 oks55 [⟨Ty.bool, g55_0 x0 x1⟩] [] [] q K) 26 K q [] [.code b55] (entE 0 0 sig55 (x0, x1, ())) (entL sig55 (x0, x1, ())) := by
  unfold P55 at h
  unfold g55_0
  by_cases b0 : (Decidable.decide (g71_0 x0 (Prod.fst x1) ≥ 0)) = true
  · try simp only [if_pos b0] at h ⊢
    by_cases b1 : (g72_0 (Prod.fst (Prod.snd x1))) = true
    · try simp only [if_pos b1] at h ⊢
      exact AtV.ret Tryz.func55 tabOk ext55Ok mixed false [] tys55 [true, true] (a1 trivial (a1 b0 (a1 trivial (a1 b1 (a1 trivial trivial))))) (by kernel_rfl)
    · try simp only [if_neg b1] at h ⊢
      replace b1 := Bool.eq_false_iff.2 b1
      exact AtV.ret Tryz.func55 tabOk ext55Ok mixed false [] tys55 [true, false] (a1 trivial (a1 b0 (a1 trivial (a1 b1 trivial)))) (by kernel_rfl)
  · try simp only [if_neg b0] at h ⊢
    replace b0 := Bool.eq_false_iff.2 b0
    exact AtV.ret Tryz.func55 tabOk ext55Ok mixed false [] tys55 [false, false] (a1 trivial (a1 b0 (a1 (rfl : Bool.false = Bool.false) trivial))) (by kernel_rfl)

def S55 : Am.Spec := { sig := sig55, pre := fun ⟨x0, x1, _⟩ => P55 x0 x1, res := fun ⟨x0, x1, _⟩ => [⟨Ty.bool, g55_0 x0 x1⟩], kds := kds55 }
theorem con55 : Contract Tryz.prog 55 S55 := contract_of Tryz.func55 hb55 (Nat.le_of_ble_eq_true (by kernel_rfl)) (fun ⟨x0, x1, _⟩ h _ K q => at55 x0 x1 h K q)


end
end Go.Proofs.YtpellcnihifdaaaGreatDoor

/- Function 56 (spec.l28Before): its runs between cut points. Written by a program of this repo (gen). -/
set_option linter.unusedVariables false
set_option linter.unusedSimpArgs false
set_option maxRecDepth 100000
namespace Go.Proofs.YtpellcnihifdaaaGreatDoor
open Go Go.Am Go.Proofs
noncomputable section
def ext56 : Ext := []
theorem ext56Ok : ExtOk Tryz.prog ext56 := trivial

noncomputable def b56 : Code := bodyOf Tryz.f56
theorem hb56 : Tryz.f56.body = some b56 := by kernel_rfl
def sig56 : List AT := [AT.p (Ty.cons Ty.str (Ty.cons Ty.str (Ty.cons (Ty.int IntKind.i64) Ty.unit))), AT.p (Ty.cons Ty.str (Ty.cons Ty.str (Ty.cons (Ty.int IntKind.i64) Ty.unit)))]
def tys56 : List Ty := [Ty.bool]
def kds56 : List RK := []
def oks56 : List AT := owns sig56
def P56 (x0 : ByteArray × ByteArray × Int × Unit) (x1 : ByteArray × ByteArray × Int × Unit) : Prop := True
def g56_0 (x0 : ByteArray × ByteArray × Int × Unit) (x1 : ByteArray × ByteArray × Int × Unit) : Bool := (if (!ByteArray.toList (Prod.fst x0) == ByteArray.toList (Prod.fst x1)) = true then Op.bytesLess (ByteArray.toList (Prod.fst x0)) (ByteArray.toList (Prod.fst x1)) else (if (!ByteArray.toList (Prod.fst (Prod.snd x0)) == ByteArray.toList (Prod.fst (Prod.snd x1))) = true then Op.bytesLess (ByteArray.toList (Prod.fst (Prod.snd x0))) (ByteArray.toList (Prod.fst (Prod.snd x1))) else Decidable.decide (Prod.fst (Prod.snd (Prod.snd x0)) < Prod.fst (Prod.snd (Prod.snd x1)))))
theorem at56 (x0 : ByteArray × ByteArray × Int × Unit) (x1 : ByteArray × ByteArray × Int × Unit) (h : P56 x0 x1) (K : Ctx) (q : Nat → Value) : AtV Tryz.prog 56 (PostR kds56 oks56 [⟨Ty.bool, g56_0 x0 x1⟩] [] [] q K) 50 K q [] [.code b56] (entE 0 0 sig56 (x0, x1, ())) (entL sig56 (x0, x1, ())) := by
  unfold P56 at h
  unfold g56_0
  by_cases b0 : (!ByteArray.toList (Prod.fst x0) == ByteArray.toList (Prod.fst x1)) = true
  · try simp only [if_pos b0] at h ⊢
    exact AtV.ret Tryz.func56 tabOk ext56Ok mixed false [] tys56 [true] (a1 b0 trivial) (by kernel_rfl)
  · try simp only [if_neg b0] at h ⊢
    replace b0 := Bool.eq_false_iff.2 b0
    by_cases b1 : (!ByteArray.toList (Prod.fst (Prod.snd x0)) == ByteArray.toList (Prod.fst (Prod.snd x1))) = true
    · try simp only [if_pos b1] at h ⊢
      exact AtV.ret Tryz.func56 tabOk ext56Ok mixed false [] tys56 [false, true] (a1 b0 (a1 b1 trivial)) (by kernel_rfl)
    · try simp only [if_neg b1] at h ⊢
      replace b1 := Bool.eq_false_iff.2 b1
      exact AtV.ret Tryz.func56 tabOk ext56Ok mixed false [] tys56 [false, false] (a1 b0 (a1 b1 trivial)) (by kernel_rfl)

def S56 : Am.Spec := { sig := sig56, pre := fun ⟨x0, x1, _⟩ => P56 x0 x1, res := fun ⟨x0, x1, _⟩ => [⟨Ty.bool, g56_0 x0 x1⟩], kds := kds56 }
theorem con56 : Contract Tryz.prog 56 S56 := contract_of Tryz.func56 hb56 (Nat.le_of_ble_eq_true (by kernel_rfl)) (fun ⟨x0, x1, _⟩ h _ K q => at56 x0 x1 h K q)


end
end Go.Proofs.YtpellcnihifdaaaGreatDoor

/- Function 54 (spec.l28Ok): its runs between cut points. Written by a program of this repo (gen). -/
set_option linter.unusedVariables false
set_option linter.unusedSimpArgs false
set_option maxRecDepth 100000
namespace Go.Proofs.YtpellcnihifdaaaGreatDoor
open Go Go.Am Go.Proofs
noncomputable section
def ext54 : Ext := [(70, S70), (55, S55), (56, S56)]
theorem call54_70 : Callable Tryz.prog 70 := ⟨Tryz.f70, Tryz.func70, by kernel_rfl, by kernel_rfl⟩
theorem call54_55 : Callable Tryz.prog 55 := ⟨Tryz.f55, Tryz.func55, by kernel_rfl, by kernel_rfl⟩
theorem call54_56 : Callable Tryz.prog 56 := ⟨Tryz.f56, Tryz.func56, by kernel_rfl, by kernel_rfl⟩
theorem ext54Ok : ExtOk Tryz.prog ext54 := ⟨⟨call54_70, con70⟩, ⟨call54_55, con55⟩, ⟨call54_56, con56⟩, trivial⟩

noncomputable def b54 : Code := bodyOf Tryz.f54
theorem hb54 : Tryz.f54.body = some b54 := by kernel_rfl
def sig54 : List AT := [AT.v (Ty.sl (Ty.cons Ty.str (Ty.cons (Ty.sl Ty.str) Ty.unit))), AT.v (Ty.sl (Ty.cons Ty.str (Ty.cons Ty.str (Ty.cons (Ty.int IntKind.i64) Ty.unit))))]
def tys54 : List Ty := [Ty.bool]
def kds54 : List RK := []
def oks54 : List AT := owns sig54
def E54_4 (v5 : Int) (x0 : List (ByteArray × List ByteArray × Unit)) (x1 : List (ByteArray × ByteArray × Int × Unit)) : Env := [(0, PV.a (Atom.sl (Ty.cons Ty.str (Ty.cons (Ty.sl Ty.str) Ty.unit)) x0)), (1, PV.a (Atom.sl (Ty.cons Ty.str (Ty.cons Ty.str (Ty.cons (Ty.int IntKind.i64) Ty.unit))) x1)), (5, PV.a (Atom.val (Value.int IntKind.i64 v5)))]
def L54_4 (v5 : Int) (x0 : List (ByteArray × List ByteArray × Unit)) (x1 : List (ByteArray × ByteArray × Int × Unit)) : Heap := []
mutual
def R54 : Nat → List (ByteArray × List ByteArray × Unit) → List (ByteArray × ByteArray × Int × Unit) → List Dyn → Prop
  | 0, _, _, _ => False
  | n + 1, x0, x1, ds => (if (!g70_0 x0) = true then (ds = [Dyn.mk Ty.bool Bool.false]) else (if (Decidable.decide ((↑(List.length x1) : Int) > 48)) = true then (ds = [Dyn.mk Ty.bool Bool.false]) else (R54_4 n (0) (x0) (x1) ds)))
def R54_4 : Nat → Int → List (ByteArray × List ByteArray × Unit) → List (ByteArray × ByteArray × Int × Unit) → List Dyn → Prop
  | 0, _, _, _, _ => False
  | n + 1, v5, x0, x1, ds => (if (Decidable.decide (v5 < (↑(List.length x1) : Int))) = true then ((0 ≤ v5) ∧ (v5 < (↑(List.length x1) : Int)) ∧ (if (!g55_0 x0 (List.getD x1 (Int.toNat v5) (ByteArray.empty, ByteArray.empty, 0, ()))) = true then (ds = [Dyn.mk Ty.bool Bool.false]) else (if (Decidable.decide (v5 > 0)) = true then ((InR IntKind.i64 (v5 - 1)) ∧ ((0 ≤ v5 - 1) ∧ (v5 - 1 < (↑(List.length x1) : Int)) ∧ ((0 ≤ v5) ∧ (v5 < (↑(List.length x1) : Int)) ∧ (if (!g56_0 (List.getD x1 (Int.toNat (v5 - 1)) (ByteArray.empty, ByteArray.empty, 0, ())) (List.getD x1 (Int.toNat v5) (ByteArray.empty, ByteArray.empty, 0, ()))) = true then (ds = [Dyn.mk Ty.bool Bool.false]) else ((InR IntKind.i64 (v5 + 1)) ∧ (R54_4 n (v5 + 1) (x0) (x1) ds)))))) else ((InR IntKind.i64 (v5 + 1)) ∧ (R54_4 n (v5 + 1) (x0) (x1) ds))))) else (ds = [Dyn.mk Ty.bool Bool.true]))
end
theorem snd54 : ∀ n, (∀ (x0 : List (ByteArray × List ByteArray × Unit)) (x1 : List (ByteArray × ByteArray × Int × Unit)) ds, R54 n x0 x1 ds → ∀ K q, AtV Tryz.prog 54 (PostR kds54 oks54 ds [] [] q K) 41 K q [] [.code b54] (entE 0 0 sig54 (x0, x1, ())) (entL sig54 (x0, x1, ()))) ∧ (∀ (v5 : Int) (x0 : List (ByteArray × List ByteArray × Unit)) (x1 : List (ByteArray × ByteArray × Int × Unit)) ds, R54_4 n v5 x0 x1 ds → ∀ K q, AtV Tryz.prog 54 (PostR kds54 oks54 ds [] [] q K) 41 K q [] (cutAt b54 4) (E54_4 v5 x0 x1) (L54_4 v5 x0 x1)) := by
  intro n
  induction n with
  | zero => exact ⟨fun _ _ _ h => by simp only [R54] at h, fun _ _ _ _ h => by simp only [R54_4] at h⟩
  | succ n ih =>
  obtain ⟨ih, ih4⟩ := ih
  refine ⟨?_, ?_⟩
  · intro x0 x1 ds h K q
    rw [R54] at h
    by_cases b0 : (!g70_0 x0) = true
    · rw [if_pos b0] at h
      subst h
      exact AtV.ret Tryz.func54 tabOk ext54Ok mixed false [] tys54 [true, true] (a1 trivial (a1 b0 (a1 (rfl : Bool.true = Bool.true) trivial))) (by kernel_rfl)
    · rw [if_neg b0] at h
      replace b0 := Bool.eq_false_iff.2 b0
      by_cases b1 : (Decidable.decide ((↑(List.length x1) : Int) > 48)) = true
      · rw [if_pos b1] at h
        subst h
        exact AtV.ret Tryz.func54 tabOk ext54Ok mixed false [] tys54 [false, true] (a1 trivial (a1 b0 (a1 b1 trivial))) (by kernel_rfl)
      · rw [if_neg b1] at h
        replace b1 := Bool.eq_false_iff.2 b1
        exact AtV.go tabOk ext54Ok mixed false [] [] [0, 1, 5] [] [false, false] (a1 trivial (a1 b0 (a1 b1 trivial))) (ih4 _ _ _ _ h K q) (by kernel_rfl)

  · intro v5 x0 x1 ds h K q
    rw [R54_4] at h
    by_cases b0 : (Decidable.decide (v5 < (↑(List.length x1) : Int))) = true
    · rw [if_pos b0] at h
      obtain ⟨s0, s1, h⟩ := h
      by_cases b1 : (!g55_0 x0 (List.getD x1 (Int.toNat v5) (ByteArray.empty, ByteArray.empty, 0, ()))) = true
      · rw [if_pos b1] at h
        subst h
        exact AtV.ret Tryz.func54 tabOk ext54Ok mixed false [] tys54 [true, true, true] (a1 b0 (a1 s0 (a1 s1 (a1 trivial (a1 b1 (a1 (rfl : Bool.true = Bool.true) trivial)))))) (by kernel_rfl)
      · rw [if_neg b1] at h
        replace b1 := Bool.eq_false_iff.2 b1
        by_cases b2 : (Decidable.decide (v5 > 0)) = true
        · rw [if_pos b2] at h
          obtain ⟨s2, h⟩ := h
          obtain ⟨s3, s4, h⟩ := h
          obtain ⟨s5, s6, h⟩ := h
          by_cases b3 : (!g56_0 (List.getD x1 (Int.toNat (v5 - 1)) (ByteArray.empty, ByteArray.empty, 0, ())) (List.getD x1 (Int.toNat v5) (ByteArray.empty, ByteArray.empty, 0, ()))) = true
          · rw [if_pos b3] at h
            subst h
            exact AtV.ret Tryz.func54 tabOk ext54Ok mixed false [] tys54 [true, false, true, true] (a1 b0 (a1 s0 (a1 s1 (a1 trivial (a1 b1 (a1 b2 (a1 s2 (a1 s3 (a1 s4 (a1 s5 (a1 s6 (a1 trivial (a1 b3 trivial))))))))))))) (by kernel_rfl)
          · rw [if_neg b3] at h
            replace b3 := Bool.eq_false_iff.2 b3
            obtain ⟨s7, h⟩ := h
            exact AtV.go tabOk ext54Ok mixed false [] [] [0, 1, 5] [] [true, false, true, false] (a1 b0 (a1 s0 (a1 s1 (a1 trivial (a1 b1 (a1 b2 (a1 s2 (a1 s3 (a1 s4 (a1 s5 (a1 s6 (a1 trivial (a1 b3 (a1 s7 trivial)))))))))))))) (ih4 _ _ _ _ h K q) (by kernel_rfl)
        · rw [if_neg b2] at h
          replace b2 := Bool.eq_false_iff.2 b2
          obtain ⟨s2, h⟩ := h
          exact AtV.go tabOk ext54Ok mixed false [] [] [0, 1, 5] [] [true, false, false, false] (a1 b0 (a1 s0 (a1 s1 (a1 trivial (a1 b1 (a1 b2 (a1 (rfl : Bool.false = Bool.false) (a1 s2 trivial)))))))) (ih4 _ _ _ _ h K q) (by kernel_rfl)
    · rw [if_neg b0] at h
      replace b0 := Bool.eq_false_iff.2 b0
      subst h
      exact AtV.ret Tryz.func54 tabOk ext54Ok mixed false [] tys54 [false] (a1 b0 trivial) (by kernel_rfl)



abbrev RL54 := ByteArray × List ByteArray × Unit
abbrev GR54 := ByteArray × ByteArray × Int × Unit
def ok54 (x0 : List RL54) (x1 : List GR54) (i : Nat) (x : GR54) : Bool := g55_0 x0 x && (i == 0 || g56_0 (x1.getD (i - 1) (ByteArray.empty, ByteArray.empty, 0, ())) x)
def g54_0 (x0 : List RL54) (x1 : List GR54) : Bool := if g70_0 x0 = true then (if decide ((x1.length : Int) ≤ 48) = true then allI (ok54 x0 x1) 0 x1 else false) else false
def P54 (x0 : List RL54) (x1 : List GR54) : Prop := True

theorem step54 (n i : Nat) (x0 : List RL54) (x1 : List GR54) (hm : x1.length ≤ maxLen) (hi : i < x1.length) (ds : List Dyn)
    (h : if ok54 x0 x1 i (x1.getD i (ByteArray.empty, ByteArray.empty, 0, ())) = true then R54_4 n ((i : Int) + 1) x0 x1 ds else ds = [⟨.bool, false⟩]) : R54_4 (n + 1) (i : Int) x0 x1 ds := by
  have hu := inR_up hm hi
  have hmx : maxLen ≤ 9223372036854775807 := by decide
  rw [R54_4, if_pos (by simp only [decide_eq_true_eq]; omega)]
  simp only [Int.toNat_natCast]
  refine ⟨by omega, by omega, ?_⟩
  unfold ok54 at h
  by_cases h1 : g55_0 x0 (x1.getD i (ByteArray.empty, ByteArray.empty, 0, ())) = true
  case neg =>
    have h1 := Bool.eq_false_iff.2 h1
    refine (if_pos (by rw [h1]; rfl)).mpr ?_
    rw [h1] at h
    simpa using h
  refine (if_neg (by rw [h1]; decide)).mpr ?_
  rw [h1] at h
  by_cases h0 : (i : Int) > 0
  case neg =>
    refine (if_neg (by simpa using h0)).mpr ?_
    have hi0 : (i == 0) = true := by simp; omega
    rw [hi0] at h
    exact ⟨hu, by simpa using h⟩
  refine (if_pos (by simpa using h0)).mpr ?_
  have hi0 : (i == 0) = false := by simp; omega
  have e : ((i : Int) - 1).toNat = i - 1 := by omega
  have hd : InR .i64 ((i : Int) - 1) := by rw [i64_iff]; omega
  rw [hi0] at h
  simp only [e]
  refine ⟨hd, by omega, by omega, by omega, by omega, ?_⟩
  by_cases h3 : g56_0 (x1.getD (i - 1) (ByteArray.empty, ByteArray.empty, 0, ())) (x1.getD i (ByteArray.empty, ByteArray.empty, 0, ())) = true
  · refine (if_neg (by rw [h3]; decide)).mpr ?_
    rw [h3] at h
    exact ⟨hu, by simpa using h⟩
  · have h3 := Bool.eq_false_iff.2 h3
    refine (if_pos (by rw [h3]; rfl)).mpr ?_
    rw [h3] at h
    simpa using h

theorem top54 (x0 : List RL54) (x1 : List GR54) (hw : x1.length ≤ maxLen) : ∃ n, R54 n x0 x1 [⟨.bool, g54_0 x0 x1⟩] := by
  unfold g54_0
  by_cases c : g70_0 x0 = true
  · rw [if_pos c]
    by_cases c2 : (x1.length : Int) ≤ 48
    · rw [if_pos (decide_eq_true c2)]
      have key := loop_testI x1 (ByteArray.empty, ByteArray.empty, 0, ()) (ok54 x0 x1) [(⟨.bool, false⟩ : Dyn)] [⟨.bool, true⟩] (fun n i ds => R54_4 n i x0 x1 ds) (fun n => ?_) (fun n i hi hok ds hr => ?_) (fun n i hi hok => ?_)
      · refine ⟨x1.length + 1 + 1, ?_⟩
        rw [R54]
        refine (if_neg (by rw [c]; decide)).mpr ((if_neg (by simp only [decide_eq_true_eq]; omega)).mpr ?_)
        cases h : allI (ok54 x0 x1) 0 x1 with
        | true => rw [if_pos h] at key; simpa using key
        | false => rw [if_neg (by rw [h]; simp)] at key; simpa using key
      · rw [R54_4, if_neg (by simp)]
      · exact step54 n i x0 x1 hw hi ds (by rw [if_pos hok]; exact hr)
      · exact step54 n i x0 x1 hw hi _ (by rw [if_neg (by rw [hok]; simp)])
    · rw [if_neg (by simpa using c2)]
      exact ⟨1, by rw [R54]; exact (if_neg (by rw [c]; decide)).mpr ((if_pos (by simp only [decide_eq_true_eq]; omega)).mpr rfl)⟩
  · rw [if_neg c]
    exact ⟨1, by rw [R54]; exact (if_pos (by rw [Bool.eq_false_iff.2 c]; rfl)).mpr rfl⟩

def S54 : Am.Spec := { sig := sig54, pre := fun ⟨x0, x1, _⟩ => P54 x0 x1, res := fun ⟨x0, x1, _⟩ => [⟨.bool, g54_0 x0 x1⟩] }
theorem con54 : Contract Tryz.prog 54 S54 := contract_of Tryz.func54 hb54 (Nat.le_of_ble_eq_true (by kernel_rfl)) (fun ⟨x0, x1, _⟩ h hwf K q =>
  let ⟨_, hn⟩ := top54 x0 x1 hwf.2.1.1
  (snd54 _).1 x0 x1 _ hn K q)

end
end Go.Proofs.YtpellcnihifdaaaGreatDoor

/- Function 34 (spec.AddGrant): its runs between cut points. Written by a program of this repo (gen). -/
set_option linter.unusedVariables false
set_option linter.unusedSimpArgs false
set_option maxRecDepth 100000
namespace Go.Proofs.YtpellcnihifdaaaGreatDoor
open Go Go.Am Go.Proofs
noncomputable section
def ext34 : Ext := [(54, S54), (55, S55), (56, S56)]
theorem call34_54 : Callable Tryz.prog 54 := ⟨Tryz.f54, Tryz.func54, by kernel_rfl, by kernel_rfl⟩
theorem call34_55 : Callable Tryz.prog 55 := ⟨Tryz.f55, Tryz.func55, by kernel_rfl, by kernel_rfl⟩
theorem call34_56 : Callable Tryz.prog 56 := ⟨Tryz.f56, Tryz.func56, by kernel_rfl, by kernel_rfl⟩
theorem ext34Ok : ExtOk Tryz.prog ext34 := ⟨⟨call34_54, con54⟩, ⟨call34_55, con55⟩, ⟨call34_56, con56⟩, trivial⟩

noncomputable def b34 : Code := bodyOf Tryz.f34
theorem hb34 : Tryz.f34.body = some b34 := by kernel_rfl
def sig34 : List AT := [AT.v (Ty.sl (Ty.cons Ty.str (Ty.cons (Ty.sl Ty.str) Ty.unit))), AT.v (Ty.sl (Ty.cons Ty.str (Ty.cons Ty.str (Ty.cons (Ty.int IntKind.i64) Ty.unit)))), AT.v (Ty.cons Ty.str (Ty.cons Ty.str (Ty.cons (Ty.int IntKind.i64) Ty.unit)))]
def tys34 : List Ty := [Ty.sl (Ty.cons Ty.str (Ty.cons Ty.str (Ty.cons (Ty.int IntKind.i64) Ty.unit))), Ty.int IntKind.i64]
def kds34 : List RK := []
def oks34 : List AT := owns sig34
def E34_6 (v8 : Int) (x1 : List (ByteArray × ByteArray × Int × Unit)) (x2 : ByteArray × ByteArray × Int × Unit) : Env := [(1, PV.a (Atom.sl (Ty.cons Ty.str (Ty.cons Ty.str (Ty.cons (Ty.int IntKind.i64) Ty.unit))) x1)), (5, PV.a (Atom.optr 0 0 [])), (8, PV.a (Atom.val (Value.int IntKind.i64 v8)))]
def L34_6 (v8 : Int) (x1 : List (ByteArray × ByteArray × Int × Unit)) (x2 : ByteArray × ByteArray × Int × Unit) : Heap := [Option.some (Arr.mk (Ty.cons Ty.str (Ty.cons Ty.str (Ty.cons (Ty.int IntKind.i64) Ty.unit))) [x2] Bool.true Option.none (Option.some Bool.false))]
mutual
def R34 : Nat → List (ByteArray × List ByteArray × Unit) → List (ByteArray × ByteArray × Int × Unit) → ByteArray × ByteArray × Int × Unit → List Dyn → Prop
  | 0, _, _, _, _ => False
  | n + 1, x0, x1, x2, ds => (if (!g54_0 x0 x1) = true then (ds = [Dyn.mk (Ty.sl (Ty.cons Ty.str (Ty.cons Ty.str (Ty.cons (Ty.int IntKind.i64) Ty.unit)))) [], Dyn.mk (Ty.int IntKind.i64) 1]) else (if (!g55_0 x0 x2) = true then (ds = [Dyn.mk (Ty.sl (Ty.cons Ty.str (Ty.cons Ty.str (Ty.cons (Ty.int IntKind.i64) Ty.unit)))) [], Dyn.mk (Ty.int IntKind.i64) 2]) else (R34_6 n (0) (x1) (x2) ds)))
def R34_6 : Nat → Int → List (ByteArray × ByteArray × Int × Unit) → ByteArray × ByteArray × Int × Unit → List Dyn → Prop
  | 0, _, _, _, _ => False
  | n + 1, v8, x1, x2, ds => (if (Decidable.decide (v8 < (↑(List.length x1) : Int))) = true then ((0 ≤ v8) ∧ (v8 < (↑(List.length x1) : Int)) ∧ (if (g56_0 (List.getD x1 (Int.toNat v8) (ByteArray.empty, ByteArray.empty, 0, ())) x2) = true then ((InR IntKind.i64 (v8 + 1)) ∧ (R34_6 n (v8 + 1) (x1) (x2) ds)) else ((0 ≤ v8) ∧ (v8 < (↑(List.length x1) : Int)) ∧ (if (eqD (Ty.cons Ty.str (Ty.cons Ty.str (Ty.cons (Ty.int IntKind.i64) Ty.unit))) (List.getD x1 (Int.toNat v8) (ByteArray.empty, ByteArray.empty, 0, ())) x2) = true then (ds = [Dyn.mk (Ty.sl (Ty.cons Ty.str (Ty.cons Ty.str (Ty.cons (Ty.int IntKind.i64) Ty.unit)))) [], Dyn.mk (Ty.int IntKind.i64) 4]) else (if ((↑(List.length x1) : Int) == 48) = true then (ds = [Dyn.mk (Ty.sl (Ty.cons Ty.str (Ty.cons Ty.str (Ty.cons (Ty.int IntKind.i64) Ty.unit)))) [], Dyn.mk (Ty.int IntKind.i64) 5]) else ((0 ≤ v8) ∧ (v8 ≤ (↑(List.length x1) : Int)) ∧ (((0 + List.length (List.take (Int.toNat v8) x1)) * 40 ≤ 140737488355328) ∧ (((List.length ([] ++ List.take (Int.toNat v8) x1) + 1) * 40 ≤ 140737488355328) ∧ ((0 ≤ v8) ∧ (v8 ≤ (↑(List.length x1) : Int)) ∧ (((List.length ([] ++ List.take (Int.toNat v8) x1 ++ [x2]) + List.length (List.drop (Int.toNat v8) x1)) * 40 ≤ 140737488355328) ∧ (ds = [Dyn.mk (Ty.sl (Ty.cons Ty.str (Ty.cons Ty.str (Ty.cons (Ty.int IntKind.i64) Ty.unit)))) ([] ++ List.take (Int.toNat v8) x1 ++ [x2] ++ List.drop (Int.toNat v8) x1), Dyn.mk (Ty.int IntKind.i64) 0]))))))))))) else (if ((↑(List.length x1) : Int) == 48) = true then (ds = [Dyn.mk (Ty.sl (Ty.cons Ty.str (Ty.cons Ty.str (Ty.cons (Ty.int IntKind.i64) Ty.unit)))) [], Dyn.mk (Ty.int IntKind.i64) 5]) else ((0 ≤ v8) ∧ (v8 ≤ (↑(List.length x1) : Int)) ∧ (((0 + List.length (List.take (Int.toNat v8) x1)) * 40 ≤ 140737488355328) ∧ (((List.length ([] ++ List.take (Int.toNat v8) x1) + 1) * 40 ≤ 140737488355328) ∧ ((0 ≤ v8) ∧ (v8 ≤ (↑(List.length x1) : Int)) ∧ (((List.length ([] ++ List.take (Int.toNat v8) x1 ++ [x2]) + List.length (List.drop (Int.toNat v8) x1)) * 40 ≤ 140737488355328) ∧ (ds = [Dyn.mk (Ty.sl (Ty.cons Ty.str (Ty.cons Ty.str (Ty.cons (Ty.int IntKind.i64) Ty.unit)))) ([] ++ List.take (Int.toNat v8) x1 ++ [x2] ++ List.drop (Int.toNat v8) x1), Dyn.mk (Ty.int IntKind.i64) 0]))))))))
end
theorem snd34 : ∀ n, (∀ (x0 : List (ByteArray × List ByteArray × Unit)) (x1 : List (ByteArray × ByteArray × Int × Unit)) (x2 : ByteArray × ByteArray × Int × Unit) ds, R34 n x0 x1 x2 ds → ∀ K q, AtV Tryz.prog 34 (PostR kds34 oks34 ds [] [] q K) 58 K q [] [.code b34] (entE 0 0 sig34 (x0, x1, x2, ())) (entL sig34 (x0, x1, x2, ()))) ∧ (∀ (v8 : Int) (x1 : List (ByteArray × ByteArray × Int × Unit)) (x2 : ByteArray × ByteArray × Int × Unit) ds, R34_6 n v8 x1 x2 ds → ∀ K q, AtV Tryz.prog 34 (PostR kds34 oks34 ds [] [] q K) 58 K q [] (cutAt b34 6) (E34_6 v8 x1 x2) (L34_6 v8 x1 x2)) := by
  intro n
  induction n with
  | zero => exact ⟨fun _ _ _ _ h => by simp only [R34] at h, fun _ _ _ _ h => by simp only [R34_6] at h⟩
  | succ n ih =>
  obtain ⟨ih, ih6⟩ := ih
  refine ⟨?_, ?_⟩
  · intro x0 x1 x2 ds h K q
    rw [R34] at h
    by_cases b0 : (!g54_0 x0 x1) = true
    · rw [if_pos b0] at h
      subst h
      exact AtV.ret Tryz.func34 tabOk ext34Ok mixed false [] tys34 [true] (a1 trivial (a1 b0 trivial)) (by kernel_rfl)
    · rw [if_neg b0] at h
      replace b0 := Bool.eq_false_iff.2 b0
      by_cases b1 : (!g55_0 x0 x2) = true
      · rw [if_pos b1] at h
        subst h
        exact AtV.ret Tryz.func34 tabOk ext34Ok mixed false [] tys34 [false, true] (a1 trivial (a1 b0 (a1 trivial (a1 b1 trivial)))) (by kernel_rfl)
      · rw [if_neg b1] at h
        replace b1 := Bool.eq_false_iff.2 b1
        exact AtV.go tabOk ext34Ok mixed false [] [] [1, 5, 8] [0] [false, false] (a1 trivial (a1 b0 (a1 trivial (a1 b1 trivial)))) (ih6 _ _ _ _ h K q) (by kernel_rfl)

  · intro v8 x1 x2 ds h K q
    rw [R34_6] at h
    by_cases b0 : (Decidable.decide (v8 < (↑(List.length x1) : Int))) = true
    · rw [if_pos b0] at h
      obtain ⟨s0, s1, h⟩ := h
      by_cases b1 : (g56_0 (List.getD x1 (Int.toNat v8) (ByteArray.empty, ByteArray.empty, 0, ())) x2) = true
      · rw [if_pos b1] at h
        obtain ⟨s2, h⟩ := h
        exact AtV.go tabOk ext34Ok mixed false [] [] [1, 5, 8] [0] [true, true] (a1 b0 (a1 s0 (a1 s1 (a1 trivial (a1 b1 (a1 s2 trivial)))))) (ih6 _ _ _ _ h K q) (by kernel_rfl)
      · rw [if_neg b1] at h
        replace b1 := Bool.eq_false_iff.2 b1
        obtain ⟨s2, s3, h⟩ := h
        by_cases b2 : (eqD (Ty.cons Ty.str (Ty.cons Ty.str (Ty.cons (Ty.int IntKind.i64) Ty.unit))) (List.getD x1 (Int.toNat v8) (ByteArray.empty, ByteArray.empty, 0, ())) x2) = true
        · rw [if_pos b2] at h
          subst h
          exact AtV.ret Tryz.func34 tabOk ext34Ok mixed false [] tys34 [true, false, true, true] (a1 b0 (a1 s0 (a1 s1 (a1 trivial (a1 b1 (a1 b0 (a1 s2 (a1 s3 (a1 b2 trivial))))))))) (by kernel_rfl)
        · rw [if_neg b2] at h
          replace b2 := Bool.eq_false_iff.2 b2
          by_cases b3 : ((↑(List.length x1) : Int) == 48) = true
          · rw [if_pos b3] at h
            subst h
            exact AtV.ret Tryz.func34 tabOk ext34Ok mixed false [] tys34 [true, false, true, false, true] (a1 b0 (a1 s0 (a1 s1 (a1 trivial (a1 b1 (a1 b0 (a1 s2 (a1 s3 (a1 b2 (a1 b3 trivial)))))))))) (by kernel_rfl)
          · rw [if_neg b3] at h
            replace b3 := Bool.eq_false_iff.2 b3
            obtain ⟨s4, s5, h⟩ := h
            obtain ⟨s6, h⟩ := h
            obtain ⟨s7, h⟩ := h
            obtain ⟨s8, s9, h⟩ := h
            obtain ⟨s10, h⟩ := h
            subst h
            exact AtV.ret Tryz.func34 tabOk ext34Ok mixed false [] tys34 [true, false, true, false, false] (a1 b0 (a1 s0 (a1 s1 (a1 trivial (a1 b1 (a1 b0 (a1 s2 (a1 s3 (a1 b2 (a1 b3 (a1 s4 (a1 s5 (a1 s6 (a1 s7 (a1 s8 (a1 s9 (a1 s10 trivial))))))))))))))))) (by kernel_rfl)
    · rw [if_neg b0] at h
      replace b0 := Bool.eq_false_iff.2 b0
      by_cases b1 : ((↑(List.length x1) : Int) == 48) = true
      · rw [if_pos b1] at h
        subst h
        exact AtV.ret Tryz.func34 tabOk ext34Ok mixed false [] tys34 [false, false, false, false, true] (a1 b0 (a1 (rfl : Bool.false = Bool.false) (a1 b0 (a1 (rfl : Bool.false = Bool.false) (a1 b1 trivial))))) (by kernel_rfl)
      · rw [if_neg b1] at h
        replace b1 := Bool.eq_false_iff.2 b1
        obtain ⟨s0, s1, h⟩ := h
        obtain ⟨s2, h⟩ := h
        obtain ⟨s3, h⟩ := h
        obtain ⟨s4, s5, h⟩ := h
        obtain ⟨s6, h⟩ := h
        subst h
        exact AtV.ret Tryz.func34 tabOk ext34Ok mixed false [] tys34 [false, false, false, false, false] (a1 b0 (a1 (rfl : Bool.false = Bool.false) (a1 b0 (a1 (rfl : Bool.false = Bool.false) (a1 b1 (a1 s0 (a1 s1 (a1 s2 (a1 s3 (a1 s4 (a1 s5 (a1 s6 trivial)))))))))))) (by kernel_rfl)



abbrev RL34 := ByteArray × List ByteArray × Unit
abbrev GR34 := ByteArray × ByteArray × Int × Unit
abbrev GY34 : Ty := .cons .str (.cons .str (.cons (.int .i64) .unit))
abbrev D34 : GR34 := (ByteArray.empty, ByteArray.empty, 0, ())
def at34 (x : GR34) : List GR34 → Nat
  | [] => 0
  | y :: r => if g56_0 y x = true then at34 x r + 1 else 0
def code34 (x1 : List GR34) (x2 : GR34) (i : Nat) : Int := if (decide (i < x1.length) && eqD GY34 (x1.getD i D34) x2) = true then 4 else if ((x1.length : Int) == 48) = true then 5 else 0
def val34 (x1 : List GR34) (x2 : GR34) (i : Nat) : List GR34 := if code34 x1 x2 i = 0 then x1.take i ++ [x2] ++ x1.drop i else []
def g34_1 (x0 : List RL34) (x1 : List GR34) (x2 : GR34) : Int := if (!g54_0 x0 x1) = true then 1 else if (!g55_0 x0 x2) = true then 2 else code34 x1 x2 (at34 x2 x1)
def g34_0 (x0 : List RL34) (x1 : List GR34) (x2 : GR34) : List GR34 := if (!g54_0 x0 x1) = true then [] else if (!g55_0 x0 x2) = true then [] else val34 x1 x2 (at34 x2 x1)
def P34 (x0 : List RL34) (x1 : List GR34) (x2 : GR34) : Prop := True

theorem at_le34 (x : GR34) : ∀ l : List GR34, at34 x l ≤ l.length
  | [] => Nat.le_refl _
  | y :: r => by
    unfold at34
    split
    · have := at_le34 x r
      simp only [List.length_cons]
      omega
    · exact Nat.zero_le _

theorem run34 (x1 : List GR34) (x2 : GR34) (hl : x1.length ≤ 48) : ∀ (k i : Nat), i + k = x1.length → R34_6 (k + 1) (i : Int) x1 x2 [⟨.sl GY34, val34 x1 x2 (i + at34 x2 (x1.drop i))⟩, ⟨.int .i64, code34 x1 x2 (i + at34 x2 (x1.drop i))⟩] := by
  have hmx : maxLen ≤ 9223372036854775807 := by decide
  intro k
  induction k with
  | zero =>
    intro i hi
    have hd : x1.drop i = [] := List.drop_eq_nil_of_le (by omega)
    rw [hd]
    show R34_6 1 _ x1 x2 [⟨.sl GY34, val34 x1 x2 (i + 0)⟩, ⟨.int .i64, code34 x1 x2 (i + 0)⟩]
    rw [Nat.add_zero, R34_6, if_neg (by simp only [decide_eq_true_eq]; omega)]
    have hc : code34 x1 x2 i = if ((x1.length : Int) == 48) = true then 5 else 0 := by
      unfold code34
      rw [if_neg (by rw [decide_eq_false (by omega)]; simp)]
    unfold val34
    rw [hc]
    by_cases c : ((x1.length : Int) == 48) = true
    · rw [if_pos c, if_pos c, if_neg (by decide)]
    · rw [if_neg c, if_neg c, if_pos rfl]
      simp only [Int.toNat_natCast, List.nil_append, List.length_append, List.length_take, List.length_drop, List.length_cons, List.length_nil]
      exact ⟨by omega, by omega, by omega, by omega, by omega, by omega, by omega, by first | rfl | trivial⟩
  | succ k ih =>
    intro i hi
    have hlt : i < x1.length := by omega
    have e3 : (i : Int) + 1 = ((i + 1 : Nat) : Int) := by omega
    rw [drop_get x1 i D34 hlt]
    by_cases hb : g56_0 (x1.getD i D34) x2 = true
    · have ea : at34 x2 (x1.getD i D34 :: x1.drop (i + 1)) = at34 x2 (x1.drop (i + 1)) + 1 := by
        conv => lhs; unfold at34
        rw [if_pos hb]
      have := ih (i + 1) (by omega)
      rw [ea, show i + (at34 x2 (x1.drop (i + 1)) + 1) = i + 1 + at34 x2 (x1.drop (i + 1)) by omega, R34_6, if_pos (by simp only [decide_eq_true_eq]; omega)]
      simp only [Int.toNat_natCast]
      rw [e3]
      exact ⟨by omega, by omega, (if_pos hb).mpr ⟨by rw [i64_iff]; omega, this⟩⟩
    · have ea : at34 x2 (x1.getD i D34 :: x1.drop (i + 1)) = 0 := by
        unfold at34
        rw [if_neg hb]
      rw [ea, show i + 0 = i from rfl, R34_6, if_pos (by simp only [decide_eq_true_eq]; omega)]
      simp only [Int.toNat_natCast]
      refine ⟨by omega, by omega, (if_neg hb).mpr ⟨by omega, by omega, ?_⟩⟩
      unfold val34 code34
      rw [decide_eq_true hlt, Bool.true_and]
      by_cases he : eqD GY34 (x1.getD i D34) x2 = true
      · refine (if_pos he).mpr ?_
        rw [if_pos he, if_neg (by decide)]
      · refine (if_neg he).mpr ?_
        rw [if_neg he]
        by_cases c : ((x1.length : Int) == 48) = true
        · rw [if_pos c, if_pos c, if_neg (by decide)]
        · rw [if_neg c, if_neg c, if_pos rfl]
          simp only [List.nil_append, List.length_append, List.length_take, List.length_drop, List.length_cons, List.length_nil]
          exact ⟨by omega, by omega, by omega, by omega, by omega, by omega, by omega, by first | rfl | trivial⟩

theorem len34 {x0 : List RL34} {x1 : List GR34} (h : g54_0 x0 x1 = true) : x1.length ≤ 48 := by
  unfold g54_0 at h
  by_cases c : g70_0 x0 = true
  case neg => rw [if_neg c] at h; cases h
  rw [if_pos c] at h
  by_cases c2 : (x1.length : Int) ≤ 48
  · omega
  · rw [if_neg (by simpa using c2)] at h; cases h

theorem top34 (x0 : List RL34) (x1 : List GR34) (x2 : GR34) : ∃ n, R34 n x0 x1 x2 [⟨.sl GY34, g34_0 x0 x1 x2⟩, ⟨.int .i64, g34_1 x0 x1 x2⟩] := by
  unfold g34_0 g34_1
  by_cases c : (!g54_0 x0 x1) = true
  · exact ⟨1, by rw [R34, if_pos c, if_pos c, if_pos c]⟩
  by_cases c2 : (!g55_0 x0 x2) = true
  · exact ⟨1, by rw [R34, if_neg c, if_neg c, if_neg c, if_pos c2, if_pos c2, if_pos c2]⟩
  have hl : x1.length ≤ 48 := len34 (x0 := x0) (by simpa using c)
  have := run34 x1 x2 hl x1.length 0 (by omega)
  rw [List.drop_zero, Nat.zero_add] at this
  exact ⟨x1.length + 1 + 1, by rw [R34, if_neg c, if_neg c, if_neg c, if_neg c2, if_neg c2, if_neg c2]; exact this⟩

def S34 : Am.Spec := { sig := sig34, pre := fun ⟨x0, x1, x2, _⟩ => P34 x0 x1 x2, res := fun ⟨x0, x1, x2, _⟩ => [⟨.sl GY34, g34_0 x0 x1 x2⟩, ⟨.int .i64, g34_1 x0 x1 x2⟩] }
theorem con34 : Contract Tryz.prog 34 S34 := contract_of Tryz.func34 hb34 (Nat.le_of_ble_eq_true (by kernel_rfl)) (fun ⟨x0, x1, x2, _⟩ h hwf K q =>
  let ⟨_, hn⟩ := top34 x0 x1 x2
  (snd34 _).1 x0 x1 x2 _ hn K q)

end
end Go.Proofs.YtpellcnihifdaaaGreatDoor

/- A law that says how functions of the program and of the specification hang together. -/
set_option linter.unusedVariables false
set_option linter.unusedSimpArgs false
set_option maxRecDepth 100000
namespace Go.Proofs.YtpellcnihifdaaaGreatDoor
open Go Go.Am Go.Proofs

theorem draw_grant {n : Int} {s : (List Int × Int × Int × Unit)} (h : SrcOk n s) (hn : n ≤ 1000000000) (l : List (ByteArray × List ByteArray × Unit)) : P35 s l ∧ SrcOk (n + 12) (u35_0 s l) := by
  obtain ⟨p1, s1, _⟩ := text_ok h [ByteArray.mk #[98, 114, 97, 107, 101], ByteArray.mk #[114, 111, 112, 101], ByteArray.mk #[115, 116, 111, 99, 107]] (by decide) (by omega)
  have q1 : P17 s := ⟨p1, trivial⟩
  have s1 : SrcOk (n + 2) (u17_0 s) := s1
  obtain ⟨p2, s2, a2, b2, _⟩ := pick_ok s1 3 (by omega)
  have b2 := b2 (by decide)
  have i2 : InR .i64 (1 + g33_0 (u17_0 s) 3) := by rw [i64_iff]; omega
  have fin : ∀ {m : Int} {z : (List Int × Int × Int × Unit)}, SrcOk m z → m ≤ 2000000000 → (P33 z 24 ∧ SrcOk (m + 2) (u33_0 z 24)) ∧ (P36 (u33_0 z 24) [0, 4] ∧ SrcOk (m + 4) (u36_0 (u33_0 z 24) [0, 4])) ∧ ∀ l : List ByteArray, 1 ≤ l.length → P37 (u33_0 z 24) l ∧ SrcOk (m + 4) (u37_0 (u33_0 z 24) l) := fun hz hm => by
    obtain ⟨p3, s3, _⟩ := pick_ok hz 24 (by omega)
    obtain ⟨p4, s4, _⟩ := among_ok s3 [0, 4] (by decide) (by omega)
    refine ⟨⟨p3, s3⟩, ⟨p4, s4.up (by omega)⟩, fun l hl => ?_⟩
    obtain ⟨p5, s5, _⟩ := text_ok s3 l hl (by omega)
    exact ⟨p5, s5.up (by omega)⟩
  unfold P35 u35_0
  by_cases c : decide ((l.length : Int) > 0) = true
  · simp only [if_pos c]
    obtain ⟨p3, s3, a3, b3, _⟩ := pick_ok s2 (l.length : Int) (by omega)
    have b3 := b3 (by have := of_decide_eq_true c; omega)
    obtain ⟨⟨f1, f2⟩, ⟨f3, f4⟩, f5⟩ := fin s3 (by omega)
    obtain ⟨t1, t2⟩ := f5 [ByteArray.mk #[122, 122], ByteArray.mk #[]] (by decide)
    obtain ⟨t3, t4⟩ := f5 [ByteArray.mk #[], ByteArray.mk #[66]] (by decide)
    by_cases c0 : (g33_0 (u33_0 (u33_0 (u17_0 s) 3) (l.length : Int)) 24 == 0) = true
    · simp only [if_pos c0]
      exact ⟨⟨q1, p2, i2, p3, a3, b3, f1, f3, trivial⟩, f4.up (by omega)⟩
    · by_cases c1 : (g33_0 (u33_0 (u33_0 (u17_0 s) 3) (l.length : Int)) 24 == 1) = true
      · simp only [if_neg c0, if_pos c1]
        exact ⟨⟨q1, p2, i2, p3, a3, b3, f1, t1, trivial⟩, t2.up (by omega)⟩
      · by_cases c2 : (g33_0 (u33_0 (u33_0 (u17_0 s) 3) (l.length : Int)) 24 == 2) = true
        · simp only [if_neg c0, if_neg c1, if_pos c2]
          exact ⟨⟨q1, p2, i2, p3, a3, b3, f1, t3, trivial⟩, t4.up (by omega)⟩
        · simp only [if_neg c0, if_neg c1, if_neg c2]
          exact ⟨⟨q1, p2, i2, p3, a3, b3, f1, trivial⟩, f2.up (by omega)⟩
  · simp only [if_neg c]
    obtain ⟨⟨f1, f2⟩, ⟨f3, f4⟩, f5⟩ := fin s2 (by omega)
    obtain ⟨t1, t2⟩ := f5 [ByteArray.mk #[122, 122], ByteArray.mk #[]] (by decide)
    obtain ⟨t3, t4⟩ := f5 [ByteArray.mk #[], ByteArray.mk #[66]] (by decide)
    by_cases c0 : (g33_0 (u33_0 (u17_0 s) 3) 24 == 0) = true
    · simp only [if_pos c0]
      exact ⟨⟨q1, p2, i2, f1, f3, trivial⟩, f4.up (by omega)⟩
    · by_cases c1 : (g33_0 (u33_0 (u17_0 s) 3) 24 == 1) = true
      · simp only [if_neg c0, if_pos c1]
        exact ⟨⟨q1, p2, i2, f1, t1, trivial⟩, t2.up (by omega)⟩
      · by_cases c2 : (g33_0 (u33_0 (u17_0 s) 3) 24 == 2) = true
        · simp only [if_neg c0, if_neg c1, if_pos c2]
          exact ⟨⟨q1, p2, i2, f1, t3, trivial⟩, t4.up (by omega)⟩
        · simp only [if_neg c0, if_neg c1, if_neg c2]
          exact ⟨⟨q1, p2, i2, f1, trivial⟩, f2.up (by omega)⟩

end Go.Proofs.YtpellcnihifdaaaGreatDoor

/- Function 16 (spec.l28Draw): its runs between cut points. Written by a program of this repo (gen). -/
set_option linter.unusedVariables false
set_option linter.unusedSimpArgs false
set_option maxRecDepth 100000
namespace Go.Proofs.YtpellcnihifdaaaGreatDoor
open Go Go.Am Go.Proofs
noncomputable section
def ext16 : Ext := [(32, S32), (33, S33), (35, S35), (34, S34), (36, S36)]
theorem call16_32 : Callable Tryz.prog 32 := ⟨Tryz.f32, Tryz.func32, by kernel_rfl, by kernel_rfl⟩
theorem call16_33 : Callable Tryz.prog 33 := ⟨Tryz.f33, Tryz.func33, by kernel_rfl, by kernel_rfl⟩
theorem call16_35 : Callable Tryz.prog 35 := ⟨Tryz.f35, Tryz.func35, by kernel_rfl, by kernel_rfl⟩
theorem call16_34 : Callable Tryz.prog 34 := ⟨Tryz.f34, Tryz.func34, by kernel_rfl, by kernel_rfl⟩
theorem call16_36 : Callable Tryz.prog 36 := ⟨Tryz.f36, Tryz.func36, by kernel_rfl, by kernel_rfl⟩
theorem ext16Ok : ExtOk Tryz.prog ext16 := ⟨⟨call16_32, con32⟩, ⟨call16_33, con33⟩, ⟨call16_35, con35⟩, ⟨call16_34, con34⟩, ⟨call16_36, con36⟩, trivial⟩

noncomputable def b16 : Code := bodyOf Tryz.f16
theorem hb16 : Tryz.f16.body = some b16 := by kernel_rfl
def sig16 : List AT := [AT.pb (Ty.cons (Ty.sl (Ty.int IntKind.u8)) (Ty.cons (Ty.int IntKind.i64) (Ty.cons (Ty.int IntKind.u64) Ty.unit)))]
def tys16 : List Ty := [Ty.sl (Ty.cons Ty.str (Ty.cons (Ty.sl Ty.str) Ty.unit)), Ty.sl (Ty.cons Ty.str (Ty.cons Ty.str (Ty.cons (Ty.int IntKind.i64) Ty.unit)))]
def kds16 : List RK := [.frz, .own]
def oks16 : List AT := owns sig16
def E16_4 (v6 : Int) (h0 : List Int × Int × Int × Unit) (h1 : List (ByteArray × ByteArray × Int × Unit)) (x0 : List Int × Int × Int × Unit) : Env := [(0, PV.a (Atom.optr 0 0 [])), (4, PV.a (Atom.sl (Ty.cons Ty.str (Ty.cons (Ty.sl Ty.str) Ty.unit)) (g32_0 x0))), (5, PV.a (Atom.osl 1 Option.none)), (6, PV.a (Atom.val (Value.int IntKind.i64 v6)))]
def L16_4 (v6 : Int) (h0 : List Int × Int × Int × Unit) (h1 : List (ByteArray × ByteArray × Int × Unit)) (x0 : List Int × Int × Int × Unit) : Heap := [Option.some (Arr.mk (Ty.cons (Ty.sl (Ty.int IntKind.u8)) (Ty.cons (Ty.int IntKind.i64) (Ty.cons (Ty.int IntKind.u64) Ty.unit))) [h0] Bool.true Option.none (Option.some Bool.true)), Option.some (Arr.mk (Ty.cons Ty.str (Ty.cons Ty.str (Ty.cons (Ty.int IntKind.i64) Ty.unit))) h1 Bool.false Option.none Option.none)]
def E16_16 (v10 : Int) (h1 : List (ByteArray × ByteArray × Int × Unit)) (x0 : List Int × Int × Int × Unit) (h0 : List Int × Int × Int × Unit) : Env := [(0, PV.a (Atom.optr 0 0 [])), (4, PV.a (Atom.sl (Ty.cons Ty.str (Ty.cons (Ty.sl Ty.str) Ty.unit)) (g32_0 x0))), (5, PV.a (Atom.osl 1 Option.none)), (9, PV.a (Atom.val (Value.int IntKind.i64 (g36_0 (u33_0 h0 20) [48, 49])))), (10, PV.a (Atom.val (Value.int IntKind.i64 v10)))]
def L16_16 (v10 : Int) (h1 : List (ByteArray × ByteArray × Int × Unit)) (x0 : List Int × Int × Int × Unit) (h0 : List Int × Int × Int × Unit) : Heap := [Option.some (Arr.mk (Ty.cons (Ty.sl (Ty.int IntKind.u8)) (Ty.cons (Ty.int IntKind.i64) (Ty.cons (Ty.int IntKind.u64) Ty.unit))) [u36_0 (u33_0 h0 20) [48, 49]] Bool.true Option.none (Option.some Bool.true)), Option.some (Arr.mk (Ty.cons Ty.str (Ty.cons Ty.str (Ty.cons (Ty.int IntKind.i64) Ty.unit))) h1 Bool.false Option.none Option.none)]
mutual
def R16 : Nat → List Int × Int × Int × Unit → List Dyn → List (Option Lst) → Prop
  | 0, _, _, _ => False
  | n + 1, x0, ds, us => ((P32 x0) ∧ ((P33 (u32_0 x0) 9) ∧ (R16_4 n (g33_0 (u32_0 x0) 9) (u33_0 (u32_0 x0) 9) ([]) (x0) ds us)))
def R16_4 : Nat → Int → List Int × Int × Int × Unit → List (ByteArray × ByteArray × Int × Unit) → List Int × Int × Int × Unit → List Dyn → List (Option Lst) → Prop
  | 0, _, _, _, _, _, _ => False
  | n + 1, v6, h0, h1, x0, ds, us => (if (Decidable.decide (v6 > 0)) = true then ((P35 h0 (g32_0 x0)) ∧ (if (g34_1 (g32_0 x0) h1 (g35_0 h0 (g32_0 x0)) == 0) = true then ((InR IntKind.i64 (v6 - 1)) ∧ (R16_4 n (v6 - 1) (u35_0 h0 (g32_0 x0)) (g34_0 (g32_0 x0) h1 (g35_0 h0 (g32_0 x0))) (x0) ds us)) else ((InR IntKind.i64 (v6 - 1)) ∧ (R16_4 n (v6 - 1) (u35_0 h0 (g32_0 x0)) (h1) (x0) ds us)))) else ((P33 h0 20) ∧ (if (g33_0 h0 20 == 0) = true then ((P35 (u33_0 h0 20) (g32_0 x0)) ∧ (((List.length h1 + 1) * 40 ≤ 140737488355328) ∧ (ds = [Dyn.mk (Ty.sl (Ty.cons Ty.str (Ty.cons (Ty.sl Ty.str) Ty.unit))) (g32_0 x0), Dyn.mk (Ty.sl (Ty.cons Ty.str (Ty.cons Ty.str (Ty.cons (Ty.int IntKind.i64) Ty.unit)))) (h1 ++ [g35_0 (u33_0 h0 20) (g32_0 x0)])] ∧ us = [Option.some (Lst.mk (Ty.cons (Ty.sl (Ty.int IntKind.u8)) (Ty.cons (Ty.int IntKind.i64) (Ty.cons (Ty.int IntKind.u64) Ty.unit))) [u35_0 (u33_0 h0 20) (g32_0 x0)])]))) else (if (g33_0 h0 20 == 1) = true then ((P36 (u33_0 h0 20) [48, 49]) ∧ (R16_16 n (0) ([]) (x0) (h0) ds us)) else (ds = [Dyn.mk (Ty.sl (Ty.cons Ty.str (Ty.cons (Ty.sl Ty.str) Ty.unit))) (g32_0 x0), Dyn.mk (Ty.sl (Ty.cons Ty.str (Ty.cons Ty.str (Ty.cons (Ty.int IntKind.i64) Ty.unit)))) h1] ∧ us = [Option.some (Lst.mk (Ty.cons (Ty.sl (Ty.int IntKind.u8)) (Ty.cons (Ty.int IntKind.i64) (Ty.cons (Ty.int IntKind.u64) Ty.unit))) [u33_0 h0 20])])))))
def R16_16 : Nat → Int → List (ByteArray × ByteArray × Int × Unit) → List Int × Int × Int × Unit → List Int × Int × Int × Unit → List Dyn → List (Option Lst) → Prop
  | 0, _, _, _, _, _, _ => False
  | n + 1, v10, h1, x0, h0, ds, us => (if (Decidable.decide (v10 < g36_0 (u33_0 h0 20) [48, 49])) = true then (if (Decidable.decide ((↑(List.length (g32_0 x0)) : Int) > 0)) = true then ((0 < (↑(List.length (g32_0 x0)) : Int)) ∧ ((InR IntKind.i64 (Int.tdiv v10 3)) ∧ ((InR IntKind.i64 (97 + Int.tdiv v10 3)) ∧ ((InR IntKind.u8 (97 + Int.tdiv v10 3)) ∧ ((InR IntKind.i64 (Int.tmod v10 3)) ∧ ((InR IntKind.i64 (1 + Int.tmod v10 3)) ∧ ((1 + ByteArray.size (bytesStr [97 + Int.tdiv v10 3]) ≤ 9223372036854775807) ∧ (((List.length h1 + 1) * 40 ≤ 140737488355328) ∧ ((InR IntKind.i64 (v10 + 1)) ∧ (R16_16 n (v10 + 1) (h1 ++ [(Prod.fst (List.getD (g32_0 x0) 0 (ByteArray.empty, [], ())), ByteArray.mk #[111] ++ bytesStr [97 + Int.tdiv v10 3], 1 + Int.tmod v10 3, ())]) (x0) (h0) ds us)))))))))) else (ds = [Dyn.mk (Ty.sl (Ty.cons Ty.str (Ty.cons (Ty.sl Ty.str) Ty.unit))) (g32_0 x0), Dyn.mk (Ty.sl (Ty.cons Ty.str (Ty.cons Ty.str (Ty.cons (Ty.int IntKind.i64) Ty.unit)))) h1] ∧ us = [Option.some (Lst.mk (Ty.cons (Ty.sl (Ty.int IntKind.u8)) (Ty.cons (Ty.int IntKind.i64) (Ty.cons (Ty.int IntKind.u64) Ty.unit))) [u36_0 (u33_0 h0 20) [48, 49]])])) else (ds = [Dyn.mk (Ty.sl (Ty.cons Ty.str (Ty.cons (Ty.sl Ty.str) Ty.unit))) (g32_0 x0), Dyn.mk (Ty.sl (Ty.cons Ty.str (Ty.cons Ty.str (Ty.cons (Ty.int IntKind.i64) Ty.unit)))) h1] ∧ us = [Option.some (Lst.mk (Ty.cons (Ty.sl (Ty.int IntKind.u8)) (Ty.cons (Ty.int IntKind.i64) (Ty.cons (Ty.int IntKind.u64) Ty.unit))) [u36_0 (u33_0 h0 20) [48, 49]])]))
end
theorem snd16 : ∀ n, (∀ (x0 : List Int × Int × Int × Unit) ds us, R16 n x0 ds us → ∀ K q, AtV Tryz.prog 16 (PostR kds16 oks16 ds us [0] q K) 78 K q [0] [.code b16] (entE 0 0 sig16 (x0, ())) (entL sig16 (x0, ()))) ∧ (∀ (v6 : Int) (h0 : List Int × Int × Int × Unit) (h1 : List (ByteArray × ByteArray × Int × Unit)) (x0 : List Int × Int × Int × Unit) ds us, R16_4 n v6 h0 h1 x0 ds us → ∀ K q, AtV Tryz.prog 16 (PostR kds16 oks16 ds us [0] q K) 78 K q [0] (cutAt b16 4) (E16_4 v6 h0 h1 x0) (L16_4 v6 h0 h1 x0)) ∧ (∀ (v10 : Int) (h1 : List (ByteArray × ByteArray × Int × Unit)) (x0 : List Int × Int × Int × Unit) (h0 : List Int × Int × Int × Unit) ds us, R16_16 n v10 h1 x0 h0 ds us → ∀ K q, AtV Tryz.prog 16 (PostR kds16 oks16 ds us [0] q K) 78 K q [0] (cutAt b16 16) (E16_16 v10 h1 x0 h0) (L16_16 v10 h1 x0 h0)) := by
  intro n
  induction n with
  | zero => exact ⟨fun _ _ _ h => by simp only [R16] at h, fun _ _ _ _ _ _ h => by simp only [R16_4] at h, fun _ _ _ _ _ _ h => by simp only [R16_16] at h⟩
  | succ n ih =>
  obtain ⟨ih, ih4, ih16⟩ := ih
  refine ⟨?_, ?_, ?_⟩
  · intro x0 ds us h K q
    rw [R16] at h
    obtain ⟨s0, h⟩ := h
    obtain ⟨s1, h⟩ := h
    exact AtV.go tabOk ext16Ok mixed false [] [] [0, 4, 5, 6] [0, 1] [] (a1 s0 (a1 s1 trivial)) (ih4 _ _ _ _ _ _ h K q) (by kernel_rfl)

  · intro v6 h0 h1 x0 ds us h K q
    rw [R16_4] at h
    by_cases b0 : (Decidable.decide (v6 > 0)) = true
    · rw [if_pos b0] at h
      obtain ⟨s0, h⟩ := h
      by_cases b1 : (g34_1 (g32_0 x0) h1 (g35_0 h0 (g32_0 x0)) == 0) = true
      · rw [if_pos b1] at h
        obtain ⟨s1, h⟩ := h
        exact AtV.go tabOk ext16Ok mixed false [] [] [0, 4, 5, 6] [0, 2] [true, true] (a1 b0 (a1 s0 (a1 trivial (a1 b1 (a1 s1 trivial))))) (ih4 _ _ _ _ _ _ h K q) (by kernel_rfl)
      · rw [if_neg b1] at h
        replace b1 := Bool.eq_false_iff.2 b1
        obtain ⟨s1, h⟩ := h
        exact AtV.go tabOk ext16Ok mixed false [] [] [0, 4, 5, 6] [0, 1] [true, false] (a1 b0 (a1 s0 (a1 trivial (a1 b1 (a1 s1 trivial))))) (ih4 _ _ _ _ _ _ h K q) (by kernel_rfl)
    · rw [if_neg b0] at h
      replace b0 := Bool.eq_false_iff.2 b0
      obtain ⟨s0, h⟩ := h
      by_cases b1 : (g33_0 h0 20 == 0) = true
      · rw [if_pos b1] at h
        obtain ⟨s1, h⟩ := h
        obtain ⟨s2, h⟩ := h
        obtain ⟨h, h'⟩ := h; subst h; subst h'
        exact AtV.ret Tryz.func16 tabOk ext16Ok mixed false [] tys16 [false, true] (a1 b0 (a1 s0 (a1 b1 (a1 s1 (a1 s2 trivial))))) (by kernel_rfl)
      · rw [if_neg b1] at h
        replace b1 := Bool.eq_false_iff.2 b1
        by_cases b2 : (g33_0 h0 20 == 1) = true
        · rw [if_pos b2] at h
          obtain ⟨s1, h⟩ := h
          exact AtV.go tabOk ext16Ok mixed false [] [] [0, 4, 5, 9, 10] [0, 3] [false, false, true] (a1 b0 (a1 s0 (a1 b1 (a1 b2 (a1 s1 trivial))))) (ih16 _ _ _ _ _ _ h K q) (by kernel_rfl)
        · rw [if_neg b2] at h
          replace b2 := Bool.eq_false_iff.2 b2
          obtain ⟨h, h'⟩ := h; subst h; subst h'
          exact AtV.ret Tryz.func16 tabOk ext16Ok mixed false [] tys16 [false, false, false] (a1 b0 (a1 s0 (a1 b1 (a1 b2 trivial)))) (by kernel_rfl)

  · intro v10 h1 x0 h0 ds us h K q
    rw [R16_16] at h
    by_cases b0 : (Decidable.decide (v10 < g36_0 (u33_0 h0 20) [48, 49])) = true
    · rw [if_pos b0] at h
      by_cases b1 : (Decidable.decide ((↑(List.length (g32_0 x0)) : Int) > 0)) = true
      · rw [if_pos b1] at h
        obtain ⟨s0, h⟩ := h
        obtain ⟨s1, h⟩ := h
        obtain ⟨s2, h⟩ := h
        obtain ⟨s3, h⟩ := h
        obtain ⟨s4, h⟩ := h
        obtain ⟨s5, h⟩ := h
        obtain ⟨s6, h⟩ := h
        obtain ⟨s7, h⟩ := h
        obtain ⟨s8, h⟩ := h
        exact AtV.go tabOk ext16Ok mixed false [] [] [0, 4, 5, 9, 10] [0, 1] [true, true] (a1 b0 (a1 b1 (a1 ((by decide) : (0 : Int) ≤ (0 : Int)) (a1 s0 (a1 ((by decide) : (3 : Int) ≠ (0 : Int)) (a1 s1 (a1 s2 (a1 s3 (a1 ((by decide) : (3 : Int) ≠ (0 : Int)) (a1 s4 (a1 s5 (a1 s6 (a1 s7 (a1 s8 trivial)))))))))))))) (ih16 _ _ _ _ _ _ h K q) (by kernel_rfl)
      · rw [if_neg b1] at h
        replace b1 := Bool.eq_false_iff.2 b1
        obtain ⟨h, h'⟩ := h; subst h; subst h'
        exact AtV.ret Tryz.func16 tabOk ext16Ok mixed false [] tys16 [true, false] (a1 b0 (a1 b1 trivial)) (by kernel_rfl)
    · rw [if_neg b0] at h
      replace b0 := Bool.eq_false_iff.2 b0
      obtain ⟨h, h'⟩ := h; subst h; subst h'
      exact AtV.ret Tryz.func16 tabOk ext16Ok mixed false [] tys16 [false, false] (a1 b0 (a1 (rfl : Bool.false = Bool.false) trivial)) (by kernel_rfl)



abbrev RL16 := ByteArray × List ByteArray × Unit
abbrev GR16 := ByteArray × ByteArray × Int × Unit
abbrev RY16 : Ty := .sl (.cons .str (.cons (.sl .str) .unit))
abbrev GY16 : Ty := .cons .str (.cons .str (.cons (.int .i64) .unit))
abbrev ro16 (x0 : (List Int × Int × Int × Unit)) : List RL16 := g32_0 x0
def P16 (x0 : (List Int × Int × Int × Unit)) : Prop := SrcOk 700000000 x0
def Q16 (x0 : (List Int × Int × Int × Unit)) (y : List GR16) (s : (List Int × Int × Int × Unit)) : Prop := SrcOk (x0.2.1 + 2000) s ∧ y.length ≤ 60 ∧ ∃ n, R16 n x0 [⟨RY16, ro16 x0⟩, ⟨.sl GY16, y⟩] [some ⟨(.cons (.sl (.int .u8)) (.cons (.int .i64) (.cons (.int .u64) .unit))), [s]⟩]

theorem add_len16 (r : List RL16) (l : List GR16) (x : GR16) (h : (g34_1 r l x == 0) = true) : (g34_0 r l x).length ≤ 49 := by
  unfold g34_1 at h
  unfold g34_0
  by_cases c : (!g54_0 r l) = true
  · rw [if_pos c] at h; exact absurd h (by decide)
  rw [if_neg c] at h ⊢
  by_cases c2 : (!g55_0 r x) = true
  · rw [if_pos c2] at h; exact absurd h (by decide)
  rw [if_neg c2] at h ⊢
  have hl : l.length ≤ 48 := len34 (x0 := r) (by simpa using c)
  have ha := at_le34 x l
  unfold val34
  split
  · simp only [List.length_append, List.length_take, List.length_drop, List.length_cons, List.length_nil]
    omega
  · simp

theorem many16 (x0 h0 : (List Int × Int × Int × Unit)) (N : Int) (hN : N ≤ 49) (he : g36_0 (u33_0 h0 20) [48, 49] = N) : ∀ (k : Nat) (v : Int) (h1 : List GR16), v + (k : Int) = N → 0 ≤ v → (h1.length : Int) ≤ v →
    ∃ (n : Nat) (y : List GR16), y.length ≤ 60 ∧ R16_16 n v h1 x0 h0 [⟨RY16, ro16 x0⟩, ⟨.sl GY16, y⟩] [some ⟨(.cons (.sl (.int .u8)) (.cons (.int .i64) (.cons (.int .u64) .unit))), [u36_0 (u33_0 h0 20) [48, 49]]⟩] := by
  intro k
  induction k with
  | zero =>
    intro v h1 hv h0' hl
    refine ⟨1, h1, by omega, ?_⟩
    rw [R16_16, he, if_neg (by simp only [decide_eq_true_eq]; omega)]
    exact ⟨rfl, rfl⟩
  | succ k ih =>
    intro v h1 hv h0' hl
    by_cases c : decide (((ro16 x0).length : Int) > 0) = true
    · have e1 : Int.tdiv v 3 = v / 3 := Int.tdiv_eq_ediv_of_nonneg h0'
      have e2 : Int.tmod v 3 = v % 3 := Int.tmod_eq_emod_of_nonneg h0'
      obtain ⟨n, y, a1, a2⟩ := ih (v + 1) (h1 ++ [((List.getD (ro16 x0) 0 (ByteArray.empty, [], ())).1, ByteArray.mk #[111] ++ bytesStr [97 + Int.tdiv v 3], 1 + Int.tmod v 3, ())]) (by omega) (by omega) (by rw [List.length_append, List.length_singleton]; omega)
      refine ⟨n + 1, y, a1, ?_⟩
      rw [R16_16, he, if_pos (by simp only [decide_eq_true_eq]; omega), if_pos c]
      have hz : (bytesStr [97 + Int.tdiv v 3]).size = 1 := by rw [bytesStr_size]; rfl
      refine ⟨by have := of_decide_eq_true c; omega, by rw [e1, i64_iff]; omega, by rw [e1, i64_iff]; omega, by rw [e1, u8_iff]; omega, by rw [e2, i64_iff]; omega, by rw [e2, i64_iff]; omega, by rw [hz]; omega, by omega, by rw [i64_iff]; omega, a2⟩
    · refine ⟨1, h1, by omega, ?_⟩
      rw [R16_16, he, if_pos (by simp only [decide_eq_true_eq]; omega), if_neg c]
      exact ⟨rfl, rfl⟩

theorem run16 (x0 : (List Int × Int × Int × Unit)) : ∀ (k : Nat) (v : Int) (s : (List Int × Int × Int × Unit)) (h : List GR16) (m : Int), v = (k : Int) → SrcOk m s → m + 12 * (k : Int) ≤ 900000000 → h.length ≤ 49 →
    ∃ (n : Nat) (y : List GR16) (z : (List Int × Int × Int × Unit)), SrcOk (m + 12 * (k : Int) + 20) z ∧ y.length ≤ 60 ∧ R16_4 n v s h x0 [⟨RY16, ro16 x0⟩, ⟨.sl GY16, y⟩] [some ⟨(.cons (.sl (.int .u8)) (.cons (.int .i64) (.cons (.int .u64) .unit))), [z]⟩] := by
  intro k
  induction k with
  | zero =>
    intro v s h m hv hs hm hl
    obtain ⟨p1, s1, _⟩ := pick_ok hs 20 (by omega)
    by_cases c0 : (g33_0 s 20 == 0) = true
    · obtain ⟨p2, s2⟩ := draw_grant s1 (by omega) (ro16 x0)
      refine ⟨1, h ++ [g35_0 (u33_0 s 20) (ro16 x0)], _, s2.up (by omega), by rw [List.length_append, List.length_singleton]; omega, ?_⟩
      rw [R16_4, if_neg (by simp only [decide_eq_true_eq]; omega)]
      exact ⟨p1, (if_pos c0).mpr ⟨p2, by omega, rfl, rfl⟩⟩
    · by_cases c1 : (g33_0 s 20 == 1) = true
      · obtain ⟨p2, s2, hm2⟩ := among_ok s1 [48, 49] (by decide) (by omega)
        have hN : g36_0 (u33_0 s 20) [48, 49] ≤ 49 ∧ 0 ≤ g36_0 (u33_0 s 20) [48, 49] := by
          simp only [List.mem_cons, List.mem_nil_iff, or_false] at hm2
          omega
        obtain ⟨n, y, a1, a2⟩ := many16 x0 s _ hN.1 rfl (g36_0 (u33_0 s 20) [48, 49]).toNat 0 [] (by omega) (by omega) (by simp)
        refine ⟨n + 1, y, _, s2.up (by omega), a1, ?_⟩
        rw [R16_4, if_neg (by simp only [decide_eq_true_eq]; omega)]
        exact ⟨p1, (if_neg c0).mpr ((if_pos c1).mpr ⟨p2, a2⟩)⟩
      · refine ⟨1, h, _, s1.up (by omega), by omega, ?_⟩
        rw [R16_4, if_neg (by simp only [decide_eq_true_eq]; omega)]
        exact ⟨p1, (if_neg c0).mpr ((if_neg c1).mpr ⟨rfl, rfl⟩)⟩
  | succ k ih =>
    intro v s h m hv hs hm hl
    have hb : 0 ≤ m := Int.le_trans hs.2.1 hs.2.2
    obtain ⟨p1, s1⟩ := draw_grant hs (by omega) (ro16 x0)
    by_cases c : (g34_1 (ro16 x0) h (g35_0 s (ro16 x0)) == 0) = true
    · obtain ⟨n, y, z, a1, a2, a3⟩ := ih (v - 1) _ (g34_0 (ro16 x0) h (g35_0 s (ro16 x0))) _ (by omega) s1 (by omega) (add_len16 _ _ _ c)
      refine ⟨n + 1, y, z, a1.up (by omega), a2, ?_⟩
      rw [R16_4, if_pos (by simp only [decide_eq_true_eq]; omega)]
      exact ⟨p1, (if_pos c).mpr ⟨by rw [i64_iff]; omega, a3⟩⟩
    · obtain ⟨n, y, z, a1, a2, a3⟩ := ih (v - 1) _ h _ (by omega) s1 (by omega) hl
      refine ⟨n + 1, y, z, a1.up (by omega), a2, ?_⟩
      rw [R16_4, if_pos (by simp only [decide_eq_true_eq]; omega)]
      exact ⟨p1, (if_neg c).mpr ⟨by rw [i64_iff]; omega, a3⟩⟩

theorem ex16 (x0 : (List Int × Int × Int × Unit)) (h : P16 x0) : ∃ y s, Q16 x0 y s := by
  have h0 : x0.2.1 ≤ 700000000 := h.2.2
  have p1 : P32 x0 := h.up (by decide)
  obtain ⟨s1, _⟩ := q32 x0 p1
  obtain ⟨p2, s2, a2, b2, _⟩ := pick_ok s1 9 (by omega)
  have b2 := b2 (by decide)
  obtain ⟨n, y, t, a1, a3, a4⟩ := run16 x0 (g33_0 (u32_0 x0) 9).toNat (g33_0 (u32_0 x0) 9) _ [] _ (by omega) s2 (by omega) (by simp)
  exact ⟨y, t, a1.up (by omega), a3, n + 1, by rw [R16]; exact ⟨p1, p2, a4⟩⟩

def g16_0 (x0 : (List Int × Int × Int × Unit)) : List RL16 := ro16 x0
def g16_1 (x0 : (List Int × Int × Int × Unit)) : List GR16 := (sel2 [] x0 (Q16 x0)).1
def u16_0 (x0 : (List Int × Int × Int × Unit)) : (List Int × Int × Int × Unit) := (sel2 ([] : List GR16) x0 (Q16 x0)).2
theorem q16 (x0 : (List Int × Int × Int × Unit)) (h : P16 x0) : Q16 x0 (g16_1 x0) (u16_0 x0) := by
  obtain ⟨y, s, hq⟩ := ex16 x0 h
  exact sel2_spec hq

def S16 : Am.Spec := { sig := sig16, pre := fun ⟨x0, _⟩ => P16 x0, upd := fun ⟨x0, _⟩ => [some ⟨(.cons (.sl (.int .u8)) (.cons (.int .i64) (.cons (.int .u64) .unit))), [u16_0 x0]⟩], res := fun ⟨x0, _⟩ => [⟨RY16, g16_0 x0⟩, ⟨.sl GY16, g16_1 x0⟩], kds := kds16 }
theorem con16 : Contract Tryz.prog 16 S16 := contract_of Tryz.func16 hb16 (Nat.le_of_ble_eq_true (by kernel_rfl)) (fun ⟨x0, _⟩ h hwf K q =>
  let ⟨n, hn⟩ := (q16 x0 h).2.2
  (snd16 n).1 x0 _ _ hn K q)

end
end Go.Proofs.YtpellcnihifdaaaGreatDoor

/- Function 18 (spec.l28DrawAction): its runs between cut points. Written by a program of this repo (gen). -/
set_option linter.unusedVariables false
set_option linter.unusedSimpArgs false
set_option maxRecDepth 100000
namespace Go.Proofs.YtpellcnihifdaaaGreatDoor
open Go Go.Am Go.Proofs
noncomputable section
def ext18 : Ext := [(36, S36)]
theorem call18_36 : Callable Tryz.prog 36 := ⟨Tryz.f36, Tryz.func36, by kernel_rfl, by kernel_rfl⟩
theorem ext18Ok : ExtOk Tryz.prog ext18 := ⟨⟨call18_36, con36⟩, trivial⟩

noncomputable def b18 : Code := bodyOf Tryz.f18
theorem hb18 : Tryz.f18.body = some b18 := by kernel_rfl
def sig18 : List AT := [AT.pb (Ty.cons (Ty.sl (Ty.int IntKind.u8)) (Ty.cons (Ty.int IntKind.i64) (Ty.cons (Ty.int IntKind.u64) Ty.unit)))]
def tys18 : List Ty := [Ty.int IntKind.i64]
def kds18 : List RK := []
def oks18 : List AT := owns sig18
def P18 (x0 : List Int × Int × Int × Unit) : Prop := ((P36 x0 [1, 2, 3, 1, 2, 3, 0, 4]) ∧ True)
def g18_0 (x0 : List Int × Int × Int × Unit) : Int := g36_0 x0 [1, 2, 3, 1, 2, 3, 0, 4]
def u18_0 (x0 : List Int × Int × Int × Unit) : List Int × Int × Int × Unit := u36_0 x0 [1, 2, 3, 1, 2, 3, 0, 4]
theorem at18 (x0 : List Int × Int × Int × Unit) (h : P18 x0) (K : Ctx) (q : Nat → Value) : AtV Tryz.prog 18 (PostR kds18 oks18 [⟨Ty.int IntKind.i64, g18_0 x0⟩] [some ⟨Ty.cons (Ty.sl (Ty.int IntKind.u8)) (Ty.cons (Ty.int IntKind.i64) (Ty.cons (Ty.int IntKind.u64) Ty.unit)), [u18_0 x0]⟩] [0] q K) 6 K q [0] [.code b18] (entE 0 0 sig18 (x0, ())) (entL sig18 (x0, ())) := by
  unfold P18 at h
  unfold g18_0 u18_0
  obtain ⟨s0, h⟩ := h
  exact AtV.weak (AtV.ret (us := [Option.some (Lst.mk (Ty.cons (Ty.sl (Ty.int IntKind.u8)) (Ty.cons (Ty.int IntKind.i64) (Ty.cons (Ty.int IntKind.u64) Ty.unit))) [u36_0 x0 [1, 2, 3, 1, 2, 3, 0, 4]])]) Tryz.func18 tabOk ext18Ok mixed false [] tys18 [] (a1 s0 trivial) (by kernel_rfl)) ⟨.inl rfl, trivial⟩

def S18 : Am.Spec := { sig := sig18, pre := fun ⟨x0, _⟩ => P18 x0, upd := fun ⟨x0, _⟩ => [some ⟨Ty.cons (Ty.sl (Ty.int IntKind.u8)) (Ty.cons (Ty.int IntKind.i64) (Ty.cons (Ty.int IntKind.u64) Ty.unit)), [u18_0 x0]⟩], res := fun ⟨x0, _⟩ => [⟨Ty.int IntKind.i64, g18_0 x0⟩], kds := kds18 }
theorem con18 : Contract Tryz.prog 18 S18 := contract_of Tryz.func18 hb18 (Nat.le_of_ble_eq_true (by kernel_rfl)) (fun ⟨x0, _⟩ h _ K q => at18 x0 h K q)


end
end Go.Proofs.YtpellcnihifdaaaGreatDoor

/- Function 5 (spec.DrawWhoMay): its runs between cut points. Written by a program of this repo (gen). -/
set_option linter.unusedVariables false
set_option linter.unusedSimpArgs false
set_option maxRecDepth 100000
namespace Go.Proofs.YtpellcnihifdaaaGreatDoor
open Go Go.Am Go.Proofs
noncomputable section
def ext5 : Ext := [(15, S15), (16, S16), (17, S17), (18, S18)]
theorem call5_15 : Callable Tryz.prog 15 := ⟨Tryz.f15, Tryz.func15, by kernel_rfl, by kernel_rfl⟩
theorem call5_16 : Callable Tryz.prog 16 := ⟨Tryz.f16, Tryz.func16, by kernel_rfl, by kernel_rfl⟩
theorem call5_17 : Callable Tryz.prog 17 := ⟨Tryz.f17, Tryz.func17, by kernel_rfl, by kernel_rfl⟩
theorem call5_18 : Callable Tryz.prog 18 := ⟨Tryz.f18, Tryz.func18, by kernel_rfl, by kernel_rfl⟩
theorem ext5Ok : ExtOk Tryz.prog ext5 := ⟨⟨call5_15, con15⟩, ⟨call5_16, con16⟩, ⟨call5_17, con17⟩, ⟨call5_18, con18⟩, trivial⟩

noncomputable def b5 : Code := bodyOf Tryz.f5
theorem hb5 : Tryz.f5.body = some b5 := by kernel_rfl
def sig5 : List AT := [AT.v (Ty.sl (Ty.int IntKind.u8))]
def tys5 : List Ty := [Ty.sl (Ty.cons Ty.str (Ty.cons (Ty.sl Ty.str) Ty.unit)), Ty.sl (Ty.cons Ty.str (Ty.cons Ty.str (Ty.cons (Ty.int IntKind.i64) Ty.unit))), Ty.str, Ty.int IntKind.i64]
def kds5 : List RK := [.frz, .own, .own, .own]
def oks5 : List AT := owns sig5
def P5 (x0 : List Int) : Prop := ((P16 (g15_0 x0)) ∧ ((P17 (u16_0 (g15_0 x0))) ∧ ((P18 (u17_0 (u16_0 (g15_0 x0)))) ∧ True)))
def g5_0 (x0 : List Int) : List (ByteArray × List ByteArray × Unit) := g16_0 (g15_0 x0)
def g5_1 (x0 : List Int) : List (ByteArray × ByteArray × Int × Unit) := g16_1 (g15_0 x0)
def g5_2 (x0 : List Int) : ByteArray := g17_0 (u16_0 (g15_0 x0))
def g5_3 (x0 : List Int) : Int := g18_0 (u17_0 (u16_0 (g15_0 x0)))
theorem at5 (x0 : List Int) (h : P5 x0) (K : Ctx) (q : Nat → Value) : AtV Tryz.prog 5 (PostR kds5 oks5 [⟨Ty.sl (Ty.cons Ty.str (Ty.cons (Ty.sl Ty.str) Ty.unit)), g5_0 x0⟩, ⟨Ty.sl (Ty.cons Ty.str (Ty.cons Ty.str (Ty.cons (Ty.int IntKind.i64) Ty.unit))), g5_1 x0⟩, ⟨Ty.str, g5_2 x0⟩, ⟨Ty.int IntKind.i64, g5_3 x0⟩] [] [] q K) 24 K q [] [.code b5] (entE 0 0 sig5 (x0, ())) (entL sig5 (x0, ())) := by
  unfold P5 at h
  unfold g5_0 g5_1 g5_2 g5_3
  obtain ⟨s0, h⟩ := h
  obtain ⟨s1, h⟩ := h
  obtain ⟨s2, h⟩ := h
  exact AtV.ret Tryz.func5 tabOk ext5Ok mixed false [] tys5 [] (a1 trivial (a1 s0 (a1 s1 (a1 s2 trivial)))) (by kernel_rfl)

def S5 : Am.Spec := { sig := sig5, pre := fun ⟨x0, _⟩ => P5 x0, res := fun ⟨x0, _⟩ => [⟨Ty.sl (Ty.cons Ty.str (Ty.cons (Ty.sl Ty.str) Ty.unit)), g5_0 x0⟩, ⟨Ty.sl (Ty.cons Ty.str (Ty.cons Ty.str (Ty.cons (Ty.int IntKind.i64) Ty.unit))), g5_1 x0⟩, ⟨Ty.str, g5_2 x0⟩, ⟨Ty.int IntKind.i64, g5_3 x0⟩], kds := kds5 }
theorem con5 : Contract Tryz.prog 5 S5 := contract_of Tryz.func5 hb5 (Nat.le_of_ble_eq_true (by kernel_rfl)) (fun ⟨x0, _⟩ h _ K q => at5 x0 h K q)


end
end Go.Proofs.YtpellcnihifdaaaGreatDoor

/- Function 31 (impl.IsName): its runs between cut points. Written by a program of this repo (gen). -/
set_option linter.unusedVariables false
set_option linter.unusedSimpArgs false
set_option maxRecDepth 100000
namespace Go.Proofs.YtpellcnihifdaaaGreatDoor
open Go Go.Am Go.Proofs
noncomputable section
def ext31 : Ext := []
theorem ext31Ok : ExtOk Tryz.prog ext31 := trivial

noncomputable def b31 : Code := bodyOf Tryz.f31
theorem hb31 : Tryz.f31.body = some b31 := by kernel_rfl
def sig31 : List AT := [AT.v (Ty.str)]
def tys31 : List Ty := [Ty.bool]
def kds31 : List RK := []
def oks31 : List AT := owns sig31
def E31_4 (v18 : Int) (x0 : ByteArray) : Env := [(16, PV.a (Atom.osl 0 Option.none)), (17, PV.a (Atom.val (Value.int IntKind.i64 (↑(List.length (bytesOf x0)) : Int)))), (18, PV.a (Atom.val (Value.int IntKind.i64 v18)))]
def L31_4 (v18 : Int) (x0 : ByteArray) : Heap := [Option.some (Arr.mk (Ty.int IntKind.u8) (bytesOf x0) Bool.false Option.none Option.none)]
mutual
def R31 : Nat → ByteArray → List Dyn → Prop
  | 0, _, _ => False
  | n + 1, x0, ds => (if (Decidable.decide ((↑(ByteArray.size x0) : Int) < 1)) = true then (ds = [Dyn.mk Ty.bool Bool.false]) else (if (Decidable.decide ((↑(ByteArray.size x0) : Int) > 10)) = true then (ds = [Dyn.mk Ty.bool Bool.false]) else (R31_4 n (0) (x0) ds)))
def R31_4 : Nat → Int → ByteArray → List Dyn → Prop
  | 0, _, _, _ => False
  | n + 1, v18, x0, ds => (if (Decidable.decide (v18 < (↑(List.length (bytesOf x0)) : Int))) = true then ((0 ≤ v18) ∧ (v18 < (↑(List.length (bytesOf x0)) : Int)) ∧ (if (Decidable.decide (List.getD (bytesOf x0) (Int.toNat v18) 0 ≥ 97)) = true then (if (Decidable.decide (List.getD (bytesOf x0) (Int.toNat v18) 0 ≥ 48)) = true then (if (!Decidable.decide (List.getD (bytesOf x0) (Int.toNat v18) 0 ≤ 122)) = true then (if (v18 == 0) = true then (ds = [Dyn.mk Ty.bool Bool.false]) else (if (!Decidable.decide (List.getD (bytesOf x0) (Int.toNat v18) 0 ≤ 57)) = true then (ds = [Dyn.mk Ty.bool Bool.false]) else ((InR IntKind.i64 (v18 + 1)) ∧ (R31_4 n (v18 + 1) (x0) ds)))) else ((InR IntKind.i64 (v18 + 1)) ∧ (R31_4 n (v18 + 1) (x0) ds))) else (if (!Decidable.decide (List.getD (bytesOf x0) (Int.toNat v18) 0 ≤ 122)) = true then (if (v18 == 0) = true then (ds = [Dyn.mk Ty.bool Bool.false]) else (ds = [Dyn.mk Ty.bool Bool.false])) else ((InR IntKind.i64 (v18 + 1)) ∧ (R31_4 n (v18 + 1) (x0) ds)))) else (if (Decidable.decide (List.getD (bytesOf x0) (Int.toNat v18) 0 ≥ 48)) = true then (if (v18 == 0) = true then (ds = [Dyn.mk Ty.bool Bool.false]) else (if (!Decidable.decide (List.getD (bytesOf x0) (Int.toNat v18) 0 ≤ 57)) = true then (ds = [Dyn.mk Ty.bool Bool.false]) else ((InR IntKind.i64 (v18 + 1)) ∧ (R31_4 n (v18 + 1) (x0) ds)))) else (if (v18 == 0) = true then (ds = [Dyn.mk Ty.bool Bool.false]) else (ds = [Dyn.mk Ty.bool Bool.false]))))) else (ds = [Dyn.mk Ty.bool Bool.true]))
end
theorem snd31 : ∀ n, (∀ (x0 : ByteArray) ds, R31 n x0 ds → ∀ K q, AtV Tryz.prog 31 (PostR kds31 oks31 ds [] [] q K) 46 K q [] [.code b31] (entE 0 0 sig31 (x0, ())) (entL sig31 (x0, ()))) ∧ (∀ (v18 : Int) (x0 : ByteArray) ds, R31_4 n v18 x0 ds → ∀ K q, AtV Tryz.prog 31 (PostR kds31 oks31 ds [] [] q K) 46 K q [] (cutAt b31 4) (E31_4 v18 x0) (L31_4 v18 x0)) := by
  intro n
  induction n with
  | zero => exact ⟨fun _ _ h => by simp only [R31] at h, fun _ _ _ h => by simp only [R31_4] at h⟩
  | succ n ih =>
  obtain ⟨ih, ih4⟩ := ih
  refine ⟨?_, ?_⟩
  · intro x0 ds h K q
    rw [R31] at h
    by_cases b0 : (Decidable.decide ((↑(ByteArray.size x0) : Int) < 1)) = true
    · rw [if_pos b0] at h
      subst h
      exact AtV.ret Tryz.func31 tabOk ext31Ok mixed false [] tys31 [true, true] (a1 b0 (a1 (rfl : Bool.true = Bool.true) trivial)) (by kernel_rfl)
    · rw [if_neg b0] at h
      replace b0 := Bool.eq_false_iff.2 b0
      by_cases b1 : (Decidable.decide ((↑(ByteArray.size x0) : Int) > 10)) = true
      · rw [if_pos b1] at h
        subst h
        exact AtV.ret Tryz.func31 tabOk ext31Ok mixed false [] tys31 [false, true] (a1 b0 (a1 b1 trivial)) (by kernel_rfl)
      · rw [if_neg b1] at h
        replace b1 := Bool.eq_false_iff.2 b1
        exact AtV.go tabOk ext31Ok mixed false [] [] [16, 17, 18] [0] [false, false] (a1 b0 (a1 b1 trivial)) (ih4 _ _ _ h K q) (by kernel_rfl)

  · intro v18 x0 ds h K q
    rw [R31_4] at h
    by_cases b0 : (Decidable.decide (v18 < (↑(List.length (bytesOf x0)) : Int))) = true
    · rw [if_pos b0] at h
      obtain ⟨s0, s1, h⟩ := h
      by_cases b1 : (Decidable.decide (List.getD (bytesOf x0) (Int.toNat v18) 0 ≥ 97)) = true
      · rw [if_pos b1] at h
        by_cases b2 : (Decidable.decide (List.getD (bytesOf x0) (Int.toNat v18) 0 ≥ 48)) = true
        · rw [if_pos b2] at h
          by_cases b3 : (!Decidable.decide (List.getD (bytesOf x0) (Int.toNat v18) 0 ≤ 122)) = true
          · rw [if_pos b3] at h
            by_cases b4 : (v18 == 0) = true
            · rw [if_pos b4] at h
              subst h
              exact AtV.ret Tryz.func31 tabOk ext31Ok mixed false [] tys31 [true, true, true, true, true, true] (a1 b0 (a1 s0 (a1 s1 (a1 b1 (a1 b2 (a1 b3 (a1 b4 (a1 (rfl : Bool.true = Bool.true) trivial)))))))) (by kernel_rfl)
            · rw [if_neg b4] at h
              replace b4 := Bool.eq_false_iff.2 b4
              by_cases b5 : (!Decidable.decide (List.getD (bytesOf x0) (Int.toNat v18) 0 ≤ 57)) = true
              · rw [if_pos b5] at h
                subst h
                exact AtV.ret Tryz.func31 tabOk ext31Ok mixed false [] tys31 [true, true, true, true, false, true] (a1 b0 (a1 s0 (a1 s1 (a1 b1 (a1 b2 (a1 b3 (a1 b4 (a1 b5 trivial)))))))) (by kernel_rfl)
              · rw [if_neg b5] at h
                replace b5 := Bool.eq_false_iff.2 b5
                obtain ⟨s2, h⟩ := h
                exact AtV.go tabOk ext31Ok mixed false [] [] [16, 17, 18] [0] [true, true, true, true, false, false] (a1 b0 (a1 s0 (a1 s1 (a1 b1 (a1 b2 (a1 b3 (a1 b4 (a1 b5 (a1 s2 trivial))))))))) (ih4 _ _ _ h K q) (by kernel_rfl)
          · rw [if_neg b3] at h
            replace b3 := Bool.eq_false_iff.2 b3
            obtain ⟨s2, h⟩ := h
            exact AtV.go tabOk ext31Ok mixed false [] [] [16, 17, 18] [0] [true, true, true, false, false] (a1 b0 (a1 s0 (a1 s1 (a1 b1 (a1 b2 (a1 b3 (a1 (rfl : Bool.false = Bool.false) (a1 s2 trivial)))))))) (ih4 _ _ _ h K q) (by kernel_rfl)
        · rw [if_neg b2] at h
          replace b2 := Bool.eq_false_iff.2 b2
          by_cases b3 : (!Decidable.decide (List.getD (bytesOf x0) (Int.toNat v18) 0 ≤ 122)) = true
          · rw [if_pos b3] at h
            by_cases b4 : (v18 == 0) = true
            · rw [if_pos b4] at h
              subst h
              exact AtV.ret Tryz.func31 tabOk ext31Ok mixed false [] tys31 [true, true, false, true, true, true] (a1 b0 (a1 s0 (a1 s1 (a1 b1 (a1 b2 (a1 b3 (a1 b4 (a1 (rfl : Bool.true = Bool.true) trivial)))))))) (by kernel_rfl)
            · rw [if_neg b4] at h
              replace b4 := Bool.eq_false_iff.2 b4
              subst h
              exact AtV.ret Tryz.func31 tabOk ext31Ok mixed false [] tys31 [true, true, false, true, false, true] (a1 b0 (a1 s0 (a1 s1 (a1 b1 (a1 b2 (a1 b3 (a1 b4 (a1 (rfl : Bool.true = Bool.true) trivial)))))))) (by kernel_rfl)
          · rw [if_neg b3] at h
            replace b3 := Bool.eq_false_iff.2 b3
            obtain ⟨s2, h⟩ := h
            exact AtV.go tabOk ext31Ok mixed false [] [] [16, 17, 18] [0] [true, true, false, false, false] (a1 b0 (a1 s0 (a1 s1 (a1 b1 (a1 b2 (a1 b3 (a1 (rfl : Bool.false = Bool.false) (a1 s2 trivial)))))))) (ih4 _ _ _ h K q) (by kernel_rfl)
      · rw [if_neg b1] at h
        replace b1 := Bool.eq_false_iff.2 b1
        by_cases b2 : (Decidable.decide (List.getD (bytesOf x0) (Int.toNat v18) 0 ≥ 48)) = true
        · rw [if_pos b2] at h
          by_cases b3 : (v18 == 0) = true
          · rw [if_pos b3] at h
            subst h
            exact AtV.ret Tryz.func31 tabOk ext31Ok mixed false [] tys31 [true, false, true, true, true, true] (a1 b0 (a1 s0 (a1 s1 (a1 b1 (a1 b2 (a1 (rfl : Bool.true = Bool.true) (a1 b3 (a1 (rfl : Bool.true = Bool.true) trivial)))))))) (by kernel_rfl)
          · rw [if_neg b3] at h
            replace b3 := Bool.eq_false_iff.2 b3
            by_cases b4 : (!Decidable.decide (List.getD (bytesOf x0) (Int.toNat v18) 0 ≤ 57)) = true
            · rw [if_pos b4] at h
              subst h
              exact AtV.ret Tryz.func31 tabOk ext31Ok mixed false [] tys31 [true, false, true, true, false, true] (a1 b0 (a1 s0 (a1 s1 (a1 b1 (a1 b2 (a1 (rfl : Bool.true = Bool.true) (a1 b3 (a1 b4 trivial)))))))) (by kernel_rfl)
            · rw [if_neg b4] at h
              replace b4 := Bool.eq_false_iff.2 b4
              obtain ⟨s2, h⟩ := h
              exact AtV.go tabOk ext31Ok mixed false [] [] [16, 17, 18] [0] [true, false, true, true, false, false] (a1 b0 (a1 s0 (a1 s1 (a1 b1 (a1 b2 (a1 (rfl : Bool.true = Bool.true) (a1 b3 (a1 b4 (a1 s2 trivial))))))))) (ih4 _ _ _ h K q) (by kernel_rfl)
        · rw [if_neg b2] at h
          replace b2 := Bool.eq_false_iff.2 b2
          by_cases b3 : (v18 == 0) = true
          · rw [if_pos b3] at h
            subst h
            exact AtV.ret Tryz.func31 tabOk ext31Ok mixed false [] tys31 [true, false, false, true, true, true] (a1 b0 (a1 s0 (a1 s1 (a1 b1 (a1 b2 (a1 (rfl : Bool.true = Bool.true) (a1 b3 (a1 (rfl : Bool.true = Bool.true) trivial)))))))) (by kernel_rfl)
          · rw [if_neg b3] at h
            replace b3 := Bool.eq_false_iff.2 b3
            subst h
            exact AtV.ret Tryz.func31 tabOk ext31Ok mixed false [] tys31 [true, false, false, true, false, true] (a1 b0 (a1 s0 (a1 s1 (a1 b1 (a1 b2 (a1 (rfl : Bool.true = Bool.true) (a1 b3 (a1 (rfl : Bool.true = Bool.true) trivial)))))))) (by kernel_rfl)
    · rw [if_neg b0] at h
      replace b0 := Bool.eq_false_iff.2 b0
      subst h
      exact AtV.ret Tryz.func31 tabOk ext31Ok mixed false [] tys31 [false] (a1 b0 trivial) (by kernel_rfl)



def ok31 (i : Nat) (b : Int) : Bool := (decide (97 ≤ b) && decide (b ≤ 122)) || (!(i == 0) && (decide (48 ≤ b) && decide (b ≤ 57)))
def g31_0 (x0 : ByteArray) : Bool := decide (1 ≤ x0.size) && decide (x0.size ≤ 10) && allI ok31 0 (bytesOf x0)
def P31 (x0 : ByteArray) : Prop := True

theorem step31 (n i : Nat) (x0 : ByteArray) (hw : Wf .str x0) (hi : i < (bytesOf x0).length) (ds : List Dyn) :
    R31_4 (n + 1) (i : Int) x0 ds ↔ (if ok31 i ((bytesOf x0).getD i 0) = true then R31_4 n ((i : Int) + 1) x0 ds else ds = [⟨.bool, false⟩]) := by
  have hu := inR_up (xs := bytesOf x0) (by rw [bytesOf_length]; exact hw) hi
  rw [R31_4, if_pos (by simp; omega)]
  simp only [Int.toNat_natCast]
  have hb : (0 : Int) ≤ (i : Int) ∧ (i : Int) < ((bytesOf x0).length : Int) := by omega
  have hz : ((i : Int) == 0) = (i == 0) := by
    cases i with
    | zero => rfl
    | succ k => simp; omega
  simp only [hz, ok31, hu, true_and, hb.1, hb.2, ge_iff_le]
  by_cases h1 : (97 : Int) ≤ (bytesOf x0).getD i 0 <;> by_cases h2 : (bytesOf x0).getD i 0 ≤ 122 <;> by_cases h3 : (48 : Int) ≤ (bytesOf x0).getD i 0 <;> by_cases h4 : (bytesOf x0).getD i 0 ≤ 57 <;> rcases Bool.eq_false_or_eq_true (i == 0) with e0 | e0 <;> first | (exfalso; omega) | simp only [h1, h2, h3, h4, e0, decide_true, decide_false, Bool.not_true, Bool.not_false, Bool.true_and, Bool.false_and, Bool.and_true, Bool.and_false, Bool.true_or, Bool.or_true, Bool.or_false, Bool.false_or, if_true, if_false, Bool.false_eq_true]

theorem top31 (x0 : ByteArray) (hw : Wf .str x0) : R31 (x0.size + 1 + 1) x0 [⟨.bool, g31_0 x0⟩] := by
  have hl := bytesOf_length x0
  rw [R31]
  by_cases h0 : (x0.size : Int) < 1
  · rw [if_pos (by simpa using h0)]
    have : ¬ 1 ≤ x0.size := by omega
    simp [g31_0, this]
  · rw [if_neg (by simpa using h0)]
    by_cases h1 : (x0.size : Int) > 10
    · rw [if_pos (by simpa using h1)]
      have : ¬ x0.size ≤ 10 := by omega
      simp [g31_0, this]
    · rw [if_neg (by simpa using h1)]
      have key := loop_testI (bytesOf x0) 0 ok31 [(⟨.bool, false⟩ : Dyn)] [⟨.bool, true⟩] (fun n i ds => R31_4 n i x0 ds) (fun n => ?_) (fun n i hi hok ds hr => ?_) (fun n i hi hok => ?_)
      · rw [hl] at key
        have e : g31_0 x0 = allI ok31 0 (bytesOf x0) := by
          have a : 1 ≤ x0.size := by omega
          have b : x0.size ≤ 10 := by omega
          simp [g31_0, a, b]
        rw [e]
        cases h : allI ok31 0 (bytesOf x0) with
        | true => rw [if_pos h] at key; exact key
        | false => rw [if_neg (by rw [h]; simp)] at key; exact key
      · show R31_4 (n + 1) ((bytesOf x0).length : Int) x0 _
        rw [R31_4, if_neg (by simp)]
      · exact (step31 n i x0 hw hi ds).2 (by rw [if_pos hok]; exact hr)
      · exact (step31 n i x0 hw hi _).2 (by rw [if_neg (by rw [hok]; simp)])

def S31 : Am.Spec := { sig := sig31, pre := fun ⟨x0, _⟩ => P31 x0, res := fun ⟨x0, _⟩ => [⟨Ty.bool, g31_0 x0⟩] }
theorem con31 : Contract Tryz.prog 31 S31 := contract_of Tryz.func31 hb31 (Nat.le_of_ble_eq_true (by kernel_rfl)) (fun ⟨x0, _⟩ h hwf K q =>
  (snd31 _).1 x0 _ (top31 x0 hwf.1) K q)

end
end Go.Proofs.YtpellcnihifdaaaGreatDoor

/- Function 47 (impl.areNames): its runs between cut points. Written by a program of this repo (gen). -/
set_option linter.unusedVariables false
set_option linter.unusedSimpArgs false
set_option maxRecDepth 100000
namespace Go.Proofs.YtpellcnihifdaaaGreatDoor
open Go Go.Am Go.Proofs
noncomputable section
def ext47 : Ext := [(31, S31)]
theorem call47_31 : Callable Tryz.prog 31 := ⟨Tryz.f31, Tryz.func31, by kernel_rfl, by kernel_rfl⟩
theorem ext47Ok : ExtOk Tryz.prog ext47 := ⟨⟨call47_31, con31⟩, trivial⟩

noncomputable def b47 : Code := bodyOf Tryz.f47
theorem hb47 : Tryz.f47.body = some b47 := by kernel_rfl
def sig47 : List AT := [AT.v (Ty.sl Ty.str)]
def tys47 : List Ty := [Ty.bool]
def kds47 : List RK := []
def oks47 : List AT := owns sig47
def E47_2 (v7 : Int) (x0 : List ByteArray) : Env := [(0, PV.a (Atom.sl Ty.str x0)), (5, PV.a (Atom.sl Ty.str x0)), (6, PV.a (Atom.val (Value.int IntKind.i64 (↑(List.length x0) : Int)))), (7, PV.a (Atom.val (Value.int IntKind.i64 v7)))]
def L47_2 (v7 : Int) (x0 : List ByteArray) : Heap := []
mutual
def R47 : Nat → List ByteArray → List Dyn → Prop
  | 0, _, _ => False
  | n + 1, x0, ds => (R47_2 n (0) (x0) ds)
def R47_2 : Nat → Int → List ByteArray → List Dyn → Prop
  | 0, _, _, _ => False
  | n + 1, v7, x0, ds => (if (Decidable.decide (v7 < (↑(List.length x0) : Int))) = true then ((0 ≤ v7) ∧ (v7 < (↑(List.length x0) : Int)) ∧ (if (!g31_0 (List.getD x0 (Int.toNat v7) ByteArray.empty)) = true then (ds = [Dyn.mk Ty.bool Bool.false]) else (if (Decidable.decide (v7 > 0)) = true then ((InR IntKind.i64 (v7 - 1)) ∧ ((0 ≤ v7 - 1) ∧ (v7 - 1 < (↑(List.length x0) : Int)) ∧ (if (Op.bytesLess (ByteArray.toList (List.getD x0 (Int.toNat v7) ByteArray.empty)) (ByteArray.toList (List.getD x0 (Int.toNat (v7 - 1)) ByteArray.empty)) || ByteArray.toList (List.getD x0 (Int.toNat v7) ByteArray.empty) == ByteArray.toList (List.getD x0 (Int.toNat (v7 - 1)) ByteArray.empty)) = true then (ds = [Dyn.mk Ty.bool Bool.false]) else ((InR IntKind.i64 (v7 + 1)) ∧ (R47_2 n (v7 + 1) (x0) ds))))) else ((InR IntKind.i64 (v7 + 1)) ∧ (R47_2 n (v7 + 1) (x0) ds))))) else (ds = [Dyn.mk Ty.bool Bool.true]))
end
theorem snd47 : ∀ n, (∀ (x0 : List ByteArray) ds, R47 n x0 ds → ∀ K q, AtV Tryz.prog 47 (PostR kds47 oks47 ds [] [] q K) 29 K q [] [.code b47] (entE 0 0 sig47 (x0, ())) (entL sig47 (x0, ()))) ∧ (∀ (v7 : Int) (x0 : List ByteArray) ds, R47_2 n v7 x0 ds → ∀ K q, AtV Tryz.prog 47 (PostR kds47 oks47 ds [] [] q K) 29 K q [] (cutAt b47 2) (E47_2 v7 x0) (L47_2 v7 x0)) := by
  intro n
  induction n with
  | zero => exact ⟨fun _ _ h => by simp only [R47] at h, fun _ _ _ h => by simp only [R47_2] at h⟩
  | succ n ih =>
  obtain ⟨ih, ih2⟩ := ih
  refine ⟨?_, ?_⟩
  · intro x0 ds h K q
    rw [R47] at h
    exact AtV.go tabOk ext47Ok mixed false [] [] [0, 5, 6, 7] [] [] trivial (ih2 _ _ _ h K q) (by kernel_rfl)

  · intro v7 x0 ds h K q
    rw [R47_2] at h
    by_cases b0 : (Decidable.decide (v7 < (↑(List.length x0) : Int))) = true
    · rw [if_pos b0] at h
      obtain ⟨s0, s1, h⟩ := h
      by_cases b1 : (!g31_0 (List.getD x0 (Int.toNat v7) ByteArray.empty)) = true
      · rw [if_pos b1] at h
        subst h
        exact AtV.ret Tryz.func47 tabOk ext47Ok mixed false [] tys47 [true, true, true] (a1 b0 (a1 s0 (a1 s1 (a1 trivial (a1 b1 (a1 (rfl : Bool.true = Bool.true) trivial)))))) (by kernel_rfl)
      · rw [if_neg b1] at h
        replace b1 := Bool.eq_false_iff.2 b1
        by_cases b2 : (Decidable.decide (v7 > 0)) = true
        · rw [if_pos b2] at h
          obtain ⟨s2, h⟩ := h
          obtain ⟨s3, s4, h⟩ := h
          by_cases b3 : (Op.bytesLess (ByteArray.toList (List.getD x0 (Int.toNat v7) ByteArray.empty)) (ByteArray.toList (List.getD x0 (Int.toNat (v7 - 1)) ByteArray.empty)) || ByteArray.toList (List.getD x0 (Int.toNat v7) ByteArray.empty) == ByteArray.toList (List.getD x0 (Int.toNat (v7 - 1)) ByteArray.empty)) = true
          · rw [if_pos b3] at h
            subst h
            exact AtV.ret Tryz.func47 tabOk ext47Ok mixed false [] tys47 [true, false, true, true] (a1 b0 (a1 s0 (a1 s1 (a1 trivial (a1 b1 (a1 b2 (a1 s2 (a1 s3 (a1 s4 (a1 b3 trivial)))))))))) (by kernel_rfl)
          · rw [if_neg b3] at h
            replace b3 := Bool.eq_false_iff.2 b3
            obtain ⟨s5, h⟩ := h
            exact AtV.go tabOk ext47Ok mixed false [] [] [0, 5, 6, 7] [] [true, false, true, false] (a1 b0 (a1 s0 (a1 s1 (a1 trivial (a1 b1 (a1 b2 (a1 s2 (a1 s3 (a1 s4 (a1 b3 (a1 s5 trivial))))))))))) (ih2 _ _ _ h K q) (by kernel_rfl)
        · rw [if_neg b2] at h
          replace b2 := Bool.eq_false_iff.2 b2
          obtain ⟨s2, h⟩ := h
          exact AtV.go tabOk ext47Ok mixed false [] [] [0, 5, 6, 7] [] [true, false, false, false] (a1 b0 (a1 s0 (a1 s1 (a1 trivial (a1 b1 (a1 b2 (a1 (rfl : Bool.false = Bool.false) (a1 s2 trivial)))))))) (ih2 _ _ _ h K q) (by kernel_rfl)
    · rw [if_neg b0] at h
      replace b0 := Bool.eq_false_iff.2 b0
      subst h
      exact AtV.ret Tryz.func47 tabOk ext47Ok mixed false [] tys47 [false] (a1 b0 trivial) (by kernel_rfl)



def le47 (a b : ByteArray) : Bool := Op.bytesLess (ByteArray.toList a) (ByteArray.toList b) || ByteArray.toList a == ByteArray.toList b
def ok47 (x0 : List ByteArray) (i : Nat) (x : ByteArray) : Bool := g31_0 x && (i == 0 || !le47 x (x0.getD (i - 1) ByteArray.empty))
def g47_0 (x0 : List ByteArray) : Bool := allI (ok47 x0) 0 x0
def P47 (x0 : List ByteArray) : Prop := True

theorem step47 (n i : Nat) (x0 : List ByteArray) (hm : x0.length ≤ maxLen) (hi : i < x0.length) (ds : List Dyn)
    (h : if ok47 x0 i (x0.getD i ByteArray.empty) = true then R47_2 n ((i : Int) + 1) x0 ds else ds = [⟨.bool, false⟩]) : R47_2 (n + 1) (i : Int) x0 ds := by
  have hu := inR_up hm hi
  have hmx : maxLen ≤ 9223372036854775807 := by decide
  rw [R47_2, if_pos (by simp only [decide_eq_true_eq]; omega)]
  simp only [Int.toNat_natCast]
  refine ⟨by omega, by omega, ?_⟩
  unfold ok47 le47 at h
  cases h1 : g31_0 (x0.getD i ByteArray.empty) with
  | false =>
    rw [if_pos (by rfl)]
    rw [h1] at h
    simpa using h
  | true =>
    rw [if_neg (by decide)]
    rw [h1] at h
    by_cases h0 : (i : Int) > 0
    case neg =>
      rw [if_neg (by simpa using h0)]
      have hi0 : (i == 0) = true := by simp; omega
      rw [hi0] at h
      exact ⟨hu, by simpa using h⟩
    rw [if_pos (by simpa using h0)]
    have hi0 : (i == 0) = false := by simp; omega
    have e : ((i : Int) - 1).toNat = i - 1 := by omega
    have hd : InR .i64 ((i : Int) - 1) := by rw [i64_iff]; omega
    rw [hi0] at h
    simp only [e]
    refine ⟨hd, by omega, by omega, ?_⟩
    cases h3 : Op.bytesLess (ByteArray.toList (x0.getD i ByteArray.empty)) (ByteArray.toList (x0.getD (i - 1) ByteArray.empty)) || ByteArray.toList (x0.getD i ByteArray.empty) == ByteArray.toList (x0.getD (i - 1) ByteArray.empty) with
    | true =>
      rw [if_pos rfl]
      rw [h3] at h
      exact h
    | false =>
      rw [if_neg (by decide)]
      rw [h3] at h
      exact ⟨hu, h⟩

theorem top47 (x0 : List ByteArray) (hw : x0.length ≤ maxLen) : R47 (x0.length + 1 + 1) x0 [⟨.bool, g47_0 x0⟩] := by
  rw [R47]
  have key := loop_testI x0 ByteArray.empty (ok47 x0) [(⟨.bool, false⟩ : Dyn)] [⟨.bool, true⟩] (fun n i ds => R47_2 n i x0 ds) (fun n => ?_) (fun n i hi hok ds hr => ?_) (fun n i hi hok => ?_)
  · unfold g47_0
    cases h : allI (ok47 x0) 0 x0 with
    | true => rw [if_pos h] at key; simpa using key
    | false => rw [if_neg (by rw [h]; simp)] at key; simpa using key
  · rw [R47_2, if_neg (by simp)]
  · exact step47 n i x0 hw hi ds (by rw [if_pos hok]; exact hr)
  · exact step47 n i x0 hw hi _ (by rw [if_neg (by rw [hok]; simp)])

def S47 : Am.Spec := { sig := sig47, pre := fun ⟨x0, _⟩ => P47 x0, res := fun ⟨x0, _⟩ => [⟨Ty.bool, g47_0 x0⟩] }
theorem con47 : Contract Tryz.prog 47 S47 := contract_of Tryz.func47 hb47 (Nat.le_of_ble_eq_true (by kernel_rfl)) (fun ⟨x0, _⟩ h hwf K q =>
  (snd47 _).1 x0 _ (top47 x0 hwf.1.1) K q)

end
end Go.Proofs.YtpellcnihifdaaaGreatDoor

/- Function 65 (impl.roleAt$1): its runs between cut points. Written by a program of this repo (gen). -/
set_option linter.unusedVariables false
set_option linter.unusedSimpArgs false
set_option maxRecDepth 100000
namespace Go.Proofs.YtpellcnihifdaaaGreatDoor
open Go Go.Am Go.Proofs
noncomputable section
def ext65 : Ext := []
theorem ext65Ok : ExtOk Tryz.prog ext65 := trivial

noncomputable def b65 : Code := bodyOf Tryz.f65
theorem hb65 : Tryz.f65.body = some b65 := by kernel_rfl
def sig65 : List AT := [AT.v (Ty.cons Ty.str (Ty.cons (Ty.sl Ty.str) Ty.unit)), AT.p .str]
def tys65 : List Ty := [Ty.bool]
def kds65 : List RK := []
def oks65 : List AT := owns sig65
def P65 (x0 : ByteArray × List ByteArray × Unit) (x1 : ByteArray) : Prop := True
def g65_0 (x0 : ByteArray × List ByteArray × Unit) (x1 : ByteArray) : Bool := ByteArray.toList (Prod.fst x0) == ByteArray.toList x1
theorem at65 (x0 : ByteArray × List ByteArray × Unit) (x1 : ByteArray) (h : P65 x0 x1) (K : Ctx) (q : Nat → Value) : AtV Tryz.prog 65 (PostR kds65 oks65 [⟨Ty.bool, g65_0 x0 x1⟩] [] [] q K) 8 K q [] [.code b65] (entE 0 0 sig65 (x0, x1, ())) (entL sig65 (x0, x1, ())) := by
  unfold P65 at h
  unfold g65_0
  exact AtV.ret Tryz.func65 tabOk ext65Ok mixed false [] tys65 [] trivial (by kernel_rfl)

def S65 : Am.Spec := { sig := sig65, pre := fun ⟨x0, x1, _⟩ => P65 x0 x1, res := fun ⟨x0, x1, _⟩ => [⟨Ty.bool, g65_0 x0 x1⟩], kds := kds65 }
theorem con65 : Contract Tryz.prog 65 S65 := contract_of Tryz.func65 hb65 (Nat.le_of_ble_eq_true (by kernel_rfl)) (fun ⟨x0, x1, _⟩ h _ K q => at65 x0 x1 h K q)


end
end Go.Proofs.YtpellcnihifdaaaGreatDoor

/- Function 64 (slices.IndexFunc[[]impl.Role,impl.Role]): its runs between cut points. Written by a program of this repo (gen). -/
set_option linter.unusedVariables false
set_option linter.unusedSimpArgs false
set_option maxRecDepth 100000
namespace Go.Proofs.YtpellcnihifdaaaGreatDoor
open Go Go.Am Go.Proofs
noncomputable section
def ext64c65 : Ext := [(65, S65)]
theorem call64c65_65 : Callable Tryz.prog 65 := ⟨Tryz.f65, Tryz.func65, by kernel_rfl, by kernel_rfl⟩
theorem ext64c65Ok : ExtOk Tryz.prog ext64c65 := ⟨⟨call64c65_65, con65⟩, trivial⟩

noncomputable def b64c65 : Code := bodyOf Tryz.f64
theorem hb64c65 : Tryz.f64.body = some b64c65 := by kernel_rfl
def sig64c65 : List AT := [AT.v (Ty.sl (Ty.cons Ty.str (Ty.cons (Ty.sl Ty.str) Ty.unit))), AT.fn 65 [(true, .str)]]
def tys64c65 : List Ty := [Ty.int IntKind.i64]
def kds64c65 : List RK := []
def oks64c65 : List AT := owns sig64c65
def E64c65_2 (v8 : Int) (x0 : List (ByteArray × List ByteArray × Unit)) (x1 : ByteArray) : Env := [(0, PV.a (Atom.sl (Ty.cons Ty.str (Ty.cons (Ty.sl Ty.str) Ty.unit)) x0)), (1, PV.fn 65 [Atom.ptr Ty.str x1]), (7, PV.a (Atom.val (Value.int IntKind.i64 (↑(List.length x0) : Int)))), (8, PV.a (Atom.val (Value.int IntKind.i64 v8)))]
def L64c65_2 (v8 : Int) (x0 : List (ByteArray × List ByteArray × Unit)) (x1 : ByteArray) : Heap := []
mutual
def R64c65 : Nat → List (ByteArray × List ByteArray × Unit) → ByteArray → List Dyn → Prop
  | 0, _, _, _ => False
  | n + 1, x0, x1, ds => (R64c65_2 n (0) (x0) (x1) ds)
def R64c65_2 : Nat → Int → List (ByteArray × List ByteArray × Unit) → ByteArray → List Dyn → Prop
  | 0, _, _, _, _ => False
  | n + 1, v8, x0, x1, ds => (if (Decidable.decide (v8 < (↑(List.length x0) : Int))) = true then ((0 ≤ v8) ∧ (v8 < (↑(List.length x0) : Int)) ∧ (if (g65_0 (List.getD x0 (Int.toNat v8) (ByteArray.empty, [], ())) x1) = true then (ds = [Dyn.mk (Ty.int IntKind.i64) v8]) else ((InR IntKind.i64 (v8 + 1)) ∧ (R64c65_2 n (v8 + 1) (x0) (x1) ds)))) else (ds = [Dyn.mk (Ty.int IntKind.i64) (-1)]))
end
theorem snd64c65 : ∀ n, (∀ (x0 : List (ByteArray × List ByteArray × Unit)) (x1 : ByteArray) ds, R64c65 n x0 x1 ds → ∀ K q, AtV Tryz.prog 64 (PostR kds64c65 oks64c65 ds [] [] q K) 19 K q [] [.code b64c65] (entE 0 0 sig64c65 (x0, (x1, ()), ())) (entL sig64c65 (x0, (x1, ()), ()))) ∧ (∀ (v8 : Int) (x0 : List (ByteArray × List ByteArray × Unit)) (x1 : ByteArray) ds, R64c65_2 n v8 x0 x1 ds → ∀ K q, AtV Tryz.prog 64 (PostR kds64c65 oks64c65 ds [] [] q K) 19 K q [] (cutAt b64c65 2) (E64c65_2 v8 x0 x1) (L64c65_2 v8 x0 x1)) := by
  intro n
  induction n with
  | zero => exact ⟨fun _ _ _ h => by simp only [R64c65] at h, fun _ _ _ _ h => by simp only [R64c65_2] at h⟩
  | succ n ih =>
  obtain ⟨ih, ih2⟩ := ih
  refine ⟨?_, ?_⟩
  · intro x0 x1 ds h K q
    rw [R64c65] at h
    exact AtV.go tabOk ext64c65Ok mixed false [] [] [0, 1, 7, 8] [] [] trivial (ih2 _ _ _ _ h K q) (by kernel_rfl)

  · intro v8 x0 x1 ds h K q
    rw [R64c65_2] at h
    by_cases b0 : (Decidable.decide (v8 < (↑(List.length x0) : Int))) = true
    · rw [if_pos b0] at h
      obtain ⟨s0, s1, h⟩ := h
      by_cases b1 : (g65_0 (List.getD x0 (Int.toNat v8) (ByteArray.empty, [], ())) x1) = true
      · rw [if_pos b1] at h
        subst h
        exact AtV.ret Tryz.func64 tabOk ext64c65Ok mixed false [] tys64c65 [true, true] (a1 b0 (a1 s0 (a1 s1 (a1 trivial (a1 b1 trivial))))) (by kernel_rfl)
      · rw [if_neg b1] at h
        replace b1 := Bool.eq_false_iff.2 b1
        obtain ⟨s2, h⟩ := h
        exact AtV.go tabOk ext64c65Ok mixed false [] [] [0, 1, 7, 8] [] [true, false] (a1 b0 (a1 s0 (a1 s1 (a1 trivial (a1 b1 (a1 s2 trivial)))))) (ih2 _ _ _ _ h K q) (by kernel_rfl)
    · rw [if_neg b0] at h
      replace b0 := Bool.eq_false_iff.2 b0
      subst h
      exact AtV.ret Tryz.func64 tabOk ext64c65Ok mixed false [] tys64c65 [false] (a1 b0 trivial) (by kernel_rfl)



def g64c65_0 (x0 : List (ByteArray × List (ByteArray) × Unit)) (y0 : ByteArray) : Int := idx (x0.findIdx? (fun x => g65_0 x y0))
def P64c65 (x0 : List (ByteArray × List (ByteArray) × Unit)) (y0 : ByteArray) : Prop := True

theorem top64c65 (x0 : List (ByteArray × List (ByteArray) × Unit)) (y0 : ByteArray) (hm : x0.length ≤ maxLen) : R64c65 (x0.length + 1 + 1) x0 y0 [⟨.int .i64, g64c65_0 x0 y0⟩] := by
  rw [R64c65]
  have key := loop_find x0 (ByteArray.empty, [], ()) (fun x => g65_0 x y0) [(⟨.int .i64, -1⟩ : Dyn)] (fun k => [⟨.int .i64, k⟩]) (fun n i ds => R64c65_2 n i x0 y0 ds) (fun n => ?_) (fun n i hi hok ds hr => ?_) (fun n i hi hok => ?_)
  · unfold g64c65_0
    cases h : x0.findIdx? (fun x => g65_0 x y0) <;> rw [h] at key <;> exact key
  · rw [R64c65_2, if_neg (by simp)]
  · rw [R64c65_2, if_pos (by simp; omega)]
    simp only [Int.toNat_natCast]
    refine ⟨by omega, by omega, ?_⟩
    rw [if_neg (by rw [hok]; simp)]
    exact ⟨inR_up hm hi, hr⟩
  · rw [R64c65_2, if_pos (by simp; omega)]
    simp only [Int.toNat_natCast]
    refine ⟨by omega, by omega, ?_⟩
    rw [if_pos hok] <;> trivial

def S64c65 : Am.Spec := { sig := sig64c65, pre := fun ⟨x0, ⟨y0, _⟩, _⟩ => P64c65 x0 y0, res := fun ⟨x0, ⟨y0, _⟩, _⟩ => [⟨Ty.int .i64, g64c65_0 x0 y0⟩] }
theorem con64c65 : Contract Tryz.prog 64 S64c65 := contract_of Tryz.func64 hb64c65 (Nat.le_of_ble_eq_true (by kernel_rfl)) (fun ⟨x0, ⟨y0, _⟩, _⟩ h hwf K q =>
  (snd64c65 _).1 x0 y0 _ (top64c65 x0 y0 hwf.1.1) K q)

end
end Go.Proofs.YtpellcnihifdaaaGreatDoor

/- Function 46 (impl.roleAt): its runs between cut points. Written by a program of this repo (gen). -/
set_option linter.unusedVariables false
set_option linter.unusedSimpArgs false
set_option maxRecDepth 100000
namespace Go.Proofs.YtpellcnihifdaaaGreatDoor
open Go Go.Am Go.Proofs
noncomputable section
def ext46 : Ext := [(64, S64c65)]
theorem call46_64 : Callable Tryz.prog 64 := ⟨Tryz.f64, Tryz.func64, by kernel_rfl, by kernel_rfl⟩
theorem ext46Ok : ExtOk Tryz.prog ext46 := ⟨⟨call46_64, con64c65⟩, trivial⟩

noncomputable def b46 : Code := bodyOf Tryz.f46
theorem hb46 : Tryz.f46.body = some b46 := by kernel_rfl
def sig46 : List AT := [AT.v (Ty.sl (Ty.cons Ty.str (Ty.cons (Ty.sl Ty.str) Ty.unit))), AT.v (Ty.str)]
def tys46 : List Ty := [Ty.int IntKind.i64]
def kds46 : List RK := []
def oks46 : List AT := owns sig46
def P46 (x0 : List (ByteArray × List ByteArray × Unit)) (x1 : ByteArray) : Prop := True
def g46_0 (x0 : List (ByteArray × List ByteArray × Unit)) (x1 : ByteArray) : Int := g64c65_0 x0 x1
theorem at46 (x0 : List (ByteArray × List ByteArray × Unit)) (x1 : ByteArray) (h : P46 x0 x1) (K : Ctx) (q : Nat → Value) : AtV Tryz.prog 46 (PostR kds46 oks46 [⟨Ty.int IntKind.i64, g46_0 x0 x1⟩] [] [] q K) 8 K q [] [.code b46] (entE 0 0 sig46 (x0, x1, ())) (entL sig46 (x0, x1, ())) := by
  unfold P46 at h
  unfold g46_0
  exact AtV.ret Tryz.func46 tabOk ext46Ok mixed false [] tys46 [] (a1 trivial trivial) (by kernel_rfl)

def S46 : Am.Spec := { sig := sig46, pre := fun ⟨x0, x1, _⟩ => P46 x0 x1, res := fun ⟨x0, x1, _⟩ => [⟨Ty.int IntKind.i64, g46_0 x0 x1⟩], kds := kds46 }
theorem con46 : Contract Tryz.prog 46 S46 := contract_of Tryz.func46 hb46 (Nat.le_of_ble_eq_true (by kernel_rfl)) (fun ⟨x0, x1, _⟩ h _ K q => at46 x0 x1 h K q)


end
end Go.Proofs.YtpellcnihifdaaaGreatDoor

/- Function 49 (impl.ValidRoles$1): its runs between cut points. Written by a program of this repo (gen). -/
set_option linter.unusedVariables false
set_option linter.unusedSimpArgs false
set_option maxRecDepth 100000
namespace Go.Proofs.YtpellcnihifdaaaGreatDoor
open Go Go.Am Go.Proofs
noncomputable section
def ext49 : Ext := [(46, S46)]
theorem call49_46 : Callable Tryz.prog 46 := ⟨Tryz.f46, Tryz.func46, by kernel_rfl, by kernel_rfl⟩
theorem ext49Ok : ExtOk Tryz.prog ext49 := ⟨⟨call49_46, con46⟩, trivial⟩

noncomputable def b49 : Code := bodyOf Tryz.f49
theorem hb49 : Tryz.f49.body = some b49 := by kernel_rfl
def sig49 : List AT := [AT.v (Ty.str), AT.p (.sl (.cons .str (.cons (.sl .str) .unit)))]
def tys49 : List Ty := [Ty.bool]
def kds49 : List RK := []
def oks49 : List AT := owns sig49
def P49 (x0 : ByteArray) (x1 : List (ByteArray × List ByteArray × Unit)) : Prop := True
def g49_0 (x0 : ByteArray) (x1 : List (ByteArray × List ByteArray × Unit)) : Bool := Decidable.decide (g46_0 x1 x0 < 0)
theorem at49 (x0 : ByteArray) (x1 : List (ByteArray × List ByteArray × Unit)) (h : P49 x0 x1) (K : Ctx) (q : Nat → Value) : AtV Tryz.prog 49 (PostR kds49 oks49 [⟨Ty.bool, g49_0 x0 x1⟩] [] [] q K) 8 K q [] [.code b49] (entE 0 0 sig49 (x0, x1, ())) (entL sig49 (x0, x1, ())) := by
  unfold P49 at h
  unfold g49_0
  exact AtV.ret Tryz.func49 tabOk ext49Ok mixed false [] tys49 [] (a1 trivial trivial) (by kernel_rfl)

def S49 : Am.Spec := { sig := sig49, pre := fun ⟨x0, x1, _⟩ => P49 x0 x1, res := fun ⟨x0, x1, _⟩ => [⟨Ty.bool, g49_0 x0 x1⟩], kds := kds49 }
theorem con49 : Contract Tryz.prog 49 S49 := contract_of Tryz.func49 hb49 (Nat.le_of_ble_eq_true (by kernel_rfl)) (fun ⟨x0, x1, _⟩ h _ K q => at49 x0 x1 h K q)


end
end Go.Proofs.YtpellcnihifdaaaGreatDoor

/- Function 66 (slices.IndexFunc[[]string,string]): its runs between cut points. Written by a program of this repo (gen). -/
set_option linter.unusedVariables false
set_option linter.unusedSimpArgs false
set_option maxRecDepth 100000
namespace Go.Proofs.YtpellcnihifdaaaGreatDoor
open Go Go.Am Go.Proofs
noncomputable section
def ext66c49 : Ext := [(49, S49)]
theorem call66c49_49 : Callable Tryz.prog 49 := ⟨Tryz.f49, Tryz.func49, by kernel_rfl, by kernel_rfl⟩
theorem ext66c49Ok : ExtOk Tryz.prog ext66c49 := ⟨⟨call66c49_49, con49⟩, trivial⟩

noncomputable def b66c49 : Code := bodyOf Tryz.f66
theorem hb66c49 : Tryz.f66.body = some b66c49 := by kernel_rfl
def sig66c49 : List AT := [AT.v (Ty.sl Ty.str), AT.fn 49 [(true, (.sl (.cons .str (.cons (.sl .str) .unit))))]]
def tys66c49 : List Ty := [Ty.int IntKind.i64]
def kds66c49 : List RK := []
def oks66c49 : List AT := owns sig66c49
def E66c49_2 (v8 : Int) (x0 : List ByteArray) (x1 : List (ByteArray × List ByteArray × Unit)) : Env := [(0, PV.a (Atom.sl Ty.str x0)), (1, PV.fn 49 [Atom.ptr (Ty.sl (Ty.cons Ty.str (Ty.cons (Ty.sl Ty.str) Ty.unit))) x1]), (7, PV.a (Atom.val (Value.int IntKind.i64 (↑(List.length x0) : Int)))), (8, PV.a (Atom.val (Value.int IntKind.i64 v8)))]
def L66c49_2 (v8 : Int) (x0 : List ByteArray) (x1 : List (ByteArray × List ByteArray × Unit)) : Heap := []
mutual
def R66c49 : Nat → List ByteArray → List (ByteArray × List ByteArray × Unit) → List Dyn → Prop
  | 0, _, _, _ => False
  | n + 1, x0, x1, ds => (R66c49_2 n (0) (x0) (x1) ds)
def R66c49_2 : Nat → Int → List ByteArray → List (ByteArray × List ByteArray × Unit) → List Dyn → Prop
  | 0, _, _, _, _ => False
  | n + 1, v8, x0, x1, ds => (if (Decidable.decide (v8 < (↑(List.length x0) : Int))) = true then ((0 ≤ v8) ∧ (v8 < (↑(List.length x0) : Int)) ∧ (if (g49_0 (List.getD x0 (Int.toNat v8) ByteArray.empty) x1) = true then (ds = [Dyn.mk (Ty.int IntKind.i64) v8]) else ((InR IntKind.i64 (v8 + 1)) ∧ (R66c49_2 n (v8 + 1) (x0) (x1) ds)))) else (ds = [Dyn.mk (Ty.int IntKind.i64) (-1)]))
end
theorem snd66c49 : ∀ n, (∀ (x0 : List ByteArray) (x1 : List (ByteArray × List ByteArray × Unit)) ds, R66c49 n x0 x1 ds → ∀ K q, AtV Tryz.prog 66 (PostR kds66c49 oks66c49 ds [] [] q K) 19 K q [] [.code b66c49] (entE 0 0 sig66c49 (x0, (x1, ()), ())) (entL sig66c49 (x0, (x1, ()), ()))) ∧ (∀ (v8 : Int) (x0 : List ByteArray) (x1 : List (ByteArray × List ByteArray × Unit)) ds, R66c49_2 n v8 x0 x1 ds → ∀ K q, AtV Tryz.prog 66 (PostR kds66c49 oks66c49 ds [] [] q K) 19 K q [] (cutAt b66c49 2) (E66c49_2 v8 x0 x1) (L66c49_2 v8 x0 x1)) := by
  intro n
  induction n with
  | zero => exact ⟨fun _ _ _ h => by simp only [R66c49] at h, fun _ _ _ _ h => by simp only [R66c49_2] at h⟩
  | succ n ih =>
  obtain ⟨ih, ih2⟩ := ih
  refine ⟨?_, ?_⟩
  · intro x0 x1 ds h K q
    rw [R66c49] at h
    exact AtV.go tabOk ext66c49Ok mixed false [] [] [0, 1, 7, 8] [] [] trivial (ih2 _ _ _ _ h K q) (by kernel_rfl)

  · intro v8 x0 x1 ds h K q
    rw [R66c49_2] at h
    by_cases b0 : (Decidable.decide (v8 < (↑(List.length x0) : Int))) = true
    · rw [if_pos b0] at h
      obtain ⟨s0, s1, h⟩ := h
      by_cases b1 : (g49_0 (List.getD x0 (Int.toNat v8) ByteArray.empty) x1) = true
      · rw [if_pos b1] at h
        subst h
        exact AtV.ret Tryz.func66 tabOk ext66c49Ok mixed false [] tys66c49 [true, true] (a1 b0 (a1 s0 (a1 s1 (a1 trivial (a1 b1 trivial))))) (by kernel_rfl)
      · rw [if_neg b1] at h
        replace b1 := Bool.eq_false_iff.2 b1
        obtain ⟨s2, h⟩ := h
        exact AtV.go tabOk ext66c49Ok mixed false [] [] [0, 1, 7, 8] [] [true, false] (a1 b0 (a1 s0 (a1 s1 (a1 trivial (a1 b1 (a1 s2 trivial)))))) (ih2 _ _ _ _ h K q) (by kernel_rfl)
    · rw [if_neg b0] at h
      replace b0 := Bool.eq_false_iff.2 b0
      subst h
      exact AtV.ret Tryz.func66 tabOk ext66c49Ok mixed false [] tys66c49 [false] (a1 b0 trivial) (by kernel_rfl)



def g66c49_0 (x0 : List (ByteArray)) (y0 : List (ByteArray × List (ByteArray) × Unit)) : Int := idx (x0.findIdx? (fun x => g49_0 x y0))
def P66c49 (x0 : List (ByteArray)) (y0 : List (ByteArray × List (ByteArray) × Unit)) : Prop := True

theorem top66c49 (x0 : List (ByteArray)) (y0 : List (ByteArray × List (ByteArray) × Unit)) (hm : x0.length ≤ maxLen) : R66c49 (x0.length + 1 + 1) x0 y0 [⟨.int .i64, g66c49_0 x0 y0⟩] := by
  rw [R66c49]
  have key := loop_find x0 ByteArray.empty (fun x => g49_0 x y0) [(⟨.int .i64, -1⟩ : Dyn)] (fun k => [⟨.int .i64, k⟩]) (fun n i ds => R66c49_2 n i x0 y0 ds) (fun n => ?_) (fun n i hi hok ds hr => ?_) (fun n i hi hok => ?_)
  · unfold g66c49_0
    cases h : x0.findIdx? (fun x => g49_0 x y0) <;> rw [h] at key <;> exact key
  · rw [R66c49_2, if_neg (by simp)]
  · rw [R66c49_2, if_pos (by simp; omega)]
    simp only [Int.toNat_natCast]
    refine ⟨by omega, by omega, ?_⟩
    rw [if_neg (by rw [hok]; simp)]
    exact ⟨inR_up hm hi, hr⟩
  · rw [R66c49_2, if_pos (by simp; omega)]
    simp only [Int.toNat_natCast]
    refine ⟨by omega, by omega, ?_⟩
    rw [if_pos hok] <;> trivial

def S66c49 : Am.Spec := { sig := sig66c49, pre := fun ⟨x0, ⟨y0, _⟩, _⟩ => P66c49 x0 y0, res := fun ⟨x0, ⟨y0, _⟩, _⟩ => [⟨Ty.int .i64, g66c49_0 x0 y0⟩] }
theorem con66c49 : Contract Tryz.prog 66 S66c49 := contract_of Tryz.func66 hb66c49 (Nat.le_of_ble_eq_true (by kernel_rfl)) (fun ⟨x0, ⟨y0, _⟩, _⟩ h hwf K q =>
  (snd66c49 _).1 x0 y0 _ (top66c49 x0 y0 hwf.1.1) K q)

theorem any66c49 (x0 : List (ByteArray)) (y0 : List (ByteArray × List (ByteArray) × Unit)) : decide (g66c49_0 x0 y0 ≥ 0) = x0.any (fun x => g49_0 x y0) := by
  have := findIdx_any (fun x => g49_0 x y0) x0
  unfold g66c49_0
  cases h : x0.any (fun x => g49_0 x y0) with
  | true => rw [h] at this; simpa using this
  | false => rw [h] at this; simpa using this

end
end Go.Proofs.YtpellcnihifdaaaGreatDoor

/- Function 48 (slices.ContainsFunc[[]string,string]): its runs between cut points. Written by a program of this repo (gen). -/
set_option linter.unusedVariables false
set_option linter.unusedSimpArgs false
set_option maxRecDepth 100000
namespace Go.Proofs.YtpellcnihifdaaaGreatDoor
open Go Go.Am Go.Proofs
noncomputable section
def ext48c49 : Ext := [(66, S66c49), (49, S49)]
theorem call48c49_66 : Callable Tryz.prog 66 := ⟨Tryz.f66, Tryz.func66, by kernel_rfl, by kernel_rfl⟩
theorem call48c49_49 : Callable Tryz.prog 49 := ⟨Tryz.f49, Tryz.func49, by kernel_rfl, by kernel_rfl⟩
theorem ext48c49Ok : ExtOk Tryz.prog ext48c49 := ⟨⟨call48c49_66, con66c49⟩, ⟨call48c49_49, con49⟩, trivial⟩

noncomputable def b48c49 : Code := bodyOf Tryz.f48
theorem hb48c49 : Tryz.f48.body = some b48c49 := by kernel_rfl
def sig48c49 : List AT := [AT.v (Ty.sl Ty.str), AT.fn 49 [(true, (.sl (.cons .str (.cons (.sl .str) .unit))))]]
def tys48c49 : List Ty := [Ty.bool]
def kds48c49 : List RK := []
def oks48c49 : List AT := owns sig48c49
def P48c49 (x0 : List ByteArray) (x1 : List (ByteArray × List ByteArray × Unit)) : Prop := True
def g48c49_0 (x0 : List ByteArray) (x1 : List (ByteArray × List ByteArray × Unit)) : Bool := Decidable.decide (g66c49_0 x0 x1 ≥ 0)
theorem at48c49 (x0 : List ByteArray) (x1 : List (ByteArray × List ByteArray × Unit)) (h : P48c49 x0 x1) (K : Ctx) (q : Nat → Value) : AtV Tryz.prog 48 (PostR kds48c49 oks48c49 [⟨Ty.bool, g48c49_0 x0 x1⟩] [] [] q K) 9 K q [] [.code b48c49] (entE 0 0 sig48c49 (x0, (x1, ()), ())) (entL sig48c49 (x0, (x1, ()), ())) := by
  unfold P48c49 at h
  unfold g48c49_0
  exact AtV.ret Tryz.func48 tabOk ext48c49Ok mixed false [] tys48c49 [] (a1 trivial trivial) (by kernel_rfl)

def S48c49 : Am.Spec := { sig := sig48c49, pre := fun ⟨x0, ⟨x1, _⟩, _⟩ => P48c49 x0 x1, res := fun ⟨x0, ⟨x1, _⟩, _⟩ => [⟨Ty.bool, g48c49_0 x0 x1⟩], kds := kds48c49 }
theorem con48c49 : Contract Tryz.prog 48 S48c49 := contract_of Tryz.func48 hb48c49 (Nat.le_of_ble_eq_true (by kernel_rfl)) (fun ⟨x0, ⟨x1, _⟩, _⟩ h _ K q => at48c49 x0 x1 h K q)


end
end Go.Proofs.YtpellcnihifdaaaGreatDoor

/- Function 61 (slices.Index[[]string,string]): its runs between cut points. Written by a program of this repo (gen). -/
set_option linter.unusedVariables false
set_option linter.unusedSimpArgs false
set_option maxRecDepth 100000
namespace Go.Proofs.YtpellcnihifdaaaGreatDoor
open Go Go.Am Go.Proofs
noncomputable section
def ext61 : Ext := []
theorem ext61Ok : ExtOk Tryz.prog ext61 := trivial

noncomputable def b61 : Code := bodyOf Tryz.f61
theorem hb61 : Tryz.f61.body = some b61 := by kernel_rfl
def sig61 : List AT := [AT.v (Ty.sl Ty.str), AT.v (Ty.str)]
def tys61 : List Ty := [Ty.int IntKind.i64]
def kds61 : List RK := []
def oks61 : List AT := owns sig61
def E61_2 (v8 : Int) (x0 : List ByteArray) (x1 : ByteArray) : Env := [(0, PV.a (Atom.sl Ty.str x0)), (1, PV.a (Atom.val (Value.string x1))), (7, PV.a (Atom.val (Value.int IntKind.i64 (↑(List.length x0) : Int)))), (8, PV.a (Atom.val (Value.int IntKind.i64 v8)))]
def L61_2 (v8 : Int) (x0 : List ByteArray) (x1 : ByteArray) : Heap := []
mutual
def R61 : Nat → List ByteArray → ByteArray → List Dyn → Prop
  | 0, _, _, _ => False
  | n + 1, x0, x1, ds => (R61_2 n (0) (x0) (x1) ds)
def R61_2 : Nat → Int → List ByteArray → ByteArray → List Dyn → Prop
  | 0, _, _, _, _ => False
  | n + 1, v8, x0, x1, ds => (if (Decidable.decide (v8 < (↑(List.length x0) : Int))) = true then ((0 ≤ v8) ∧ (v8 < (↑(List.length x0) : Int)) ∧ (if (ByteArray.toList x1 == ByteArray.toList (List.getD x0 (Int.toNat v8) ByteArray.empty)) = true then (ds = [Dyn.mk (Ty.int IntKind.i64) v8]) else ((InR IntKind.i64 (v8 + 1)) ∧ (R61_2 n (v8 + 1) (x0) (x1) ds)))) else (ds = [Dyn.mk (Ty.int IntKind.i64) (-1)]))
end
theorem snd61 : ∀ n, (∀ (x0 : List ByteArray) (x1 : ByteArray) ds, R61 n x0 x1 ds → ∀ K q, AtV Tryz.prog 61 (PostR kds61 oks61 ds [] [] q K) 19 K q [] [.code b61] (entE 0 0 sig61 (x0, x1, ())) (entL sig61 (x0, x1, ()))) ∧ (∀ (v8 : Int) (x0 : List ByteArray) (x1 : ByteArray) ds, R61_2 n v8 x0 x1 ds → ∀ K q, AtV Tryz.prog 61 (PostR kds61 oks61 ds [] [] q K) 19 K q [] (cutAt b61 2) (E61_2 v8 x0 x1) (L61_2 v8 x0 x1)) := by
  intro n
  induction n with
  | zero => exact ⟨fun _ _ _ h => by simp only [R61] at h, fun _ _ _ _ h => by simp only [R61_2] at h⟩
  | succ n ih =>
  obtain ⟨ih, ih2⟩ := ih
  refine ⟨?_, ?_⟩
  · intro x0 x1 ds h K q
    rw [R61] at h
    exact AtV.go tabOk ext61Ok mixed false [] [] [0, 1, 7, 8] [] [] trivial (ih2 _ _ _ _ h K q) (by kernel_rfl)

  · intro v8 x0 x1 ds h K q
    rw [R61_2] at h
    by_cases b0 : (Decidable.decide (v8 < (↑(List.length x0) : Int))) = true
    · rw [if_pos b0] at h
      obtain ⟨s0, s1, h⟩ := h
      by_cases b1 : (ByteArray.toList x1 == ByteArray.toList (List.getD x0 (Int.toNat v8) ByteArray.empty)) = true
      · rw [if_pos b1] at h
        subst h
        exact AtV.ret Tryz.func61 tabOk ext61Ok mixed false [] tys61 [true, true] (a1 b0 (a1 s0 (a1 s1 (a1 b1 trivial)))) (by kernel_rfl)
      · rw [if_neg b1] at h
        replace b1 := Bool.eq_false_iff.2 b1
        obtain ⟨s2, h⟩ := h
        exact AtV.go tabOk ext61Ok mixed false [] [] [0, 1, 7, 8] [] [true, false] (a1 b0 (a1 s0 (a1 s1 (a1 b1 (a1 s2 trivial))))) (ih2 _ _ _ _ h K q) (by kernel_rfl)
    · rw [if_neg b0] at h
      replace b0 := Bool.eq_false_iff.2 b0
      subst h
      exact AtV.ret Tryz.func61 tabOk ext61Ok mixed false [] tys61 [false] (a1 b0 trivial) (by kernel_rfl)



def is61 (x1 : ByteArray) (y : ByteArray) : Bool := ByteArray.toList x1 == ByteArray.toList y
def g61_0 (x0 : List ByteArray) (x1 : ByteArray) : Int := idx (x0.findIdx? (is61 x1))
def P61 (x0 : List ByteArray) (x1 : ByteArray) : Prop := True

theorem top61 (x0 : List ByteArray) (x1 : ByteArray) (hm : x0.length ≤ maxLen) : R61 (x0.length + 1 + 1) x0 x1 [⟨.int .i64, g61_0 x0 x1⟩] := by
  rw [R61]
  have key := loop_find x0 ByteArray.empty (is61 x1) [(⟨.int .i64, -1⟩ : Dyn)] (fun k => [⟨.int .i64, k⟩]) (fun n i ds => R61_2 n i x0 x1 ds) (fun n => ?_) (fun n i hi hok ds hr => ?_) (fun n i hi hok => ?_)
  · unfold g61_0
    cases h : x0.findIdx? (is61 x1) <;> rw [h] at key <;> exact key
  · rw [R61_2, if_neg (by simp)]
  · rw [R61_2, if_pos (by simp; omega)]
    simp only [Int.toNat_natCast]
    refine ⟨by omega, by omega, ?_⟩
    unfold is61 at hok
    rw [if_neg (by rw [hok]; simp)]
    exact ⟨inR_up hm hi, hr⟩
  · rw [R61_2, if_pos (by simp; omega)]
    simp only [Int.toNat_natCast]
    refine ⟨by omega, by omega, ?_⟩
    unfold is61 at hok
    rw [if_pos hok] <;> trivial

theorem any61 (x0 : List ByteArray) (x1 : ByteArray) : decide (g61_0 x0 x1 ≥ 0) = x0.any (is61 x1) := by
  have := findIdx_any (is61 x1) x0
  unfold g61_0
  cases h : x0.any (is61 x1) with
  | true => rw [h] at this; simpa using this
  | false => rw [h] at this; simpa using this

def S61 : Am.Spec := { sig := sig61, pre := fun ⟨x0, x1, _⟩ => P61 x0 x1, res := fun ⟨x0, x1, _⟩ => [⟨Ty.int .i64, g61_0 x0 x1⟩] }
theorem con61 : Contract Tryz.prog 61 S61 := contract_of Tryz.func61 hb61 (Nat.le_of_ble_eq_true (by kernel_rfl)) (fun ⟨x0, x1, _⟩ h hwf K q =>
  (snd61 _).1 x0 x1 _ (top61 x0 x1 hwf.1.1) K q)

end
end Go.Proofs.YtpellcnihifdaaaGreatDoor

/- Function 43 (slices.Contains[[]string,string]): its runs between cut points. Written by a program of this repo (gen). -/
set_option linter.unusedVariables false
set_option linter.unusedSimpArgs false
set_option maxRecDepth 100000
namespace Go.Proofs.YtpellcnihifdaaaGreatDoor
open Go Go.Am Go.Proofs
noncomputable section
def ext43 : Ext := [(61, S61)]
theorem call43_61 : Callable Tryz.prog 61 := ⟨Tryz.f61, Tryz.func61, by kernel_rfl, by kernel_rfl⟩
theorem ext43Ok : ExtOk Tryz.prog ext43 := ⟨⟨call43_61, con61⟩, trivial⟩

noncomputable def b43 : Code := bodyOf Tryz.f43
theorem hb43 : Tryz.f43.body = some b43 := by kernel_rfl
def sig43 : List AT := [AT.v (Ty.sl Ty.str), AT.v (Ty.str)]
def tys43 : List Ty := [Ty.bool]
def kds43 : List RK := []
def oks43 : List AT := owns sig43
def P43 (x0 : List ByteArray) (x1 : ByteArray) : Prop := True
def g43_0 (x0 : List ByteArray) (x1 : ByteArray) : Bool := Decidable.decide (g61_0 x0 x1 ≥ 0)
theorem at43 (x0 : List ByteArray) (x1 : ByteArray) (h : P43 x0 x1) (K : Ctx) (q : Nat → Value) : AtV Tryz.prog 43 (PostR kds43 oks43 [⟨Ty.bool, g43_0 x0 x1⟩] [] [] q K) 9 K q [] [.code b43] (entE 0 0 sig43 (x0, x1, ())) (entL sig43 (x0, x1, ())) := by
  unfold P43 at h
  unfold g43_0
  exact AtV.ret Tryz.func43 tabOk ext43Ok mixed false [] tys43 [] (a1 trivial trivial) (by kernel_rfl)

def S43 : Am.Spec := { sig := sig43, pre := fun ⟨x0, x1, _⟩ => P43 x0 x1, res := fun ⟨x0, x1, _⟩ => [⟨Ty.bool, g43_0 x0 x1⟩], kds := kds43 }
theorem con43 : Contract Tryz.prog 43 S43 := contract_of Tryz.func43 hb43 (Nat.le_of_ble_eq_true (by kernel_rfl)) (fun ⟨x0, x1, _⟩ h _ K q => at43 x0 x1 h K q)


end
end Go.Proofs.YtpellcnihifdaaaGreatDoor
