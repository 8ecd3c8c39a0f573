/- Several texts in one: the functions that this law reaches, and their laws. -/
import Derived.Test.YtakodkjcmacofaaDoorZ9A
import Derived.Test.YtakodkjcmacofaaDoorZ9B
import Derived.Test.YtakodkjcmacofaaDoorZ9C
import Derived.Lib.IndexAny
import Derived.Lib.IndexMore
import Derived.Lib.ItoaNum

/- Function 35 (impl.SaveBlocks): its contract; the builder by the kit's walk, the callees by their contracts. -/
set_option linter.unusedVariables false
set_option linter.unusedSimpArgs false
set_option maxRecDepth 100000
namespace Go.Proofs.YtakodkjcmacofaaDoor
open Go Go.Am Go.Proofs Go.RowKit
abbrev BY35 : Ty := (.cons .str (.cons .str (.cons .str .unit)))

theorem vb35 (W : World) (x0 : List (ByteArray × ByteArray × ByteArray × Unit)) (v : Value) (hgo : GOk W []) (ha : RepB W (Am.Good W []) (toAtom (.sl BY35) x0) v) :
    Calls Tryd.prog 92 #[v] W fun e w' => e = .returned (.bool (g92_0 x0)) ∧ Below W.heap.size W w' := by
  have h := con92 W (x0, ()) [v] [[]] hgo trivial ⟨v, [], [], [], rfl, rfl, ⟨rfl, ha⟩, rfl, rfl⟩ (by simp)
  refine h.mono ?_
  rintro e w' ⟨rs, ubs, rbs, rfl, hk, ⟨u, s, b1, bs1, cs, rfl, rfl, ho, hv, rfl, rfl⟩, _⟩
  obtain ⟨ho, _⟩ := ho
  have hv : cs = [u] := hv
  rw [ho] at hv
  cases hv
  exact ⟨rfl, hk.below⟩

theorem sz35 (W : World) (x0 : List (ByteArray × ByteArray × ByteArray × Unit)) (v : Value) (hgo : GOk W []) (ha : RepB W (Am.Good W []) (toAtom (.sl BY35) x0) v) :
    Calls Tryd.prog 95 #[v] W fun e w' => e = .returned (.int .i64 (x0.length : Int)) ∧ Below W.heap.size W w' := by
  have h := con95 W (x0, ()) [v] [[]] hgo trivial ⟨v, [], [], [], rfl, rfl, ⟨rfl, ha⟩, rfl, rfl⟩ (by simp)
  refine h.mono ?_
  rintro e w' ⟨rs, ubs, rbs, rfl, hk, ⟨u, s, b1, bs1, cs, rfl, rfl, ho, hv, rfl, rfl⟩, _⟩
  obtain ⟨ho, _⟩ := ho
  have hv : cs = [u] := hv
  rw [ho] at hv
  cases hv
  exact ⟨rfl, hk.below⟩

theorem dc35 (W : World) (n : Int) (hn : InR .i64 n) (hgo : GOk W []) :
    Calls Tryd.prog 94 #[.int .i64 n] W fun e w' => e = .returned (.string (g94_0 n)) ∧ Below W.heap.size W w' := by
  have h := con94 W (n, ()) [.int .i64 n] [[]] hgo ⟨rfl, trivial⟩ ⟨_, [], [], [], rfl, rfl, ⟨rfl, rfl, hn⟩, rfl, rfl⟩ (by simp)
  refine h.mono ?_
  rintro e w' ⟨rs, ubs, rbs, rfl, hk, ⟨u, s, b1, bs1, cs, rfl, rfl, ho, hv, rfl, rfl⟩, _⟩
  obtain ⟨ho, _⟩ := ho
  have hv : cs = [u] := hv
  rw [ho] at hv
  cases hv
  exact ⟨rfl, hk.below⟩

theorem ln35 (W : World) (x : ByteArray × ByteArray × ByteArray × Unit) (hp : P96 x) (hw : Wf BY35 x) (hgo : GOk W []) :
    Calls Tryd.prog 96 #[.agg #[.string x.1, .string x.2.1, .string x.2.2.1]] W fun e w' => e = .returned (.string (g96_0 x)) ∧ Below W.heap.size W w' := by
  have h := con96 W (x, ()) [.agg #[.string x.1, .string x.2.1, .string x.2.2.1]] [[]] hgo hp ⟨_, [], [], [], rfl, rfl, ⟨rfl, ⟨[.string x.1, .string x.2.1, .string x.2.2.1], rfl, ⟨[_], [_, _], rfl, ⟨rfl, hw.1⟩, [_], [_], rfl, ⟨rfl, hw.2.1⟩, [_], [], rfl, ⟨rfl, hw.2.2.1⟩, rfl⟩⟩⟩, rfl, rfl⟩ (by simp)
  refine h.mono ?_
  rintro e w' ⟨rs, ubs, rbs, rfl, hk, ⟨u, s, b1, bs1, cs, rfl, rfl, ho, hv, rfl, rfl⟩, _⟩
  obtain ⟨ho, _⟩ := ho
  have hv : cs = [u] := hv
  rw [ho] at hv
  cases hv
  exact ⟨rfl, hk.below⟩

theorem gok35 {w W : World} (h : GOk w []) (hb : Below w.heap.size w W) : GOk W [] where
  inv := h.inv.keep fun b _ hs => hb.5 b hs
  size := Nat.le_trans h.size hb.4
  out := h.out

theorem rep35 {w W : World} {x0 : List (ByteArray × ByteArray × ByteArray × Unit)} {v : Value} (hb : Below w.heap.size w W) (ha : RepB w (Am.Good w []) (toAtom (.sl BY35) x0) v) : RepB W (Am.Good W []) (toAtom (.sl BY35) x0) v :=
  repB_keep (fun b hg => ⟨Nat.lt_of_lt_of_le hg.1 hb.4, hg.2⟩) (fun b hg => hb.5 b hg.1) ha

theorem bld35 {T e : TypeId} {B b : Nat} {p : Value} {bs : List Value} {W W' : World} (h : Lib.BuilderAtF T e B b p bs W) (hb : Below W.heap.size W W') : Lib.BuilderAtF T e B b p bs W' := by
  obtain ⟨h1, v, h2, h3, h4⟩ := h
  have lt : ∀ {g : Nat} {o : Obj}, W.heap[g]? = some o → W'.heap[g]? = some o := fun {g o} hg => by
    have : g < W.heap.size := by
      rcases Nat.lt_or_ge g W.heap.size with h' | h'
      · exact h'
      · rw [Array.getElem?_eq_none h'] at hg; cases hg
    rw [hb.5 g this]; exact hg
  refine ⟨h1, v, lt h2, ⟨h3.1, ?_⟩, h4⟩
  rcases h3.2 with hn | ⟨g, cap, cur, fz, e1, e2, e3, e4⟩
  · exact .inl hn
  · exact .inr ⟨g, cap, cur, fz, e1, e2, lt e3, e4⟩

theorem weak35 {B B' : Nat} {a b : World} (h : Below B a b) (hB : B' ≤ B) : Below B' a b := ⟨h.1, h.2, h.3, h.4, fun k hk => h.5 k (by omega)⟩
theorem isb35 {T e : TypeId} {B b : Nat} {bs : List Value} {W W' : World} (h : Lib.IsBuilderF T e B b bs W) (hb : Below W.heap.size W W') : Lib.IsBuilderF T e B b bs W' :=
  h.elim (fun x => .inl (bld35 x hb)) (fun x => .inr (bld35 x hb))
theorem cells35 (a b : ByteArray) : Lib.strCells (a ++ b) = Lib.strCells a ++ Lib.strCells b := by
  unfold Lib.strCells
  rw [ByteArray.data_append, Array.toList_append, List.map_append]

theorem cell35 {w : World} {x0 : List (ByteArray × ByteArray × ByteArray × Unit)} {b off cap : Nat} (hc : ∀ j u, (fcs BY35 x0)[j]? = some u → w.cell? ⟨b, off + j, none⟩ = some u) (k : Nat) (hk : k < x0.length) :
    w.cell? ⟨b, off + k * 3, none⟩ = some (.string (x0.getD k (ByteArray.empty, ByteArray.empty, ByteArray.empty, ())).1) ∧ w.cell? ⟨b, off + k * 3 + 1, none⟩ = some (.string (x0.getD k (ByteArray.empty, ByteArray.empty, ByteArray.empty, ())).2.1) ∧ w.cell? ⟨b, off + k * 3 + 2, none⟩ = some (.string (x0.getD k (ByteArray.empty, ByteArray.empty, ByteArray.empty, ())).2.2.1) := by
  have key : ∀ (xs : List (ByteArray × ByteArray × ByteArray × Unit)) (k : Nat), k < xs.length → (fcs BY35 xs)[k * 3]? = some (.string (xs.getD k (ByteArray.empty, ByteArray.empty, ByteArray.empty, ())).1) ∧ (fcs BY35 xs)[k * 3 + 1]? = some (.string (xs.getD k (ByteArray.empty, ByteArray.empty, ByteArray.empty, ())).2.1) ∧ (fcs BY35 xs)[k * 3 + 2]? = some (.string (xs.getD k (ByteArray.empty, ByteArray.empty, ByteArray.empty, ())).2.2.1) := by
    intro xs
    induction xs with
    | nil => intro k h; cases h
    | cons x r ih =>
      intro k h
      have e : fcs BY35 (x :: r) = .string x.1 :: .string x.2.1 :: .string x.2.2.1 :: fcs BY35 r := rfl
      rw [e]
      cases k with
      | zero => exact ⟨rfl, rfl, rfl⟩
      | succ k =>
        have := ih k (by simpa using h)
        rw [show (k + 1) * 3 = k * 3 + 3 by omega]
        exact this
  obtain ⟨a1, a2, a3⟩ := key x0 k hk
  exact ⟨hc _ _ a1, hc _ _ a2, hc _ _ a3⟩

def acc35 (x0 : List (ByteArray × ByteArray × ByteArray × Unit)) (k : Nat) : ByteArray := (x0.take k).foldl (fun o b => o ++ (g96_0 b ++ ByteArray.mk #[10])) (ByteArray.mk #[97, 114, 99, 104, 105, 118, 101, 32] ++ g94_0 (x0.length : Int) ++ ByteArray.mk #[10])

theorem acc35_succ (x0 : List (ByteArray × ByteArray × ByteArray × Unit)) (k : Nat) (h : k < x0.length) : acc35 x0 (k + 1) = acc35 x0 k ++ (g96_0 (x0.getD k (ByteArray.empty, ByteArray.empty, ByteArray.empty, ())) ++ ByteArray.mk #[10]) := by
  unfold acc35
  rw [List.take_add_one, getD_of_lt x0 k (ByteArray.empty, ByteArray.empty, ByteArray.empty, ()) h]
  simp only [Option.toList_some, List.foldl_append, List.foldl_cons, List.foldl_nil]

theorem acc35_size (x0 : List (ByteArray × ByteArray × ByteArray × Unit)) (hn : x0.length ≤ 32) (hp : ∀ x ∈ x0, (g96_0 x).size ≤ 4194304) : ∀ k, k ≤ x0.length → (acc35 x0 k).size ≤ 30 + 4194305 * k
  | 0, _ => by
    have hd21 : (g94_0 (x0.length : Int)).size ≤ 21 := numB_size _ (by omega) (by omega)
    show (ByteArray.mk #[97, 114, 99, 104, 105, 118, 101, 32] ++ g94_0 (x0.length : Int) ++ ByteArray.mk #[10]).size ≤ 30
    rw [ByteArray.size_append, ByteArray.size_append]
    show 8 + _ + 1 ≤ 30
    omega
  | k + 1, h => by
    have ih := acc35_size x0 hn hp k (by omega)
    have hx := hp _ (mem_getD x0 k (ByteArray.empty, ByteArray.empty, ByteArray.empty, ()) (by omega))
    rw [acc35_succ x0 k (by omega), ByteArray.size_append, ByteArray.size_append]
    have i1 : (ByteArray.mk #[10]).size = 1 := rfl
    omega

set_option maxHeartbeats 4000000 in
theorem walk35 (w : World) (x0 : List (ByteArray × ByteArray × ByteArray × Unit)) (b off cap : Nat) (hgo : GOk w []) (hl : x0.length ≤ cap) (hcap : cap ≤ maxLen) (hb : b < w.heap.size) (hok : g92_0 x0 = true) (hn : x0.length ≤ 32)
    (ha : RepB w (Am.Good w []) (toAtom (.sl BY35) x0) (.slice (some ⟨b, off, none⟩) x0.length cap)) (hc : ∀ j u, (fcs BY35 x0)[j]? = some u → w.cell? ⟨b, off + j, none⟩ = some u)
    (hp : ∀ x ∈ x0, P96 x ∧ (g96_0 x).size ≤ 4194304 ∧ Wf BY35 x) :
    Calls Tryd.prog 35 #[.slice (some ⟨b, off, none⟩) x0.length cap] w fun e w' => e = .returned (.tuple #[.string (acc35 x0 x0.length), .int .i64 0]) ∧ Below w.heap.size w w' := by
  have HA : Aside (RepB w (Am.Good w []) (toAtom (.sl BY35) x0) (.slice (some ⟨b, off, none⟩) x0.length cap)) := ha
  have HC : Aside (∀ j u, (fcs BY35 x0)[j]? = some u → w.cell? ⟨b, off + j, none⟩ = some u) := hc
  have HP : Aside (∀ x ∈ x0, P96 x ∧ (g96_0 x).size ≤ 4194304 ∧ Wf BY35 x) := hp
  clear ha hc hp
  have mixed := mixed
  go_enter Tryd.func35, Tryd.ntmps35
  go_wp2_with (go_at_call 92; refine (vb35 _ x0 _ hgo HA.out).mono ?_)
  rintro e w1 ⟨rfl, b1⟩
  rw [hok]
  go_wp2_with (go_at_call 95; refine (sz35 _ x0 _ (gok35 hgo (b1.alloc b1.size _)) (rep35 (b1.alloc b1.size _) HA.out)).mono ?_)
  rintro e w2 ⟨rfl, b2⟩
  have a1 : Below w1.heap.size w1 (w1.alloc (.cells #[.pointer none, .slice none 0 0] 95)) := (Below.refl _ w1).alloc (Nat.le_refl _) _
  have s1 : (w1.alloc (.cells #[.pointer none, .slice none 0 0] 95)).heap.size = w1.heap.size + 1 := by simp
  have c2 : Below w1.heap.size w1 w2 := a1.trans (weak35 b2 (by omega))
  have o2 : Below w.heap.size w w2 := b1.trans (weak35 c2 b1.size)
  have i1 : Lib.IsBuilderF 95 5 w1.heap.size w1.heap.size [] w2 := isb35 (Lib.IsBuilderF.of (Lib.fresh_isBuilder 95 5 w1)) b2
  have hd21 : (g94_0 (x0.length : Int)).size ≤ 21 := numB_size _ (by omega) (by omega)
  have hI : InR .i64 (x0.length : Int) := by rw [i64_iff]; omega
  have HI : Aside (InR .i64 (x0.length : Int)) := hI
  clear hI
  go_wp2_with (go_at_call 94; refine (dc35 _ _ HI.out (gok35 hgo o2)).mono ?_)
  rintro e w3 ⟨rfl, b3⟩
  have c3 : Below w1.heap.size w1 w3 := c2.trans (weak35 b3 c2.size)
  have i3 : Lib.IsBuilderF 95 5 w1.heap.size w1.heap.size [] w3 := isb35 i1 b3
  have z0 : (acc35 x0 0).size ≤ 30 := by
    show (ByteArray.mk #[97, 114, 99, 104, 105, 118, 101, 32] ++ g94_0 (x0.length : Int) ++ ByteArray.mk #[10]).size ≤ 30
    rw [ByteArray.size_append, ByteArray.size_append]
    show 8 + _ + 1 ≤ 30
    omega
  go_wp2_with (go_at_call 93; refine (writeString w1.heap.size w1.heap.size [] (acc35 x0 0) _ i3 (by simp; omega) c3.size).mono ?_)
  rintro e w4 ⟨rfl, h4, b4⟩
  rw [List.nil_append] at h4
  have c4 : Below w1.heap.size w1 w4 := c3.trans b4
  go_wp2
  go_loopw [18] (fun i wr => ∃ k : Nat, k ≤ x0.length ∧ i = .int .i64 k ∧ Lib.BuilderAtF 95 5 w1.heap.size w1.heap.size (.pointer (some ⟨w1.heap.size, 0, none⟩)) (Lib.strCells (acc35 x0 k)) wr ∧ Below w1.heap.size w1 wr) (fun i _ => x0.length - (intOf i).toNat)
  case atStart => exact ⟨0, Nat.zero_le _, rfl, h4, c4⟩
  case round =>
    obtain ⟨k, hk, rfl, hbl, hbw⟩ := hrel
    have eb : wr.heap[b]? = w.heap[b]? := (hbw.block b (Nat.lt_of_lt_of_le hb b1.size)).trans (b1.block b hb)
    by_cases hlt : k < x0.length
    · obtain ⟨q1, q2, q3⟩ := cell35 (cap := cap) HC.out k hlt
      have e1 : wr.cell? ⟨b, off + k * 3, none⟩ = some (.string (x0.getD k (ByteArray.empty, ByteArray.empty, ByteArray.empty, ())).1) := (World.cell?_of_block eb).trans q1
      have e2 : wr.cell? ⟨b, off + k * 3 + 1, none⟩ = some (.string (x0.getD k (ByteArray.empty, ByteArray.empty, ByteArray.empty, ())).2.1) := (World.cell?_of_block eb).trans q2
      have e3 : wr.cell? ⟨b, off + k * 3 + 2, none⟩ = some (.string (x0.getD k (ByteArray.empty, ByteArray.empty, ByteArray.empty, ())).2.2.1) := (World.cell?_of_block eb).trans q3
      clear q1 q2 q3
      generalize hx : x0.getD k (ByteArray.empty, ByteArray.empty, ByteArray.empty, ()) = x at *
      obtain ⟨p1, p2, p3⟩ := HP.out x (by rw [← hx]; exact mem_getD x0 k _ hlt)
      have HW : Aside (Wf BY35 x) := p3
      have HQ : Aside (P96 x) := p1
      clear p1 p3
      have hsz := acc35_size x0 hn (fun x hx => (HP.out x hx).2.1) k hk
      have hsuc := acc35_succ x0 k hlt
      rw [hx] at hsuc
      have HS : Aside (acc35 x0 (k + 1) = acc35 x0 k ++ (g96_0 x ++ ByteArray.mk #[10])) := hsuc
      clear hsuc
      have a5 : Below w1.heap.size w1 (wr.alloc (.cells #[.string x.1, .string x.2.1, .string x.2.2.1] 79)) := hbw.alloc hbw.size _
      have o5 : Below w.heap.size w (wr.alloc (.cells #[.string x.1, .string x.2.1, .string x.2.2.1] 79)) := b1.trans (weak35 a5 b1.size)
      go_wp2_with (go_at_call 96; refine (ln35 _ x HQ.out HW.out (gok35 hgo o5)).mono ?_)
      rintro e w5 ⟨rfl, b5⟩
      have c5 : Below w1.heap.size w1 w5 := a5.trans (weak35 b5 a5.size)
      have h5 := bld35 (hbl.alloc (.cells #[.string x.1, .string x.2.1, .string x.2.2.1] 79)) b5
      have i10 : (g96_0 x ++ ByteArray.mk #[10]).size ≤ 4194305 := by
        rw [ByteArray.size_append]
        show _ + 1 ≤ 4194305
        omega
      go_wp2_with (go_at_call 93; refine (writeString w1.heap.size w1.heap.size (Lib.strCells (acc35 x0 k)) (g96_0 x ++ ByteArray.mk #[10]) _ (Or.inr h5) (by rw [Lib.strCells_length]; omega) c5.size).mono ?_)
      rintro e w6 ⟨rfl, h6, b6⟩
      rw [← cells35, ← HS.out] at h6
      have c6 : Below w1.heap.size w1 w6 := c5.trans b6
      go_wp2
      go_roundw
      case rel => exact ⟨k + 1, by omega, by simp, h6, c6⟩
      case measure => simp [intOf]; omega
    · have hkn : k = x0.length := by omega
      subst hkn
      have h7 : Lib.IsBuilderF 95 5 w1.heap.size w1.heap.size (Lib.byteCells (acc35 x0 x0.length).data.toList) wr := by
        rw [← Lib.strCells_eq]; exact Or.inr hbl
      go_wp2_with (go_at_call 97; refine (stringB w1.heap.size w1.heap.size (acc35 x0 x0.length).data.toList _ h7 hbw.size).mono ?_)
      rintro e w8 ⟨rfl, b8⟩
      have e8 : (⟨(acc35 x0 x0.length).data.toList.toArray⟩ : ByteArray) = acc35 x0 x0.length := by simp
      rw [e8]
      go_wp2
      go_ret2
      exact ⟨rfl, b1.trans (weak35 (hbw.trans b8) b1.size)⟩

set_option maxHeartbeats 4000000 in
theorem walkNil35 (w : World) (ad : Option Addr) (hgo : GOk w []) (hok : g92_0 [] = true) (ha : RepB w (Am.Good w []) (toAtom (.sl BY35) []) (.slice ad 0 0)) :
    Calls Tryd.prog 35 #[.slice ad 0 0] w fun e w' => e = .returned (.tuple #[.string (acc35 [] 0), .int .i64 0]) ∧ Below w.heap.size w w' := by
  have HA : Aside (RepB w (Am.Good w []) (toAtom (.sl BY35) []) (.slice ad 0 0)) := ha
  clear ha
  have mixed := mixed
  go_enter Tryd.func35, Tryd.ntmps35
  go_wp2_with (go_at_call 92; refine (vb35 _ [] _ hgo HA.out).mono ?_)
  rintro e w1 ⟨rfl, b1⟩
  rw [hok]
  go_wp2_with (go_at_call 95; refine (sz35 _ [] _ (gok35 hgo (b1.alloc b1.size _)) (rep35 (b1.alloc b1.size _) HA.out)).mono ?_)
  rintro e w2 ⟨rfl, b2⟩
  have a1 : Below w1.heap.size w1 (w1.alloc (.cells #[.pointer none, .slice none 0 0] 95)) := (Below.refl _ w1).alloc (Nat.le_refl _) _
  have s1 : (w1.alloc (.cells #[.pointer none, .slice none 0 0] 95)).heap.size = w1.heap.size + 1 := by simp
  have c2 : Below w1.heap.size w1 w2 := a1.trans (weak35 b2 (by omega))
  have o2 : Below w.heap.size w w2 := b1.trans (weak35 c2 b1.size)
  have i1 : Lib.IsBuilderF 95 5 w1.heap.size w1.heap.size [] w2 := isb35 (Lib.IsBuilderF.of (Lib.fresh_isBuilder 95 5 w1)) b2
  have HI : Aside (InR .i64 (0 : Int)) := by constructor <;> decide
  have hd21 : (g94_0 0).size ≤ 21 := numB_size _ (by omega) (by omega)
  go_wp2_with (go_at_call 94; refine (dc35 _ 0 HI.out (gok35 hgo o2)).mono ?_)
  rintro e w3 ⟨rfl, b3⟩
  have c3 : Below w1.heap.size w1 w3 := c2.trans (weak35 b3 c2.size)
  have i3 : Lib.IsBuilderF 95 5 w1.heap.size w1.heap.size [] w3 := isb35 i1 b3
  have z0 := acc35_size [] (by decide) (fun x hx => by cases hx) 0 (Nat.le_refl _)
  have hz : ([] : List Value).length + (acc35 [] 0).size ≤ 140737488355328 := by simp only [List.length_nil]; omega
  have ea : acc35 [] 0 = ByteArray.mk #[97, 114, 99, 104, 105, 118, 101, 32] ++ g94_0 0 ++ ByteArray.mk #[10] := rfl
  rw [ea] at hz
  go_wp2_with (go_at_call 93; refine (writeString w1.heap.size w1.heap.size [] _ _ i3 hz c3.size).mono ?_)
  rintro e w4 ⟨rfl, h4, b4⟩
  rw [List.nil_append, ← ea] at h4
  have c4 : Below w1.heap.size w1 w4 := c3.trans b4
  go_wp2
  go_loopw [18] (fun i wr => i = .int .i64 0 ∧ Lib.BuilderAtF 95 5 w1.heap.size w1.heap.size (.pointer (some ⟨w1.heap.size, 0, none⟩)) (Lib.strCells (acc35 [] 0)) wr ∧ Below w1.heap.size w1 wr) (fun i _ => 0)
  case atStart => exact ⟨rfl, h4, c4⟩
  case round =>
    obtain ⟨rfl, hbl, hbw⟩ := hrel
    have h7 : Lib.IsBuilderF 95 5 w1.heap.size w1.heap.size (Lib.byteCells (acc35 [] 0).data.toList) wr := by
      rw [← Lib.strCells_eq]; exact Or.inr hbl
    go_wp2_with (go_at_call 97; refine (stringB w1.heap.size w1.heap.size (acc35 [] 0).data.toList _ h7 hbw.size).mono ?_)
    rintro e w8 ⟨rfl, b8⟩
    have e8 : (⟨(acc35 [] 0).data.toList.toArray⟩ : ByteArray) = acc35 [] 0 := by simp
    rw [e8]
    go_wp2
    go_ret2
    exact ⟨rfl, b1.trans (weak35 (hbw.trans b8) b1.size)⟩

set_option maxHeartbeats 4000000 in
theorem walkBad35 (w : World) (x0 : List (ByteArray × ByteArray × ByteArray × Unit)) (v : Value) (hgo : GOk w []) (hok : g92_0 x0 = false) (ha : RepB w (Am.Good w []) (toAtom (.sl BY35) x0) v) :
    Calls Tryd.prog 35 #[v] w fun e w' => e = .returned (.tuple #[.string ⟨#[]⟩, .int .i64 1]) ∧ Below w.heap.size w w' := by
  have HA : Aside (RepB w (Am.Good w []) (toAtom (.sl BY35) x0) v) := ha
  clear ha
  have mixed := mixed
  go_enter Tryd.func35, Tryd.ntmps35
  go_wp2_with (go_at_call 92; refine (vb35 _ x0 _ hgo HA.out).mono ?_)
  rintro e w1 ⟨rfl, b1⟩
  rw [hok]
  go_wp2
  go_ret2
  exact ⟨rfl, b1⟩

def sig35 : List AT := [AT.v (.sl BY35)]
def g35_0 (x0 : List (ByteArray × ByteArray × ByteArray × Unit)) : ByteArray := if g92_0 x0 = true then acc35 x0 x0.length else ByteArray.mk #[]
def g35_1 (x0 : List (ByteArray × ByteArray × ByteArray × Unit)) : Int := if g92_0 x0 = true then 0 else 1
def P35 (x0 : List (ByteArray × ByteArray × ByteArray × Unit)) : Prop := ∀ x ∈ x0, P96 x ∧ (g96_0 x).size ≤ 4194304
def S35 : Am.Spec := { sig := sig35, pre := fun ⟨x0, _⟩ => P35 x0, res := fun ⟨x0, _⟩ => [⟨Ty.str, g35_0 x0⟩, ⟨Ty.int .i64, g35_1 x0⟩] }

theorem len35 {x0 : List (ByteArray × ByteArray × ByteArray × Unit)} (h : g92_0 x0 = true) : x0.length ≤ 32 := by
  unfold g92_0 at h
  simp only [Bool.and_eq_true, decide_eq_true_eq] at h
  exact h.2

theorem con35 : Contract Tryd.prog 35 S35 := contract_flat rfl fun w ⟨x0, _⟩ vs bss hg hp hw ha => by
  obtain ⟨v0, s0, _, _, rfl, _, ⟨_, ha⟩, rfl, _⟩ := ha
  have hp : ∀ x ∈ x0, P96 x ∧ (g96_0 x).size ≤ 4194304 := hp
  have hgo : GOk w [] := ⟨hg, hg.size, fun b hb => by cases hb⟩
  obtain ⟨hwf, hml, hcase⟩ := slAt_flat (t := BY35) rfl ha
  refine ⟨fun d hd => ?_, ?_⟩
  · simp only [List.mem_cons, List.mem_nil_iff, or_false] at hd
    rcases hd with rfl | rfl
    · refine ⟨rfl, ?_⟩
      show (g35_0 x0).size ≤ maxLen
      unfold g35_0
      split
      · rename_i h
        have := acc35_size x0 (len35 h) (fun x hx => (hp x hx).2) x0.length (Nat.le_refl _)
        have := len35 h
        unfold maxLen; omega
      · exact Nat.zero_le _
    · refine ⟨rfl, ?_⟩
      show InR .i64 (g35_1 x0)
      unfold g35_1
      rw [i64_iff]
      split <;> omega
  · show Calls Tryd.prog 35 #[v0] w fun e w' => e = .returned (.tuple #[.string (g35_0 x0), .int .i64 (g35_1 x0)]) ∧ Kept [] w w'
    unfold g35_0 g35_1
    by_cases h : g92_0 x0 = true
    · rw [if_pos h, if_pos h]
      rcases hcase with ⟨ad, rfl, rfl⟩ | ⟨b', off, cap, rfl, h2, h3, hG, hcells⟩
      · refine (walkNil35 w ad hgo h ha).mono ?_
        rintro e w' ⟨rfl, hb⟩
        exact ⟨rfl, Kept.of_below hb⟩
      · refine (walk35 w x0 b' off cap hgo h2 h3 hG.1 h (len35 h) ha hcells (fun x hx => ⟨(hp x hx).1, (hp x hx).2, hwf x hx⟩)).mono ?_
        rintro e w' ⟨rfl, hb⟩
        exact ⟨rfl, Kept.of_below hb⟩
    · rw [if_neg h, if_neg h]
      refine (walkBad35 w x0 v0 hgo (Bool.eq_false_iff.2 h) ha).mono ?_
      rintro e w' ⟨rfl, hb⟩
      exact ⟨rfl, Kept.of_below hb⟩
end Go.Proofs.YtakodkjcmacofaaDoor

/- Function 76 (laws.eqBlock): its runs between cut points. Written by a program of this repo (gen). -/
set_option linter.unusedVariables false
set_option linter.unusedSimpArgs false
set_option maxRecDepth 100000
namespace Go.Proofs.YtakodkjcmacofaaDoor
open Go Go.Am Go.Proofs
def ext76 : Ext := []
theorem ext76Ok : ExtOk Tryd.prog ext76 := trivial
/-! Function 76. -/
noncomputable def b76 : Code := bodyOf Tryd.f76
theorem hb76 : Tryd.f76.body = some b76 := by kernel_rfl
def sig76 : List AT := [AT.v (Ty.cons Ty.str (Ty.cons Ty.str (Ty.cons Ty.str Ty.unit))), AT.v (Ty.cons Ty.str (Ty.cons Ty.str (Ty.cons Ty.str Ty.unit)))]
def tys76 : List Ty := [Ty.bool]
def P76 (x0 : ByteArray × ByteArray × ByteArray × Unit) (x1 : ByteArray × ByteArray × ByteArray × Unit) : Prop := True
def g76_0 (x0 : ByteArray × ByteArray × ByteArray × Unit) (x1 : ByteArray × ByteArray × ByteArray × Unit) : Bool := (if (!ByteArray.toList (Prod.fst x0) == ByteArray.toList (Prod.fst x1)) = true then Bool.false else (if (!ByteArray.toList (Prod.fst (Prod.snd x0)) == ByteArray.toList (Prod.fst (Prod.snd x1))) = true then Bool.false else (if (!ByteArray.toList (Prod.fst (Prod.snd (Prod.snd x0))) == ByteArray.toList (Prod.fst (Prod.snd (Prod.snd x1)))) = true then Bool.false else Bool.true)))
theorem p76_0 (x0 : ByteArray × ByteArray × ByteArray × Unit) (x1 : ByteArray × ByteArray × ByteArray × Unit) : runF tab ext76 false 20 [] 2000 [] tys76 Tryd.f76.results [true] [.code b76] (entE 0 0 sig76 (x0, x1, ())) (entL sig76 (x0, x1, ())) = some ([Dyn.mk Ty.bool Bool.false], [], [(!ByteArray.toList (Prod.fst x0) == ByteArray.toList (Prod.fst x1)) = Bool.true]) := by kernel_rfl
theorem p76_1 (x0 : ByteArray × ByteArray × ByteArray × Unit) (x1 : ByteArray × ByteArray × ByteArray × Unit) : runF tab ext76 false 20 [] 2000 [] tys76 Tryd.f76.results [false, true] [.code b76] (entE 0 0 sig76 (x0, x1, ())) (entL sig76 (x0, x1, ())) = some ([Dyn.mk Ty.bool Bool.false], [], [(!ByteArray.toList (Prod.fst x0) == ByteArray.toList (Prod.fst x1)) = Bool.false, (!ByteArray.toList (Prod.fst (Prod.snd x0)) == ByteArray.toList (Prod.fst (Prod.snd x1))) = Bool.true]) := by kernel_rfl
theorem p76_2 (x0 : ByteArray × ByteArray × ByteArray × Unit) (x1 : ByteArray × ByteArray × ByteArray × Unit) : runF tab ext76 false 20 [] 2000 [] tys76 Tryd.f76.results [false, false, true] [.code b76] (entE 0 0 sig76 (x0, x1, ())) (entL sig76 (x0, x1, ())) = some ([Dyn.mk Ty.bool Bool.false], [], [(!ByteArray.toList (Prod.fst x0) == ByteArray.toList (Prod.fst x1)) = Bool.false, (!ByteArray.toList (Prod.fst (Prod.snd x0)) == ByteArray.toList (Prod.fst (Prod.snd x1))) = Bool.false, (!ByteArray.toList (Prod.fst (Prod.snd (Prod.snd x0))) == ByteArray.toList (Prod.fst (Prod.snd (Prod.snd x1)))) = Bool.true]) := by kernel_rfl
theorem p76_3 (x0 : ByteArray × ByteArray × ByteArray × Unit) (x1 : ByteArray × ByteArray × ByteArray × Unit) : runF tab ext76 false 20 [] 2000 [] tys76 Tryd.f76.results [false, false, false] [.code b76] (entE 0 0 sig76 (x0, x1, ())) (entL sig76 (x0, x1, ())) = some ([Dyn.mk Ty.bool Bool.true], [], [(!ByteArray.toList (Prod.fst x0) == ByteArray.toList (Prod.fst x1)) = Bool.false, (!ByteArray.toList (Prod.fst (Prod.snd x0)) == ByteArray.toList (Prod.fst (Prod.snd x1))) = Bool.false, (!ByteArray.toList (Prod.fst (Prod.snd (Prod.snd x0))) == ByteArray.toList (Prod.fst (Prod.snd (Prod.snd x1)))) = Bool.false]) := by kernel_rfl
theorem at76 (x0 : ByteArray × ByteArray × ByteArray × Unit) (x1 : ByteArray × ByteArray × ByteArray × Unit) (h : P76 x0 x1) (w0 : World) (O : List Nat) (q : Nat → Value) : AtV Tryd.prog 76 (PostR [⟨Ty.bool, g76_0 x0 x1⟩] [] [] q w0 O) 20 w0 O q [] [.code b76] (entE 0 0 sig76 (x0, x1, ())) (entL sig76 (x0, x1, ())) := by
  unfold P76 at h
  unfold g76_0
  by_cases b0 : (!ByteArray.toList (Prod.fst x0) == ByteArray.toList (Prod.fst x1)) = true
  · try simp only [if_pos b0] at h ⊢
    exact AtV.fin Tryd.func76 tabOk ext76Ok mixed (p76_0 x0 x1) ⟨b0, trivial⟩
  · try simp only [if_neg b0] at h ⊢
    replace b0 := Bool.eq_false_iff.2 b0
    by_cases b1 : (!ByteArray.toList (Prod.fst (Prod.snd x0)) == ByteArray.toList (Prod.fst (Prod.snd x1))) = true
    · try simp only [if_pos b1] at h ⊢
      exact AtV.fin Tryd.func76 tabOk ext76Ok mixed (p76_1 x0 x1) ⟨b0, b1, trivial⟩
    · try simp only [if_neg b1] at h ⊢
      replace b1 := Bool.eq_false_iff.2 b1
      by_cases b2 : (!ByteArray.toList (Prod.fst (Prod.snd (Prod.snd x0))) == ByteArray.toList (Prod.fst (Prod.snd (Prod.snd x1)))) = true
      · try simp only [if_pos b2] at h ⊢
        exact AtV.fin Tryd.func76 tabOk ext76Ok mixed (p76_2 x0 x1) ⟨b0, b1, b2, trivial⟩
      · try simp only [if_neg b2] at h ⊢
        replace b2 := Bool.eq_false_iff.2 b2
        exact AtV.fin Tryd.func76 tabOk ext76Ok mixed (p76_3 x0 x1) ⟨b0, b1, b2, trivial⟩

def S76 : Am.Spec := { sig := sig76, pre := fun ⟨x0, x1, _⟩ => P76 x0 x1, res := fun ⟨x0, x1, _⟩ => [⟨Ty.bool, g76_0 x0 x1⟩] }
theorem con76 : Contract Tryd.prog 76 S76 := contract_of Tryd.func76 hb76 (Nat.le_of_ble_eq_true (by kernel_rfl)) (fun ⟨x0, x1, _⟩ h _ w0 O q => at76 x0 x1 h w0 O q)


theorem eqd76 (x y : ByteArray × ByteArray × ByteArray × Unit) : g76_0 x y = true ↔ x = y := by
  obtain ⟨a, b, c, u⟩ := x
  obtain ⟨a', b', c', u'⟩ := y
  unfold g76_0
  simp only [Bool.not_eq_true', bytes_ne]
  by_cases h1 : a = a'
  · by_cases h2 : b = b'
    · by_cases h3 : c = c'
      · simp [h1, h2, h3]
      · simp [h1, h2, h3]
    · simp [h1, h2]
  · simp [h1]

end Go.Proofs.YtakodkjcmacofaaDoor

/- Function 21 (laws.eqBlockS): its runs between cut points. Written by a program of this repo (gen). -/
set_option linter.unusedVariables false
set_option linter.unusedSimpArgs false
set_option maxRecDepth 100000
namespace Go.Proofs.YtakodkjcmacofaaDoor
open Go Go.Am Go.Proofs
def ext21 : Ext := [(76, S76)]
theorem call21_76 : Callable Tryd.prog 76 := ⟨Tryd.f76, Tryd.func76, by kernel_rfl, by kernel_rfl⟩
theorem ext21Ok : ExtOk Tryd.prog ext21 := ⟨⟨call21_76, con76⟩, trivial⟩
/-! Function 21. -/
noncomputable def b21 : Code := bodyOf Tryd.f21
theorem hb21 : Tryd.f21.body = some b21 := by kernel_rfl
def sig21 : List AT := [AT.v (Ty.sl (Ty.cons Ty.str (Ty.cons Ty.str (Ty.cons Ty.str Ty.unit)))), AT.v (Ty.sl (Ty.cons Ty.str (Ty.cons Ty.str (Ty.cons Ty.str Ty.unit))))]
def tys21 : List Ty := [Ty.bool]
def E21_4 (v5 : Int) (x0 : List (ByteArray × ByteArray × ByteArray × Unit)) (x1 : List (ByteArray × ByteArray × ByteArray × Unit)) : Env := [(0, PV.a (Atom.sl (Ty.cons Ty.str (Ty.cons Ty.str (Ty.cons Ty.str Ty.unit))) x0)), (1, PV.a (Atom.sl (Ty.cons Ty.str (Ty.cons Ty.str (Ty.cons Ty.str Ty.unit))) x1)), (5, PV.a (Atom.val (Value.int IntKind.i64 v5)))]
def L21_4 (v5 : Int) (x0 : List (ByteArray × ByteArray × ByteArray × Unit)) (x1 : List (ByteArray × ByteArray × ByteArray × Unit)) : Heap := []
mutual
def R21 : Nat → List (ByteArray × ByteArray × ByteArray × Unit) → List (ByteArray × ByteArray × ByteArray × Unit) → List Dyn → Prop
  | 0, _, _, _ => False
  | n + 1, x0, x1, ds => (if ((↑(List.length x0) : Int) != (↑(List.length x1) : Int)) = true then (ds = [Dyn.mk Ty.bool Bool.false]) else (R21_4 n (0) (x0) (x1) ds))
def R21_4 : Nat → Int → List (ByteArray × ByteArray × ByteArray × Unit) → List (ByteArray × ByteArray × ByteArray × Unit) → List Dyn → Prop
  | 0, _, _, _, _ => False
  | n + 1, v5, x0, x1, ds => (if (Decidable.decide (v5 < (↑(List.length x0) : Int))) = true then ((0 ≤ v5) ∧ (v5 < (↑(List.length x0) : Int)) ∧ ((0 ≤ v5) ∧ (v5 < (↑(List.length x1) : Int)) ∧ (if (!g76_0 (List.getD x0 (Int.toNat v5) (ByteArray.empty, ByteArray.empty, ByteArray.empty, ())) (List.getD x1 (Int.toNat v5) (ByteArray.empty, ByteArray.empty, ByteArray.empty, ()))) = true then (ds = [Dyn.mk Ty.bool Bool.false]) else ((InR IntKind.i64 (v5 + 1)) ∧ (R21_4 n (v5 + 1) (x0) (x1) ds))))) else (ds = [Dyn.mk Ty.bool Bool.true]))
end
theorem p21_0 (x0 : List (ByteArray × ByteArray × ByteArray × Unit)) (x1 : List (ByteArray × ByteArray × ByteArray × Unit)) : runF tab ext21 false 27 [] 2000 [] tys21 Tryd.f21.results [true] [.code b21] (entE 0 0 sig21 (x0, x1, ())) (entL sig21 (x0, x1, ())) = some ([Dyn.mk Ty.bool Bool.false], [], [((↑(List.length x0) : Int) != (↑(List.length x1) : Int)) = Bool.true]) := by kernel_rfl
theorem p21_1 (x0 : List (ByteArray × ByteArray × ByteArray × Unit)) (x1 : List (ByteArray × ByteArray × ByteArray × Unit)) : Am.runN tab ext21 false 27 [] 2000 [] [] [0, 1, 5] [] [false] [.code b21] (entE 0 0 sig21 (x0, x1, ())) (entL sig21 (x0, x1, ())) = some (cutAt b21 4, E21_4 (0) (x0) (x1), L21_4 (0) (x0) (x1), [((↑(List.length x0) : Int) != (↑(List.length x1) : Int)) = Bool.false]) := by kernel_rfl
theorem p21_2 (v5 : Int) (x0 : List (ByteArray × ByteArray × ByteArray × Unit)) (x1 : List (ByteArray × ByteArray × ByteArray × Unit)) : runF tab ext21 false 27 [] 2000 [] tys21 Tryd.f21.results [true, true] (cutAt b21 4) (E21_4 v5 x0 x1) (L21_4 v5 x0 x1) = some ([Dyn.mk Ty.bool Bool.false], [], [Decidable.decide (v5 < (↑(List.length x0) : Int)) = Bool.true, 0 ≤ v5, v5 < (↑(List.length x0) : Int), 0 ≤ v5, v5 < (↑(List.length x1) : Int), True, (!g76_0 (List.getD x0 (Int.toNat v5) (ByteArray.empty, ByteArray.empty, ByteArray.empty, ())) (List.getD x1 (Int.toNat v5) (ByteArray.empty, ByteArray.empty, ByteArray.empty, ()))) = Bool.true]) := by kernel_rfl
theorem p21_3 (v5 : Int) (x0 : List (ByteArray × ByteArray × ByteArray × Unit)) (x1 : List (ByteArray × ByteArray × ByteArray × Unit)) : Am.runN tab ext21 false 27 [] 2000 [] [] [0, 1, 5] [] [true, false] (cutAt b21 4) (E21_4 v5 x0 x1) (L21_4 v5 x0 x1) = some (cutAt b21 4, E21_4 (v5 + 1) (x0) (x1), L21_4 (v5 + 1) (x0) (x1), [Decidable.decide (v5 < (↑(List.length x0) : Int)) = Bool.true, 0 ≤ v5, v5 < (↑(List.length x0) : Int), 0 ≤ v5, v5 < (↑(List.length x1) : Int), True, (!g76_0 (List.getD x0 (Int.toNat v5) (ByteArray.empty, ByteArray.empty, ByteArray.empty, ())) (List.getD x1 (Int.toNat v5) (ByteArray.empty, ByteArray.empty, ByteArray.empty, ()))) = Bool.false, InR IntKind.i64 (v5 + 1)]) := by kernel_rfl
theorem p21_4 (v5 : Int) (x0 : List (ByteArray × ByteArray × ByteArray × Unit)) (x1 : List (ByteArray × ByteArray × ByteArray × Unit)) : runF tab ext21 false 27 [] 2000 [] tys21 Tryd.f21.results [false] (cutAt b21 4) (E21_4 v5 x0 x1) (L21_4 v5 x0 x1) = some ([Dyn.mk Ty.bool Bool.true], [], [Decidable.decide (v5 < (↑(List.length x0) : Int)) = Bool.false]) := by kernel_rfl
theorem snd21 : ∀ n, (∀ (x0 : List (ByteArray × ByteArray × ByteArray × Unit)) (x1 : List (ByteArray × ByteArray × ByteArray × Unit)) ds, R21 n x0 x1 ds → ∀ w0 O q, AtV Tryd.prog 21 (PostR ds [] [] q w0 O) 27 w0 O q [] [.code b21] (entE 0 0 sig21 (x0, x1, ())) (entL sig21 (x0, x1, ()))) ∧ (∀ (v5 : Int) (x0 : List (ByteArray × ByteArray × ByteArray × Unit)) (x1 : List (ByteArray × ByteArray × ByteArray × Unit)) ds, R21_4 n v5 x0 x1 ds → ∀ w0 O q, AtV Tryd.prog 21 (PostR ds [] [] q w0 O) 27 w0 O q [] (cutAt b21 4) (E21_4 v5 x0 x1) (L21_4 v5 x0 x1)) := by
  intro n
  induction n with
  | zero => exact ⟨fun _ _ _ h => by simp only [R21] at h, fun _ _ _ _ h => by simp only [R21_4] at h⟩
  | succ n ih =>
  obtain ⟨ih, ih4⟩ := ih
  refine ⟨?_, ?_⟩
  · intro x0 x1 ds h w0 O q
    rw [R21] at h
    by_cases b0 : ((↑(List.length x0) : Int) != (↑(List.length x1) : Int)) = true
    · rw [if_pos b0] at h
      subst h
      exact AtV.fin Tryd.func21 tabOk ext21Ok mixed (p21_0 x0 x1) ⟨b0, trivial⟩
    · rw [if_neg b0] at h
      replace b0 := Bool.eq_false_iff.2 b0
      exact AtV.runN tabOk ext21Ok mixed (p21_1 x0 x1) ⟨b0, trivial⟩ (ih4 _ _ _ _ h w0 O q)

  · intro v5 x0 x1 ds h w0 O q
    rw [R21_4] at h
    by_cases b0 : (Decidable.decide (v5 < (↑(List.length x0) : Int))) = true
    · rw [if_pos b0] at h
      obtain ⟨s0, s1, h⟩ := h
      obtain ⟨s2, s3, h⟩ := h
      by_cases b1 : (!g76_0 (List.getD x0 (Int.toNat v5) (ByteArray.empty, ByteArray.empty, ByteArray.empty, ())) (List.getD x1 (Int.toNat v5) (ByteArray.empty, ByteArray.empty, ByteArray.empty, ()))) = true
      · rw [if_pos b1] at h
        subst h
        exact AtV.fin Tryd.func21 tabOk ext21Ok mixed (p21_2 v5 x0 x1) ⟨b0, s0, s1, s2, s3, trivial, b1, trivial⟩
      · rw [if_neg b1] at h
        replace b1 := Bool.eq_false_iff.2 b1
        obtain ⟨s4, h⟩ := h
        exact AtV.runN tabOk ext21Ok mixed (p21_3 v5 x0 x1) ⟨b0, s0, s1, s2, s3, trivial, b1, s4, trivial⟩ (ih4 _ _ _ _ h w0 O q)
    · rw [if_neg b0] at h
      replace b0 := Bool.eq_false_iff.2 b0
      subst h
      exact AtV.fin Tryd.func21 tabOk ext21Ok mixed (p21_4 v5 x0 x1) ⟨b0, trivial⟩



theorem eq21 (x0 x1 : List (ByteArray × ByteArray × ByteArray × Unit)) (hl : x0.length = x1.length) (hm : x0.length ≤ maxLen) : ∀ k i : Nat, i + k = x0.length → R21_4 (k + 1) (i : Int) x0 x1 [⟨.bool, decide (x0.drop i = x1.drop i)⟩] := by
  intro k
  induction k with
  | zero =>
    intro i hi
    have h1 : ¬ (i : Int) < (x0.length : Int) := by omega
    rw [R21_4, if_neg (by simpa using h1), drop_end x0 i (by omega), drop_end x1 i (by omega)]
    simp
  | succ k ih =>
    intro i hi
    have h1 : (i : Int) < (x0.length : Int) := by omega
    rw [R21_4, if_pos (by simpa using h1)]
    refine ⟨by omega, h1, by omega, by omega, ?_⟩
    simp only [Int.toNat_natCast]
    rw [drop_get x0 i (ByteArray.empty, ByteArray.empty, ByteArray.empty, ()) (by omega), drop_get x1 i (ByteArray.empty, ByteArray.empty, ByteArray.empty, ()) (by omega)]
    by_cases he : x0.getD i (ByteArray.empty, ByteArray.empty, ByteArray.empty, ()) = x1.getD i (ByteArray.empty, ByteArray.empty, ByteArray.empty, ())
    · have hd := (eqd76 _ _).2 he
      rw [if_neg (by rw [hd]; simp)]
      refine ⟨inR_up hm (by omega), ?_⟩
      have := ih (i + 1) (by omega)
      simp only [he, List.cons.injEq, true_and]
      exact this
    · have hd : g76_0 (x0.getD i (ByteArray.empty, ByteArray.empty, ByteArray.empty, ())) (x1.getD i (ByteArray.empty, ByteArray.empty, ByteArray.empty, ())) = false :=
        Bool.eq_false_iff.2 fun h => he ((eqd76 _ _).1 h)
      rw [if_pos (by rw [hd]; rfl)]
      simp only [he, List.cons.injEq, false_and, decide_false]

def g21_0 (x0 x1 : List (ByteArray × ByteArray × ByteArray × Unit)) : Bool := decide (x0 = x1)
def P21 (x0 x1 : List (ByteArray × ByteArray × ByteArray × Unit)) : Prop := True
def S21 : Am.Spec := { sig := sig21, pre := fun ⟨x0, x1, _⟩ => P21 x0 x1, res := fun ⟨x0, x1, _⟩ => [⟨Ty.bool, g21_0 x0 x1⟩] }
theorem con21 : Contract Tryd.prog 21 S21 := contract_of Tryd.func21 hb21 (Nat.le_of_ble_eq_true (by kernel_rfl)) (fun ⟨x0, x1, _⟩ h hwf w0 O q => by
  refine (snd21 (x0.length + 2)).1 x0 x1 _ ?_ w0 O q
  show R21 (x0.length + 1 + 1) x0 x1 [⟨Ty.bool, decide (x0 = x1)⟩]
  rw [R21]
  by_cases hl : x0.length = x1.length
  · rw [if_neg (by simp [hl])]
    have := eq21 x0 x1 hl hwf.1.1 x0.length 0 (by omega)
    simpa using this
  · rw [if_pos (by simp; omega)]
    have : x0 ≠ x1 := fun h => hl (by rw [h])
    simp [this])

end Go.Proofs.YtakodkjcmacofaaDoor

/- Function 9 (laws.FnExactSaveBlocks): its runs between cut points. Written by a program of this repo (gen). -/
set_option linter.unusedVariables false
set_option linter.unusedSimpArgs false
set_option maxRecDepth 100000
namespace Go.Proofs.YtakodkjcmacofaaDoor
open Go Go.Am Go.Proofs
def ext9 : Ext := [(32, S32), (34, S34), (33, S33), (35, S35), (21, S21)]
theorem call9_32 : Callable Tryd.prog 32 := ⟨Tryd.f32, Tryd.func32, by kernel_rfl, by kernel_rfl⟩
theorem call9_34 : Callable Tryd.prog 34 := ⟨Tryd.f34, Tryd.func34, by kernel_rfl, by kernel_rfl⟩
theorem call9_33 : Callable Tryd.prog 33 := ⟨Tryd.f33, Tryd.func33, by kernel_rfl, by kernel_rfl⟩
theorem call9_35 : Callable Tryd.prog 35 := ⟨Tryd.f35, Tryd.func35, by kernel_rfl, by kernel_rfl⟩
theorem call9_21 : Callable Tryd.prog 21 := ⟨Tryd.f21, Tryd.func21, by kernel_rfl, by kernel_rfl⟩
theorem ext9Ok : ExtOk Tryd.prog ext9 := ⟨⟨call9_32, con32⟩, ⟨call9_34, con34⟩, ⟨call9_33, con33⟩, ⟨call9_35, con35⟩, ⟨call9_21, con21⟩, trivial⟩
/-! Function 9. -/
noncomputable def b9 : Code := bodyOf Tryd.f9
theorem hb9 : Tryd.f9.body = some b9 := by kernel_rfl
def sig9 : List AT := [AT.v (Ty.sl (Ty.cons Ty.str (Ty.cons Ty.str (Ty.cons Ty.str Ty.unit))))]
def tys9 : List Ty := [Ty.bool]
def P9 (x0 : List (ByteArray × ByteArray × ByteArray × Unit)) : Prop := ((P32 x0 1048576) ∧ (if (Decidable.decide (g32_0 x0 1048576 < 0)) = true then True else ((P34 x0) ∧ ((P33 (g34_0 x0)) ∧ ((P34 x0) ∧ ((P35 (g34_0 x0)) ∧ (if (!ByteArray.toList (g35_0 (g34_0 x0)) == ByteArray.toList (g33_0 (g34_0 x0))) = true then True else (if (g35_1 (g34_0 x0) != g33_1 (g34_0 x0)) = true then True else ((P34 x0) ∧ True)))))))))
def g9_0 (x0 : List (ByteArray × ByteArray × ByteArray × Unit)) : Bool := (if (Decidable.decide (g32_0 x0 1048576 < 0)) = true then Bool.true else (if (!ByteArray.toList (g35_0 (g34_0 x0)) == ByteArray.toList (g33_0 (g34_0 x0))) = true then Bool.false else (if (g35_1 (g34_0 x0) != g33_1 (g34_0 x0)) = true then Bool.false else (if (!g21_0 (g34_0 x0) (g34_0 x0)) = true then Bool.false else Bool.true))))
theorem p9_0 (x0 : List (ByteArray × ByteArray × ByteArray × Unit)) : runF tab ext9 false 40 [] 2000 [] tys9 Tryd.f9.results [true] [.code b9] (entE 0 0 sig9 (x0, ())) (entL sig9 (x0, ())) = some ([Dyn.mk Ty.bool Bool.true], [], [P32 x0 1048576, Decidable.decide (g32_0 x0 1048576 < 0) = Bool.true]) := by kernel_rfl
theorem p9_1 (x0 : List (ByteArray × ByteArray × ByteArray × Unit)) : runF tab ext9 false 40 [] 2000 [] tys9 Tryd.f9.results [false, true, true] [.code b9] (entE 0 0 sig9 (x0, ())) (entL sig9 (x0, ())) = some ([Dyn.mk Ty.bool Bool.false], [], [P32 x0 1048576, Decidable.decide (g32_0 x0 1048576 < 0) = Bool.false, P34 x0, P33 (g34_0 x0), P34 x0, P35 (g34_0 x0), (!ByteArray.toList (g35_0 (g34_0 x0)) == ByteArray.toList (g33_0 (g34_0 x0))) = Bool.true, Bool.true = Bool.true]) := by kernel_rfl
theorem p9_2 (x0 : List (ByteArray × ByteArray × ByteArray × Unit)) : runF tab ext9 false 40 [] 2000 [] tys9 Tryd.f9.results [false, false, true] [.code b9] (entE 0 0 sig9 (x0, ())) (entL sig9 (x0, ())) = some ([Dyn.mk Ty.bool Bool.false], [], [P32 x0 1048576, Decidable.decide (g32_0 x0 1048576 < 0) = Bool.false, P34 x0, P33 (g34_0 x0), P34 x0, P35 (g34_0 x0), (!ByteArray.toList (g35_0 (g34_0 x0)) == ByteArray.toList (g33_0 (g34_0 x0))) = Bool.false, (g35_1 (g34_0 x0) != g33_1 (g34_0 x0)) = Bool.true]) := by kernel_rfl
theorem p9_3 (x0 : List (ByteArray × ByteArray × ByteArray × Unit)) : runF tab ext9 false 40 [] 2000 [] tys9 Tryd.f9.results [false, false, false, true] [.code b9] (entE 0 0 sig9 (x0, ())) (entL sig9 (x0, ())) = some ([Dyn.mk Ty.bool Bool.false], [], [P32 x0 1048576, Decidable.decide (g32_0 x0 1048576 < 0) = Bool.false, P34 x0, P33 (g34_0 x0), P34 x0, P35 (g34_0 x0), (!ByteArray.toList (g35_0 (g34_0 x0)) == ByteArray.toList (g33_0 (g34_0 x0))) = Bool.false, (g35_1 (g34_0 x0) != g33_1 (g34_0 x0)) = Bool.false, P34 x0, True, (!g21_0 (g34_0 x0) (g34_0 x0)) = Bool.true]) := by kernel_rfl
theorem p9_4 (x0 : List (ByteArray × ByteArray × ByteArray × Unit)) : runF tab ext9 false 40 [] 2000 [] tys9 Tryd.f9.results [false, false, false, false] [.code b9] (entE 0 0 sig9 (x0, ())) (entL sig9 (x0, ())) = some ([Dyn.mk Ty.bool Bool.true], [], [P32 x0 1048576, Decidable.decide (g32_0 x0 1048576 < 0) = Bool.false, P34 x0, P33 (g34_0 x0), P34 x0, P35 (g34_0 x0), (!ByteArray.toList (g35_0 (g34_0 x0)) == ByteArray.toList (g33_0 (g34_0 x0))) = Bool.false, (g35_1 (g34_0 x0) != g33_1 (g34_0 x0)) = Bool.false, P34 x0, True, (!g21_0 (g34_0 x0) (g34_0 x0)) = Bool.false]) := by kernel_rfl
theorem at9 (x0 : List (ByteArray × ByteArray × ByteArray × Unit)) (h : P9 x0) (w0 : World) (O : List Nat) (q : Nat → Value) : AtV Tryd.prog 9 (PostR [⟨Ty.bool, g9_0 x0⟩] [] [] q w0 O) 40 w0 O q [] [.code b9] (entE 0 0 sig9 (x0, ())) (entL sig9 (x0, ())) := by
  unfold P9 at h
  unfold g9_0
  obtain ⟨s0, h⟩ := h
  by_cases b0 : (Decidable.decide (g32_0 x0 1048576 < 0)) = true
  · try simp only [if_pos b0] at h ⊢
    exact AtV.fin Tryd.func9 tabOk ext9Ok mixed (p9_0 x0) ⟨s0, b0, trivial⟩
  · try simp only [if_neg b0] at h ⊢
    replace b0 := Bool.eq_false_iff.2 b0
    obtain ⟨s1, h⟩ := h
    obtain ⟨s2, h⟩ := h
    obtain ⟨s3, h⟩ := h
    obtain ⟨s4, h⟩ := h
    by_cases b1 : (!ByteArray.toList (g35_0 (g34_0 x0)) == ByteArray.toList (g33_0 (g34_0 x0))) = true
    · try simp only [if_pos b1] at h ⊢
      exact AtV.fin Tryd.func9 tabOk ext9Ok mixed (p9_1 x0) ⟨s0, b0, s1, s2, s3, s4, b1, rfl, trivial⟩
    · try simp only [if_neg b1] at h ⊢
      replace b1 := Bool.eq_false_iff.2 b1
      by_cases b2 : (g35_1 (g34_0 x0) != g33_1 (g34_0 x0)) = true
      · try simp only [if_pos b2] at h ⊢
        exact AtV.fin Tryd.func9 tabOk ext9Ok mixed (p9_2 x0) ⟨s0, b0, s1, s2, s3, s4, b1, b2, trivial⟩
      · try simp only [if_neg b2] at h ⊢
        replace b2 := Bool.eq_false_iff.2 b2
        obtain ⟨s5, h⟩ := h
        by_cases b3 : (!g21_0 (g34_0 x0) (g34_0 x0)) = true
        · try simp only [if_pos b3] at h ⊢
          exact AtV.fin Tryd.func9 tabOk ext9Ok mixed (p9_3 x0) ⟨s0, b0, s1, s2, s3, s4, b1, b2, s5, trivial, b3, trivial⟩
        · try simp only [if_neg b3] at h ⊢
          replace b3 := Bool.eq_false_iff.2 b3
          exact AtV.fin Tryd.func9 tabOk ext9Ok mixed (p9_4 x0) ⟨s0, b0, s1, s2, s3, s4, b1, b2, s5, trivial, b3, trivial⟩

def S9 : Am.Spec := { sig := sig9, pre := fun ⟨x0, _⟩ => P9 x0, res := fun ⟨x0, _⟩ => [⟨Ty.bool, g9_0 x0⟩] }
theorem con9 : Contract Tryd.prog 9 S9 := contract_of Tryd.func9 hb9 (Nat.le_of_ble_eq_true (by kernel_rfl)) (fun ⟨x0, _⟩ h _ w0 O q => at9 x0 h w0 O q)


end Go.Proofs.YtakodkjcmacofaaDoor

/- A law that says how functions of the program and of the specification hang together. -/
set_option linter.unusedVariables false
set_option linter.unusedSimpArgs false
set_option maxRecDepth 100000
namespace Go.Proofs.YtakodkjcmacofaaDoor
open Go Go.Am Go.Proofs

theorem name_eq (s : ByteArray) : g151_0 s = g148_0 s := by
  have hs : ∀ c, g175_0 c = (decide (97 ≤ c) && decide (c ≤ 122)) := fun c => by
    unfold g175_0
    by_cases h1 : (97 : Int) ≤ c <;> simp [h1]
  have hd : ∀ c, g67_0 c = (decide (48 ≤ c) && decide (c ≤ 57)) := fun c => by
    unfold g67_0
    by_cases h1 : (48 : Int) ≤ c <;> simp [h1]
  unfold g151_0 g148_0
  have hl := bytesOf_length s
  by_cases h1 : 1 ≤ s.size
  · cases hb : bytesOf s with
    | nil => rw [hb] at hl; simp at hl; omega
    | cons c r =>
      have hr : allI ok151 1 r = r.all fun b => g175_0 b || g67_0 b := by
        rw [← allI_plain (fun b => g175_0 b || g67_0 b) r 1]
        refine allI_congr r 1 fun j x hj => ?_
        have : (j == 0) = false := by simp; omega
        simp only [ok151, this, hs, hd, Bool.not_false, Bool.true_and]
      have h0 : ok151 0 c = g175_0 c := by simp [ok151, hs]
      simp only [allI, hr, h0, List.all_cons, List.getD_cons_zero]
      cases g175_0 c <;> simp
  · simp [h1]

theorem index_one (c : UInt8) : ∀ s : List UInt8, Lib.index s [c] = Lib.indexByte s c
  | [] => rfl
  | b :: l => by
    have e : (List.isPrefixOf [c] (b :: l)) = (b == c) := by
      simp only [List.isPrefixOf, Bool.and_true]
      exact Bool.beq_comm
    rw [Lib.index, Lib.indexByte, index_one c l, e]

theorem contains_one (s : List UInt8) (c : UInt8) : Lib.contains s [c] = s.contains c := by
  rw [Lib.contains_iff_indexByte, Lib.contains, index_one]

theorem contains_nl (s : ByteArray) : (!g163_0 s (ByteArray.mk #[10])) = (bytesOf s).all fun b => !(b == 10) := by
  unfold g163_0
  rw [show (ByteArray.mk #[10]).data.toList = [10] from rfl, contains_one]
  show (!s.data.toList.contains 10) = ((s.data.toList.map fun b => (b.toNat : Int)).all fun b => !(b == 10))
  induction s.data.toList with
  | nil => rfl
  | cons c r ih =>
    rw [List.contains_cons, Bool.not_or, ih, List.map_cons, List.all_cons]
    congr 2
    by_cases h : c = 10
    · subst h; rfl
    · have h1 : ((10 : UInt8) == c) = false := by simp; exact fun e => h e.symm
      have h2 : ((c.toNat : Int) == 10) = false := by
        rw [beq_eq_false_iff_ne]
        intro e
        exact h (UInt8.toNat_inj.1 (by show c.toNat = 10; omega))
      rw [h1, h2]

theorem block_eq (x : ByteArray × ByteArray × ByteArray × Unit) : g138_0 x = g135_0 x := by
  obtain ⟨a, b, t, u⟩ := x
  unfold g138_0 g135_0
  simp only [name_eq, ← contains_nl]
  have hc : decide ((t.size : Int) ≤ 400) = decide (t.size ≤ 400) := by
    congr 1; exact propext ⟨fun h => by omega, fun h => by omega⟩
  rw [hc]
  cases g148_0 a <;> cases g148_0 b <;> cases decide (t.size ≤ 400) <;> cases g163_0 t (ByteArray.mk #[10]) <;> rfl

end Go.Proofs.YtakodkjcmacofaaDoor

/- A law that says how functions of the program and of the specification hang together. -/
set_option linter.unusedVariables false
set_option linter.unusedSimpArgs false
set_option maxRecDepth 100000
namespace Go.Proofs.YtakodkjcmacofaaDoor
open Go Go.Am Go.Proofs

theorem nan (s : ByteArray) : g180_0 s = false := by simp [g180_0]

theorem cmp_str (a b : ByteArray) : g165_0 a b = if Op.bytesLess (ByteArray.toList a) (ByteArray.toList b) = true then -1 else if (ByteArray.toList a == ByteArray.toList b) = true then 0 else 1 := by
  unfold g165_0
  simp only [nan, Bool.false_eq_true, if_false]
  cases Op.bytesLess (ByteArray.toList a) (ByteArray.toList b) <;> cases (ByteArray.toList a == ByteArray.toList b) <;> rfl

theorem before_cmp (a b : ByteArray × ByteArray × ByteArray × Unit) : (!decide (g139_0 a b ≥ 0)) = g136_0 a b := by
  unfold g139_0 g136_0
  simp only [g164_0, cmp_str]
  cases Op.bytesLess (ByteArray.toList a.1) (ByteArray.toList b.1) <;> cases (ByteArray.toList a.1 == ByteArray.toList b.1) <;> cases Op.bytesLess (ByteArray.toList a.2.1) (ByteArray.toList b.2.1) <;> cases (ByteArray.toList a.2.1 == ByteArray.toList b.2.1) <;> decide

theorem blocks_eq (x : List (ByteArray × ByteArray × ByteArray × Unit)) : g92_0 x = g89_0 x := by
  unfold g92_0 g89_0
  congr 1
  refine allI_congr x 0 fun j y _ => ?_
  unfold ok92 ok89
  rw [block_eq, before_cmp]

end Go.Proofs.YtakodkjcmacofaaDoor

/- A law that says how functions of the program and of the specification hang together. -/
set_option linter.unusedVariables false
set_option linter.unusedSimpArgs false
set_option maxRecDepth 100000
namespace Go.Proofs.YtakodkjcmacofaaDoor
open Go Go.Am Go.Proofs

/-- A digit. -/
def isD (b : UInt8) : Prop := 48 ≤ b.toNat ∧ b.toNat ≤ 57
/-- The value of digits. -/
def dval : List UInt8 → Nat → Nat
  | [], n => n
  | b :: r, n => dval r (10 * n + (b.toNat - 48))
theorem dval_append : ∀ (l : List UInt8) (b : UInt8) (n : Nat), dval (l ++ [b]) n = 10 * dval l n + (b.toNat - 48)
  | [], _, _ => rfl
  | c :: r, b, n => dval_append r b _
theorem dval_pos : ∀ (l : List UInt8) (n : Nat), 1 ≤ n → 1 ≤ dval l n
  | [], _, h => h
  | b :: r, n, h => dval_pos r _ (by omega)

theorem dsign_nat {a : Nat} (h : a < 10) : (UInt8.ofNat (48 + a)).toNat = 48 + a := by rw [UInt8.toNat_ofNat']; omega

theorem dec_facts (n : Nat) : (∀ b ∈ Lib.decDigits n, isD b) ∧ dval (Lib.decDigits n) 0 = n ∧ 0 < (Lib.decDigits n).length ∧ (1 ≤ n → ((Lib.decDigits n).getD 0 0).toNat ≠ 48) := by
  induction n using Nat.strongRecOn with
  | _ n ih =>
    by_cases h : n < 10
    · rw [Lib.decDigits, dif_pos h]
      have e := dsign_nat h
      refine ⟨fun b hb => ?_, ?_, by simp, fun h1 => ?_⟩
      · rw [List.mem_singleton.1 hb]; unfold isD; omega
      · show 10 * 0 + ((UInt8.ofNat (48 + n)).toNat - 48) = n; omega
      · show (UInt8.ofNat (48 + n)).toNat ≠ 48; omega
    · rw [Lib.decDigits, dif_neg h]
      obtain ⟨i1, i2, i3, i4⟩ := ih (n / 10) (by omega)
      have e := dsign_nat (a := n % 10) (by omega)
      refine ⟨fun b hb => ?_, ?_, by simp, fun h1 => ?_⟩
      · rcases List.mem_append.1 hb with hb | hb
        · exact i1 b hb
        · rw [List.mem_singleton.1 hb]; unfold isD; omega
      · rw [dval_append, i2, e]; omega
      · have i4 := i4 (by omega)
        cases hd : Lib.decDigits (n / 10) with
        | nil => rw [hd] at i3; simp at i3
        | cons c r => rw [hd] at i4; exact i4

theorem dec_canon (n : Nat) : ∀ l : List UInt8, l.length = n → (∀ b ∈ l, isD b) → 0 < l.length → ((l.getD 0 0).toNat ≠ 48 ∨ l.length = 1) → Lib.decDigits (dval l 0) = l := by
  induction n with
  | zero => intro l hl _ h0 _; omega
  | succ n ih =>
    intro l hl hd h0 hc
    rcases List.eq_nil_or_concat l with rfl | ⟨l', b, rfl⟩
    · simp at h0
    · rw [List.concat_eq_append] at *
      have hb : isD b := hd b (by simp)
      unfold isD at hb
      rw [dval_append]
      cases l' with
      | nil =>
        rw [Lib.decDigits, dif_pos (by show 10 * 0 + (b.toNat - 48) < 10; omega)]
        show [UInt8.ofNat (48 + (10 * 0 + (b.toNat - 48)))] = [b]
        congr 1
        rw [← UInt8.toNat_inj, UInt8.toNat_ofNat']; omega
      | cons c r =>
        have hc' : c.toNat ≠ 48 := by
          rcases hc with hc | hc
          · exact hc
          · simp at hc
        have hcd : isD c := hd c (by simp)
        unfold isD at hcd
        have hp : 1 ≤ dval (c :: r) 0 := dval_pos r _ (by omega)
        have hi := ih (c :: r) (by simp at hl ⊢; omega) (fun x hx => hd x (List.mem_append_left _ hx)) (by simp) (.inl hc')
        rw [Lib.decDigits, dif_neg (by omega), show (10 * dval (c :: r) 0 + (b.toNat - 48)) / 10 = dval (c :: r) 0 by omega, hi, show (10 * dval (c :: r) 0 + (b.toNat - 48)) % 10 = b.toNat - 48 by omega]
        congr 2
        rw [← UInt8.toNat_inj, UInt8.toNat_ofNat']; omega

theorem dec_len : ∀ (k n : Nat), n < 10 ^ (k + 1) → (Lib.decDigits n).length ≤ k + 1
  | 0, n, h => by rw [Lib.decDigits, dif_pos (by simpa using h)]; simp
  | k + 1, n, h => by
    rw [Lib.decDigits]
    split
    · simp
    · have := dec_len k (n / 10) (by rw [Nat.pow_succ] at h; omega)
      simp; omega


end Go.Proofs.YtakodkjcmacofaaDoor

/- A law that says how functions of the program and of the specification hang together. -/
set_option linter.unusedVariables false
set_option linter.unusedSimpArgs false
set_option maxRecDepth 100000
namespace Go.Proofs.YtakodkjcmacofaaDoor
open Go Go.Am Go.Proofs

/-- The last d digits of a number, zeros ahead. -/
def pz : Nat → Nat → List UInt8
  | 0, _ => []
  | d + 1, n => pz d (n / 10) ++ [UInt8.ofNat (48 + n % 10)]

theorem pz_len : ∀ d n, (pz d n).length = d
  | 0, _ => rfl
  | d + 1, n => by rw [pz, List.length_append, pz_len d]; rfl

theorem pz_zero : ∀ d, pz d 0 = List.replicate d 48
  | 0 => rfl
  | d + 1 => by
    rw [pz, Nat.zero_div, pz_zero d, List.replicate_succ']
    rfl

/-- One ahead of the digits. -/
theorem dec_ahead : ∀ (d n : Nat), n < 10 ^ d → Lib.decDigits (n + 10 ^ d) = 49 :: pz d n
  | 0, n, h => by
    obtain rfl : n = 0 := by simpa using h
    rw [Lib.decDigits, dif_pos (by decide)]
    rfl
  | d + 1, n, h => by
    have hp : 1 ≤ 10 ^ d := Nat.one_le_pow _ _ (by decide)
    rw [Nat.pow_succ] at h ⊢
    have ih := dec_ahead d (n / 10) (by omega)
    rw [Lib.decDigits, dif_neg (by omega), show (n + 10 ^ d * 10) / 10 = n / 10 + 10 ^ d by omega, show (n + 10 ^ d * 10) % 10 = n % 10 by omega, ih, pz]
    rfl

theorem dec_zeros : ∀ (d n : Nat), 1 ≤ d → n < 10 ^ d → List.replicate (d - (Lib.decDigits n).length) 48 ++ Lib.decDigits n = pz d n
  | 0, _, h, _ => by omega
  | d + 1, n, _, h => by
    rw [pz]
    by_cases hs : n < 10
    · rw [Lib.decDigits, dif_pos hs, show n / 10 = 0 by omega, show n % 10 = n by omega, pz_zero]
      rfl
    · rw [Nat.pow_succ] at h
      have hd : 1 ≤ d := by
        rcases Nat.eq_zero_or_pos d with rfl | hd
        · simp at h; omega
        · exact hd
      have ih := dec_zeros d (n / 10) hd (by omega)
      rw [Lib.decDigits, dif_neg hs, List.length_append, List.length_singleton, Nat.add_sub_add_right, ← List.append_assoc, ih]

/-- The number of digits with zeros ahead. -/
theorem pz_all : ∀ (d n : Nat), ∀ b ∈ pz d n, isD b
  | 0, _, b, hb => by cases hb
  | d + 1, n, b, hb => by
    rw [pz] at hb
    rcases List.mem_append.1 hb with hb | hb
    · exact pz_all d _ b hb
    · rw [List.mem_singleton.1 hb]
      have := dsign_nat (a := n % 10) (by omega)
      unfold isD
      omega

theorem pz_val : ∀ (d n : Nat), n < 10 ^ d → ∀ m, dval (pz d n) m = m * 10 ^ d + n
  | 0, n, h, m => by
    obtain rfl : n = 0 := by simpa using h
    show m = _
    simp
  | d + 1, n, h, m => by
    rw [pz, dval_append, Nat.pow_succ] at *
    rw [pz_val d (n / 10) (by omega), dsign_nat (by omega), Nat.mul_add, ← Nat.mul_assoc]
    rw [show 10 * m * 10 ^ d = m * (10 ^ d * 10) by rw [Nat.mul_comm 10 m, Nat.mul_assoc, Nat.mul_comm 10]]
    omega

/-- Digits are their value with zeros ahead. -/
theorem pz_of (d : Nat) : ∀ l : List UInt8, l.length = d → (∀ b ∈ l, isD b) → pz d (dval l 0) = l ∧ dval l 0 < 10 ^ d := by
  induction d with
  | zero => intro l hl _; rw [List.length_eq_zero_iff] at hl; subst hl; exact ⟨rfl, by decide⟩
  | succ d ih =>
    intro l hl hd
    rcases List.eq_nil_or_concat l with rfl | ⟨l', b, rfl⟩
    · cases hl
    · rw [List.concat_eq_append] at *
      have hb : isD b := hd b (by simp)
      unfold isD at hb
      obtain ⟨i1, i2⟩ := ih l' (by simpa using hl) (fun x hx => hd x (List.mem_append_left _ hx))
      rw [dval_append, pz, Nat.pow_succ, show (10 * dval l' 0 + (b.toNat - 48)) / 10 = dval l' 0 by omega, i1, show (10 * dval l' 0 + (b.toNat - 48)) % 10 = b.toNat - 48 by omega]
      refine ⟨?_, by omega⟩
      congr 2
      rw [← UInt8.toNat_inj, UInt8.toNat_ofNat']; omega

end Go.Proofs.YtakodkjcmacofaaDoor

/- A law that says how functions of the program and of the specification hang together. -/
set_option linter.unusedVariables false
set_option linter.unusedSimpArgs false
set_option maxRecDepth 100000
namespace Go.Proofs.YtakodkjcmacofaaDoor
open Go Go.Am Go.Proofs

theorem bvn (a : Nat) (h : a < 9223372036854775808) : (BitVec.ofInt 64 (a : Int)).toNat = a := by
  rw [BitVec.toNat_ofInt]
  omega

theorem wrn (a : Nat) (h : a < 9223372036854775808) : IntKind.wrap IntKind.i64 (a : Int) = (a : Int) := wrap_of_inR (by rw [i64_iff]; omega)

theorem bit_bound {s : Int} (h : 0 ≤ s ∧ s ≤ 65535) : 0 ≤ bit146 s ∧ bit146 s ≤ 65535 := by
  obtain ⟨a, rfl⟩ := Int.eq_ofNat_of_zero_le h.1
  unfold bit146
  have e : (a : Int) * 2 = ((a * 2 : Nat) : Int) := by omega
  have e6 : BitVec.ofInt 64 65535 = BitVec.ofInt 64 ((65535 : Nat) : Int) := rfl
  have e7 : BitVec.ofInt 64 4129 = BitVec.ofInt 64 ((4129 : Nat) : Int) := rfl
  rw [e, wrn _ (by omega), e6, e7]
  have h1 : (a * 2) &&& 65535 < 65536 := Nat.lt_of_le_of_lt Nat.and_le_right (by decide)
  have h2 : ((a * 2) &&& 65535) ^^^ 4129 < 2 ^ 16 := Nat.xor_lt_two_pow h1 (by decide)
  split
  · rw [BitVec.toNat_and, bvn (a * 2) (by omega), bvn 65535 (by omega), wrn (a * 2 &&& 65535) (by omega), BitVec.toNat_xor, bvn (a * 2 &&& 65535) (by omega), bvn 4129 (by omega), wrn (a * 2 &&& 65535 ^^^ 4129) (by omega)]
    omega
  · rename_i hc
    have hc' : ¬ ((a * 2 : Nat) : Int) > 65535 := fun hh => hc (decide_eq_true hh)
    omega

theorem bits_bound : ∀ (k : Nat) {s : Int}, 0 ≤ s ∧ s ≤ 65535 → 0 ≤ bits146 k s ∧ bits146 k s ≤ 65535
  | 0, _, h => h
  | k + 1, _, h => bits_bound k (bit_bound h)

theorem byte_bound {s c : Int} (h : 0 ≤ s ∧ s ≤ 65535) (hc : 0 ≤ c ∧ c ≤ 255) : 0 ≤ byte146 s c ∧ byte146 s c ≤ 65535 := by
  refine bits_bound 8 ?_
  obtain ⟨a, rfl⟩ := Int.eq_ofNat_of_zero_le h.1
  obtain ⟨b, rfl⟩ := Int.eq_ofNat_of_zero_le hc.1
  have e : (b : Int) * 256 = ((b * 256 : Nat) : Int) := by omega
  have h2 : a ^^^ (b * 256) < 2 ^ 16 := Nat.xor_lt_two_pow (by omega) (by omega)
  rw [e, wrn (b * 256) (by omega), BitVec.toNat_xor, bvn a (by omega), bvn (b * 256) (by omega), wrn (a ^^^ (b * 256)) (by omega)]
  omega

theorem crc_bound (x : ByteArray) {s : Int} (h : 0 ≤ s ∧ s ≤ 65535) : 0 ≤ g146_0 x s ∧ g146_0 x s ≤ 65535 := by
  unfold g146_0
  have hb := bytesOf_range x
  revert hb
  generalize bytesOf x = l
  revert s
  induction l with
  | nil => intro s h _; exact h
  | cons c r ih =>
    intro s h hb
    rw [List.foldl_cons]
    have hc := hb c (List.mem_cons_self ..)
    exact ih (byte_bound h ⟨hc.1, hc.2⟩) fun b hb' => hb b (List.mem_cons_of_mem _ hb')

theorem crc_eq (x : ByteArray) {s : Int} (h : 0 ≤ s ∧ s ≤ 65535) : g142_0 x s = g146_0 x s := by
  unfold g142_0
  rw [if_neg (by
    have c1 : s ≥ 0 := h.1
    unfold g102_0
    simp [c1, h.2])]
  have e : byte142 = byte146 := by
    funext s c
    unfold byte142 byte146
    have : ∀ (k : Nat) (t : Int), bits142 k t = bits146 k t := by
      intro k
      induction k with
      | zero => intro t; rfl
      | succ k ih => intro t; exact ih _
    exact this 8 _
  rw [e]
  rfl

end Go.Proofs.YtakodkjcmacofaaDoor

/- A law that says how functions of the program and of the specification hang together. -/
set_option linter.unusedVariables false
set_option linter.unusedSimpArgs false
set_option maxRecDepth 100000
namespace Go.Proofs.YtakodkjcmacofaaDoor
open Go Go.Am Go.Proofs

theorem f5_list : ∀ (k : Nat) (l : List UInt8), l.length ≤ 5 → 5 ≤ l.length + k → f5145 k ⟨⟨l⟩⟩ = ⟨⟨List.replicate (5 - l.length) 48 ++ l⟩⟩
  | 0, l, h1, h2 => by
    rw [show 5 - l.length = 0 by omega]
    rfl
  | k + 1, l, h1, h2 => by
    unfold f5145
    have es : (ByteArray.mk ⟨l⟩).size = l.length := rfl
    rw [es]
    split
    · have e : ByteArray.mk #[48] ++ ByteArray.mk ⟨l⟩ = ⟨⟨48 :: l⟩⟩ := by
        apply ByteArray.ext
        apply Array.ext'
        simp [ByteArray.data_append]
      rw [e, f5_list k (48 :: l) (by simp; omega) (by simp; omega)]
      congr 2
      rw [List.length_cons, show 5 - l.length = (5 - (l.length + 1)) + 1 by omega, List.replicate_succ']
      simp
    · rw [show 5 - l.length = 0 by omega]
      rfl

theorem dec_nat (n : Nat) : g129_0 (n : Int) = ⟨⟨Lib.decDigits n⟩⟩ := by
  show numB _ = _
  unfold numB Lib.itoa
  rw [if_neg (by omega), Int.toNat_natCast]

theorem five_pz {n : Nat} (h : n ≤ 65535) : g145_0 (n : Int) = ⟨⟨pz 5 n⟩⟩ := by
  unfold g145_0
  have hl := dec_len 4 n (by omega)
  rw [dec_nat, f5_list 5 _ (by omega) (by omega), dec_zeros 5 n (by decide) (by omega)]

theorem rep_pz {n : Nat} (h : n ≤ 65535) : g143_0 (ByteArray.mk #[48]) (5 - (((g94_0 (n : Int)).size : Nat) : Int)) ++ g94_0 (n : Int) = ⟨⟨pz 5 n⟩⟩ ∧ (((g94_0 (n : Int)).size : Nat) : Int) ≤ 5 ∧ 1 ≤ (((g94_0 (n : Int)).size : Nat) : Int) := by
  have e : g94_0 (n : Int) = ⟨⟨Lib.decDigits n⟩⟩ := dec_nat n
  have hs : (ByteArray.mk ⟨Lib.decDigits n⟩).size = (Lib.decDigits n).length := rfl
  have hl := dec_len 4 n (by omega)
  have h0 := (dec_facts n).2.2.1
  rw [e, hs]
  refine ⟨?_, by omega, by omega⟩
  have hc : (5 : Int) - ((Lib.decDigits n).length : Int) = ((5 - (Lib.decDigits n).length : Nat) : Int) := by omega
  rw [hc]
  apply ByteArray.ext
  apply Array.ext'
  have hr : Lib.repeatL (List.replicate 1 48) (5 - (Lib.decDigits n).length) = List.replicate (5 - (Lib.decDigits n).length) (48 : UInt8) := by
    rw [Lib.repeatL_replicate, Nat.mul_one]
  unfold g143_0
  rw [Int.toNat_natCast, ByteArray.data_append, Array.toList_append]
  show Lib.repeatL [48] _ ++ Lib.decDigits n = _
  have h48 : ([48] : List UInt8) = List.replicate 1 48 := rfl
  rw [h48, hr, dec_zeros 5 n (by decide) (by omega)]

end Go.Proofs.YtakodkjcmacofaaDoor

/- A law that says how functions of the program and of the specification hang together. -/
set_option linter.unusedVariables false
set_option linter.unusedSimpArgs false
set_option maxRecDepth 100000
namespace Go.Proofs.YtakodkjcmacofaaDoor
open Go Go.Am Go.Proofs

def crcN (r : ByteArray) : Nat := (g146_0 r 65535).toNat
theorem crcN_le (r : ByteArray) : crcN r ≤ 65535 := by
  have := crc_bound r (s := 65535) (by decide)
  unfold crcN; omega
theorem crc_s (r : ByteArray) : g146_0 r 65535 = (crcN r : Int) := by
  have := crc_bound r (s := 65535) (by decide)
  unfold crcN; omega
theorem crc_i (r : ByteArray) : g142_0 r 65535 = (crcN r : Int) := by
  rw [crc_eq r (by decide), crc_s]

def restB (b : (ByteArray × ByteArray × ByteArray × Unit)) : List UInt8 := b.1.data.toList ++ 32 :: b.2.1.data.toList ++ 32 :: b.2.2.1.data.toList
theorem rest_eq (b : (ByteArray × ByteArray × ByteArray × Unit)) : Prod.fst b ++ ByteArray.mk #[32] ++ Prod.fst (Prod.snd b) ++ ByteArray.mk #[32] ++ Prod.fst (Prod.snd (Prod.snd b)) = ⟨⟨restB b⟩⟩ := by
  apply ByteArray.ext
  apply Array.ext'
  simp [ByteArray.data_append, restB]

theorem line_eq (b : (ByteArray × ByteArray × ByteArray × Unit)) : g96_0 b = ⟨⟨pz 5 (crcN ⟨⟨restB b⟩⟩) ++ 32 :: restB b⟩⟩ := by
  unfold g96_0
  rw [rest_eq, crc_i, (rep_pz (crcN_le _)).1]
  apply ByteArray.ext
  apply Array.ext'
  simp [ByteArray.data_append]

theorem rep_size {n : Nat} (h : n ≤ 65535) : (g143_0 (ByteArray.mk #[48]) (5 - (((g94_0 (n : Int)).size : Nat) : Int))).size + (g94_0 (n : Int)).size = 5 := by
  have := congrArg ByteArray.size (rep_pz h).1
  rw [ByteArray.size_append] at this
  have e : (ByteArray.mk ⟨pz 5 n⟩).size = (pz 5 n).length := rfl
  rw [e, pz_len] at this
  exact this

theorem line_pre (b : (ByteArray × ByteArray × ByteArray × Unit)) (h1 : b.1.size ≤ 1048576) (h2 : b.2.1.size ≤ 1048576) (h3 : b.2.2.1.size ≤ 1048576) : P96 b := by
  unfold P96
  have e : g142_0 (Prod.fst b ++ ByteArray.mk #[32] ++ Prod.fst (Prod.snd b) ++ ByteArray.mk #[32] ++ Prod.fst (Prod.snd (Prod.snd b))) 65535 = (crcN ⟨⟨restB b⟩⟩ : Int) := by rw [rest_eq, crc_i]
  rw [e]
  have hn := crcN_le ⟨⟨restB b⟩⟩
  generalize crcN ⟨⟨restB b⟩⟩ = n at *
  have r := rep_size hn
  obtain ⟨_, r2, r3⟩ := rep_pz hn
  have i32 : (ByteArray.mk #[32]).size = 1 := rfl
  have i48 : (((ByteArray.mk #[48]).size : Nat) : Int) = 1 := rfl
  simp only [ByteArray.size_append, i32]
  refine ⟨by omega, by omega, by omega, by omega, ⟨rfl, trivial⟩, by rw [i64_iff]; omega, ⟨by omega, by rw [i48]; omega⟩, by omega, by omega, by omega, trivial⟩


theorem line_size (b : (ByteArray × ByteArray × ByteArray × Unit)) : (g96_0 b).size = b.1.size + b.2.1.size + b.2.2.1.size + 8 := by
  rw [line_eq]
  have e : (ByteArray.mk ⟨pz 5 (crcN ⟨⟨restB b⟩⟩) ++ 32 :: restB b⟩).size = (pz 5 (crcN ⟨⟨restB b⟩⟩) ++ 32 :: restB b).length := rfl
  have e1 : b.1.data.toList.length = b.1.size := rfl
  have e2 : b.2.1.data.toList.length = b.2.1.size := rfl
  have e3 : b.2.2.1.data.toList.length = b.2.2.1.size := rfl
  rw [e]
  unfold restB
  simp only [List.length_append, List.length_cons, pz_len, e1, e2, e3]
  omega

theorem line_both (b : (ByteArray × ByteArray × ByteArray × Unit)) : g137_0 b = g96_0 b ++ ByteArray.mk #[10] := by
  rw [line_eq]
  unfold g137_0
  rw [rest_eq, crc_s, five_pz (crcN_le _)]
  apply ByteArray.ext
  apply Array.ext'
  simp [ByteArray.data_append]

theorem line_spre (b : (ByteArray × ByteArray × ByteArray × Unit)) (h1 : b.1.size ≤ 1048576) (h2 : b.2.1.size ≤ 1048576) (h3 : b.2.2.1.size ≤ 1048576) : P137 b := by
  unfold P137
  rw [rest_eq, crc_s, five_pz (crcN_le _)]
  have i32 : (ByteArray.mk #[32]).size = 1 := rfl
  have i10 : (ByteArray.mk #[10]).size = 1 := rfl
  have s5 : (ByteArray.mk ⟨pz 5 (crcN ⟨⟨restB b⟩⟩)⟩).size = 5 := by
    show (pz 5 _).length = 5
    rw [pz_len]
  have sr : (ByteArray.mk ⟨restB b⟩).size = b.1.size + b.2.1.size + b.2.2.1.size + 2 := by
    have e1 : b.1.data.toList.length = b.1.size := rfl
    have e2 : b.2.1.data.toList.length = b.2.1.size := rfl
    have e3 : b.2.2.1.data.toList.length = b.2.2.1.size := rfl
    show (restB b).length = _
    unfold restB
    simp only [List.length_append, List.length_cons, e1, e2, e3]
    omega
  simp only [ByteArray.size_append, i32, s5, sr]
  exact ⟨by omega, by omega, by omega, by omega, by omega, by omega, by omega, trivial⟩

end Go.Proofs.YtakodkjcmacofaaDoor

/- The plain law of FnExactSaveBlocks. -/
set_option linter.unusedVariables false
set_option linter.unusedSimpArgs false
set_option maxRecDepth 100000
namespace Go.Proofs.YtakodkjcmacofaaDoor
open Go Go.Am Go.Proofs

theorem sz_memb : ∀ (xs : List (ByteArray × ByteArray × ByteArray × Unit)) (l : Int), 0 ≤ l → InR .i64 l → (∀ x ∈ xs, Wf (.cons .str (.cons .str (.cons .str .unit))) x) → ¬ szL32 xs l < 0 → ∀ x ∈ xs, (x.1.size : Int) + x.2.1.size + x.2.2.1.size ≤ l
  | [], _, _, _, _, _, x, hx => by cases hx
  | y :: r, l, h0, hi, hw, h, x, hx => by
    obtain ⟨a1, a2, a3⟩ := sz88 y l h0 hi (hw y (List.mem_cons_self ..))
    rw [i64_iff] at hi
    simp only [szL32] at h
    split at h
    · omega
    · rename_i hn
      rcases List.mem_cons.1 hx with rfl | hx
      · unfold g88_0 at hn
        simp only [decide_eq_true_eq] at hn
        split at hn
        · omega
        · split at hn
          · omega
          · split at hn
            · omega
            · omega
      · have := sz_memb r _ (by omega) (by rw [i64_iff]; omega) (fun z hz => hw z (List.mem_cons_of_mem _ hz)) h x hx
        omega

theorem law9 (x : List (ByteArray × ByteArray × ByteArray × Unit)) (hw : Wf (.sl (.cons .str (.cons .str (.cons .str .unit)))) x) : P9 x ∧ g9_0 x = true := by
  unfold P9 g9_0
  have hz : P32 x 1048576 := (show (0 : Int) ≤ 1048576 from by decide)
  by_cases h : g32_0 x 1048576 < 0
  · simp only [h, hz, decide_true, if_true, and_true]
  · have hs := g32_le x 1048576 (by decide) (by decide) hw h
    have hp : P34 x := by
      show 48 * (x.length : Int) ≤ 281474976710656
      omega
    have hsm : ∀ y ∈ x, y.1.size + y.2.1.size + y.2.2.1.size ≤ 1048576 := by
      intro y hy
      unfold g32_0 at h
      split at h
      · omega
      · have := sz_memb x _ (by omega) (by rw [i64_iff]; omega) hw.2 h y hy
        omega
    have p2 : P35 x := fun y hy => by
      have := hsm y hy
      exact ⟨line_pre y (by omega) (by omega) (by omega), by rw [line_size]; omega⟩
    have p1 : P33 x := by
      unfold P33
      split
      · trivial
      · refine ⟨⟨by omega, fun y hy => ?_⟩, trivial⟩
        have := hsm y hy
        refine ⟨line_spre y (by omega) (by omega) (by omega), ?_⟩
        have i10 : (ByteArray.mk #[10]).size = 1 := rfl
        rw [line_both, ByteArray.size_append, line_size, i10]; omega
    have e0 : g35_0 x = g33_0 x ∧ g35_1 x = g33_1 x := by
      unfold g35_0 g33_0 g35_1 g33_1
      rw [blocks_eq]
      cases hv : g89_0 x with
      | false => simp
      | true =>
        refine ⟨?_, by simp⟩
        simp only [if_true, Bool.not_true, Bool.false_eq_true, if_false]
        unfold acc35 g90_0 hd90
        rw [List.take_length]
        congr 1
        funext o b
        rw [line_both]
    obtain ⟨e0, e1⟩ := e0
    simp only [h, decide_false, Bool.false_eq_true, if_false, g34_0, e0, e1, p1, p2, g21_0, decide_true, Bool.not_true, bne_self_eq_false, beq_self_eq_true, hp, hz, true_and, and_self]

end Go.Proofs.YtakodkjcmacofaaDoor
