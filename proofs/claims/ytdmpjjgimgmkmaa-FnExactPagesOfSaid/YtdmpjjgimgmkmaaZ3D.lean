/- Several texts in one: the functions that this law reaches, and their laws. -/
import Derived.Test.YtdmpjjgimgmkmaaZ3A
import Derived.Test.YtdmpjjgimgmkmaaZ3B
import Derived.Test.YtdmpjjgimgmkmaaZ3C
import Derived.Lib.AppendZeros
import Derived.Lib.SliceRun
import Derived.Laws.AppendOwn
import Derived.WalkKit
import Derived.Deep.LoopGhost
import Derived.Lib.Walk
import Derived.Shelf.RegionOpenPlain
import Derived.Laws.OwnMore
import Derived.Deep.OwnRows
import Derived.Deep.RegionHeld3
import Derived.Deep.AppendLies
import Derived.Deep.Onto
import Derived.Deep.RegionLaw

/- Function 20 (slices.Concat[[]string,string]): its contract, off what is known of the library. -/
set_option linter.unusedVariables false
set_option linter.unusedSimpArgs false
set_option maxRecDepth 100000
namespace Go.Proofs.Ytdmpjjgimgmkmaa
open Go Go.Am Go.Proofs

open Go.RowKit in
set_option maxHeartbeats 4000000 in
theorem grow20 (w : World) (n : Nat) (h0 : 1 ≤ n) (hn : n ≤ 1048576) :
    Calls Try.prog 27 #[.slice none 0 0, .int .i64 n] w fun r w' => ∃ v', r = .returned v' ∧ w'.ownsRow w.heap.size 9 1 v' 0 [] ∧ Below w.heap.size w w' := by
  have mixed := mixed
  have hinfo : TIOk Try.prog 22 (tabGet tab 22) := tabOk 22
  obtain ⟨_, _, ⟨_, ⟨i0, hi0, hz1, z, hz0, hzs, _⟩⟩, hby⟩ := hinfo
  rw [hi0] at hby
  simp only [Option.map_some, Option.some.injEq] at hby
  have hzs' : z.cells.size = 1 := by rw [← Array.length_toList, hzs]; rfl
  have hs1 : i0.size = 1 := hz1
  have hb16 : i0.bytes = 16 := hby
  have hG := grownCap_ge w n 0 9
  have hGm : grownCap w n 0 9 ≤ maxLen := grownCap_le_maxLen w n 0 9 (by unfold maxLen; omega)
  have hrz : ∀ ty, (Builtin.append_ #[22, 3] ty #[.slice none 0 0, .int .i64 n]).run Try.prog w = .ok (.slice (some ⟨w.heap.size, 0, none⟩) n (grownCap w n 0 9)) (w.drew.alloc (.cells (Builtin.zeroCells z.cells n ++ Builtin.zeroCells z.cells (grownCap w n 0 9 - n)) 9)) := fun ty =>
    Lib.run_append_nil_zeros w 22 3 ty 9 i0 z .i64 .i64 Try.underlying22 Try.underlying3 hi0 hz0 n (by omega) (by omega) (by omega) (by rw [hb16]; omega)
  have hsz : (Builtin.zeroCells z.cells n ++ Builtin.zeroCells z.cells (grownCap w n 0 9 - n)).size = grownCap w n 0 9 * 1 := by
    rw [Array.size_append, size_zeroCells, size_zeroCells, hzs']; omega
  obtain ⟨cur, hcur⟩ : ∃ cur, Builtin.zeroCells z.cells n ++ Builtin.zeroCells z.cells (grownCap w n 0 9 - n) = cur := ⟨_, rfl⟩
  rw [hcur] at hrz hsz
  obtain ⟨G, eG⟩ : ∃ G, grownCap w n 0 9 = G := ⟨_, rfl⟩
  rw [eG] at hrz hG hGm hsz
  have hG63 : G ≤ 9223372036854775807 := by unfold maxLen at hGm; omega
  clear eG hcur hzs' hzs hz0 hi0 hz1 hs1 hb16 hby
  have n1 : ¬ ((n : Int) < 0) := by omega
  have n2 : (n : Int) > 0 := by omega
  go_enter Try.func27, Try.ntmps27
  go_wp2_with (at_builtin; refine Lib.wpList_append_run _ rfl _ _ _ _ rfl _ _ rfl rfl _ _ (hrz _) ?_)
  all_goals go_ret
  all_goals exact ⟨_, rfl, World.ownsRow_made w.drew cur G (Nat.le_refl _) hGm hsz, ((Below.refl _ w).drew).alloc (Nat.le_refl _) _⟩

theorem sum20 (xss : List (List ByteArray)) (k : Nat) (h : k < xss.length) : (xss.take (k + 1)).flatten.length = (xss.take k).flatten.length + (xss.getD k []).length := by
  rw [List.take_add_one, List.getD_eq_getElem?_getD, List.getElem?_eq_getElem h, List.flatten_append, List.length_append]
  simp

theorem sumle20 (xss : List (List ByteArray)) (k : Nat) : (xss.take k).flatten.length ≤ xss.flatten.length := by
  conv => rhs; rw [← List.take_append_drop k xss, List.flatten_append, List.length_append]
  omega

theorem fcslen20 : ∀ (x : List ByteArray), (fcs .str x).length = x.length * 1
  | [] => rfl
  | a :: r => by
    have := fcslen20 r
    have e : fcs .str (a :: r) = .string a :: fcs .str r := rfl
    rw [e, List.length_cons, List.length_cons, this]
    omega

theorem fcsuc20 (xss : List (List ByteArray)) (k : Nat) (h : k < xss.length) : fcs .str (xss.take (k + 1)).flatten = fcs .str (xss.take k).flatten ++ fcs .str (xss.getD k []) := by
  rw [List.take_add_one, List.getD_eq_getElem?_getD, List.getElem?_eq_getElem h, List.flatten_append]
  unfold fcs
  simp

open Go.RowKit in
theorem app20 (hinfo : TIOk Try.prog 22 (tabGet tab 22)) {wr : World} (base : Nat) {v : Value} {n : Nat} {xs : List Value} (ho : wr.ownsRow base 9 1 v n xs) (b' off' cap' : Nat) {m : Nat} (news : List Value) (hl : news.length = m * 1) (hc : ∀ j u, news[j]? = some u → wr.cell? ⟨b', off' + j, none⟩ = some u) (h1 : ∀ u ∈ news, u.oneCell' = true) (hnm : n + m ≤ 1048576) (hbase : base ≤ wr.heap.size)
    {ops : Array Oper} {rest : List Oper} {o : Oper} {a : Act} {Q : Exit → Act → World → Prop} {s x : Operand} (hgd : o.guard = none) (hop : o.op = .call { callee := .builtin .append, args := #[s, x], argTypes := #[22, 22] }) (hs : a.eval s = v) (hx : a.eval x = .slice (some ⟨b', off', none⟩) m cap')
    (h : ∀ v' w', w'.ownsRow base 9 1 v' (n + m) (xs ++ news) → wr.grownBy w' v.ownBlock → wpList Try.prog ops Q rest (a.put o.dst v') w') : wpList Try.prog ops Q (o :: rest) a wr := by
  obtain ⟨_, _, ⟨_, ⟨i0, hi0, hz1, z, hz0, hzs, _⟩⟩, hby⟩ := hinfo
  rw [hi0] at hby
  simp only [Option.map_some, Option.some.injEq] at hby
  have hzs' : z.cells.size = 1 := by rw [← Array.length_toList, hzs]; rfl
  have hb16 : i0.bytes = 16 := hby
  refine wpList_append_own _ hgd s x 22 hop base 9 i0 z 1 i0.bytes Try.underlying22 hi0 hz0 hz1 rfl hzs' (by decide) v n xs hs ho ⟨b', off', none⟩ m cap' news hx hl (fun j u hj => by rw [Addr.add_lit]; exact hc j u hj) h1 (by unfold maxLen; omega) (by rw [hb16]; omega) hbase (fun v' w' h1 h2 _ => h v' w' h1 h2)

open Go.RowKit in
set_option maxHeartbeats 4000000 in
theorem walk20 (w : World) (b off cap : Nat) (xss : List (List ByteArray)) (hb : b < w.heap.size) (hcap : xss.length ≤ cap) (hcm : cap ≤ maxLen)
    (hv : ∀ k, k < xss.length → ∃ b' off' cap', w.cell? ⟨b, off + k, none⟩ = some (.slice (some ⟨b', off', none⟩) (xss.getD k []).length cap') ∧ b' < w.heap.size ∧ (xss.getD k []).length ≤ cap' ∧ ∀ j u, (fcs .str (xss.getD k []))[j]? = some u → w.cell? ⟨b', off' + j, none⟩ = some u)
    (htot : xss.flatten.length ≤ 1048576) (h1 : 1 ≤ xss.flatten.length) (hn : xss.length ≤ 1000) :
    Calls Try.prog 20 #[.slice (some ⟨b, off, none⟩) xss.length cap] w fun r w' => ∃ v', r = .returned v' ∧ w'.ownsRow w.heap.size 9 1 v' xss.flatten.length (fcs .str xss.flatten) ∧ Below w.heap.size w w' := by
  have mixed := mixed
  have HV : Aside (∀ k, k < xss.length → ∃ b' off' cap', w.cell? ⟨b, off + k, none⟩ = some (.slice (some ⟨b', off', none⟩) (xss.getD k []).length cap') ∧ b' < w.heap.size ∧ (xss.getD k []).length ≤ cap' ∧ ∀ j u, (fcs .str (xss.getD k []))[j]? = some u → w.cell? ⟨b', off' + j, none⟩ = some u) := hv
  clear hv
  go_enter Try.func20, Try.ntmps20
  go_wp2
  go_loopw [11, 3] (fun i s wr => ∃ k : Nat, k ≤ xss.length ∧ i = .int .i64 k ∧ s = .int .i64 ((xss.take k).flatten.length : Nat) ∧ w = wr) (fun i _ _ => xss.length - (intOf i).toNat)
  case atStart => exact ⟨0, Nat.zero_le _, rfl, rfl, rfl⟩
  case round =>
    obtain ⟨k, hk, rfl, rfl, rfl⟩ := hrel
    by_cases hlt : k < xss.length
    · obtain ⟨b', off', cap', q1, q2, q3, q4⟩ := HV.out k hlt
      have hsuc := sum20 xss k hlt
      have hle := sumle20 xss (k + 1)
      clear q4
      have HS : Aside ((xss.take (k + 1)).flatten.length = (xss.take k).flatten.length + (xss.getD k []).length) := hsuc
      have hAB : (((xss.take k).flatten.length : Nat) : Int) + (((xss.getD k []).length : Nat) : Int) ≤ 1048576 := by omega
      have e2 : ¬ (((xss.take k).flatten.length : Nat) : Int) + (((xss.getD k []).length : Nat) : Int) < 0 := by omega
      clear hsuc hle
      generalize (xss.take k).flatten.length = A at *
      generalize (xss.getD k []).length = B at *
      go_wp2
      refine ⟨⟨k + 1, by omega, by simp, ?_, trivial⟩, by simp [intOf]; omega⟩
      rw [HS.out]
      simp
    · have hkn : k = xss.length := by omega
      subst hkn
      have ht : (xss.take xss.length).flatten.length = xss.flatten.length := by rw [List.take_length]
      rw [ht]
      obtain ⟨N, hN⟩ : ∃ N, xss.flatten.length = N := ⟨_, rfl⟩
      rw [hN] at htot h1 ht ⊢
      have HN : Aside (xss.flatten.length = N) := hN
      clear hN ht hlt
      go_wp2_with (go_at_call 27; refine (grow20 _ N h1 htot).mono ?_; rintro e w3 ⟨v3, rfl, o3, b3⟩)
      have HO3 : Aside (w3.ownsRow w.heap.size 9 1 v3 (xss.take 0).flatten.length (fcs .str (xss.take 0).flatten)) := o3
      clear o3
      go_loopw [27, 6] (fun i v wq => ∃ k : Nat, k ≤ xss.length ∧ i = .int .i64 k ∧ wq.ownsRow w.heap.size 9 1 v (xss.take k).flatten.length (fcs .str (xss.take k).flatten) ∧ Below w.heap.size w wq) (fun i _ _ => xss.length - (intOf i).toNat)
      case atStart => exact ⟨0, Nat.zero_le _, rfl, HO3.out, b3⟩
      case round =>
        obtain ⟨k, hk2, rfl, ho, hbw⟩ := hrel
        by_cases hlt : k < xss.length
        · obtain ⟨b', off', cap', q1, q2, q3, q4⟩ := HV.out k hlt
          have hsuc := sum20 xss k hlt
          have hle := sumle20 xss (k + 1)
          have ecs := fcsuc20 xss k hlt
          have p1 : wr.cell? ⟨b, off + k, none⟩ = some (.slice (some ⟨b', off', none⟩) (xss.getD k []).length cap') := (World.cell?_of_block (hbw.block b hb)).trans q1
          have Q4 : Aside (∀ j u, (fcs .str (xss.getD k []))[j]? = some u → wr.cell? ⟨b', off' + j, none⟩ = some u) := fun j u hj => (World.cell?_of_block (hbw.block b' q2)).trans (q4 j u hj)
          have Q1 : Aside (∀ u ∈ fcs .str (xss.getD k []), u.oneCell' = true) := fun u hu => by
            obtain ⟨l, hl, hu⟩ := List.mem_flatten.1 hu
            obtain ⟨x, _, rfl⟩ := List.mem_map.1 hl
            exact fcells_one (t := .str) rfl u hu
          have QL : Aside ((fcs .str (xss.getD k [])).length = (xss.getD k []).length * 1) := fcslen20 _
          have HS : Aside ((xss.take (k + 1)).flatten.length = (xss.take k).flatten.length + (xss.getD k []).length) := hsuc
          have HC : Aside (fcs .str (xss.take (k + 1)).flatten = fcs .str (xss.take k).flatten ++ fcs .str (xss.getD k [])) := ecs
          have hAB : (xss.take k).flatten.length + (xss.getD k []).length ≤ 1048576 := by have := HN.out; omega
          have HO : Aside (wr.ownsRow w.heap.size 9 1 u6 (xss.take k).flatten.length (fcs .str (xss.take k).flatten)) := ho
          have HI : Aside (TIOk Try.prog 22 (tabGet tab 22)) := tabOk 22
          clear hsuc hle ecs q1 q4 ho
          generalize xss.getD k [] = X at *
          obtain ⟨L, hL⟩ : ∃ L, X.length = L := ⟨_, rfl⟩
          rw [hL] at p1 q3 hAB
          have QL : Aside ((fcs .str X).length = L * 1) := by rw [← hL]; exact QL.out
          have HS : Aside ((xss.take (k + 1)).flatten.length = (xss.take k).flatten.length + L) := by rw [← hL]; exact HS.out
          clear hL
          go_wp2_with (at_builtin; refine app20 HI.out w.heap.size HO.out b' off' cap' _ QL.out Q4.out Q1.out hAB hbw.size rfl rfl rfl rfl ?_; intro v' w' hown hgrow)
          go_wp2
          refine ⟨⟨k + 1, by omega, by simp, ?_, hbw.grown hgrow hbw.size (fun g hg => (HO.out.lt g hg).1)⟩, by simp [intOf]; omega⟩
          rw [HS.out, HC.out]
          exact hown
        · have hkn : k = xss.length := by omega
          subst hkn
          rw [List.take_length] at ho
          have HO : Aside (wr.ownsRow w.heap.size 9 1 u6 xss.flatten.length (fcs .str xss.flatten)) := ho
          clear ho
          go_wp2
          go_ret
          exact ⟨_, rfl, HO.out, hbw⟩

end Go.Proofs.Ytdmpjjgimgmkmaa

/- Function 7 (impl.PagesOf): its contract, the pages its own; by the kit's walk. -/
set_option linter.unusedVariables false
set_option linter.unusedSimpArgs false
set_option maxRecDepth 100000
namespace Go.Proofs.Ytdmpjjgimgmkmaa
open Go Go.Am Go.Proofs Go.RowKit

def pgs7 (x0 : List ByteArray) (s : Nat) (x2 : ByteArray) : Nat → Nat → List (List ByteArray)
  | 0, _ => []
  | k + 1, f => if f < x0.length then (x2 :: (x0.drop f).take s) :: pgs7 x0 s x2 k (f + s) else []
def g7_0 (x0 : List ByteArray) (x1 : Int) (x2 : ByteArray) : List (List ByteArray) := if g16_0 x0 = true then (if g17_0 x1 2 200 = true then (if g18_0 x2 = true then pgs7 x0 (x1 - 1).toNat x2 (x0.length + 1) 0 else []) else []) else []
def g7_1 (x0 : List ByteArray) (x1 : Int) (x2 : ByteArray) : Int := if g16_0 x0 = true then (if g17_0 x1 2 200 = true then (if g18_0 x2 = true then 0 else 2) else 2) else 1

structure Pg7 (w wr : World) (v : Value) (xs : List (List ByteArray)) (row : List Value) (bl : List Nat) : Prop where
  own : wr.ownsRow w.heap.size 22 1 v xs.length row
  len : bl.length = xs.length
  inn : ∀ j, j < xs.length → ∃ c, row[j]? = some (.slice (some ⟨bl.getD j 0, 0, none⟩) (xs.getD j []).length c) ∧
    wr.ownsRow w.heap.size 9 1 (.slice (some ⟨bl.getD j 0, 0, none⟩) (xs.getD j []).length c) (xs.getD j []).length (fcs .str (xs.getD j []))
  inc : bl.Pairwise (· < ·)
  low : Below w.heap.size w wr

theorem obj7 {w : World} {lo : Nat} {e : TypeId} {v : Value} {n : Nat} {xs : List Value} (h : w.ownsRow lo e 1 v n xs) {g : Nat} (hg : v.ownBlock = some g) : ∃ cur, w.heap[g]? = some (.cells cur e (0, 0)) := by
  rcases h.2 with ⟨rfl, _⟩ | ⟨g', cap, cur, rfl, hb, hh, _⟩
  · cases hg
  · cases hg
    exact ⟨cur, hh⟩

theorem apart7 {w : World} {lo lo' : Nat} {e e' : TypeId} {v v' : Value} {n n' : Nat} {xs xs' : List Value} (h : w.ownsRow lo e 1 v n xs) (h' : w.ownsRow lo' e' 1 v' n' xs') (hne : e ≠ e') : v.ownBlock = none ∨ v.ownBlock ≠ v'.ownBlock := by
  cases hv : v.ownBlock with
  | none => exact .inl rfl
  | some g =>
    refine .inr fun he => ?_
    obtain ⟨c1, h1⟩ := obj7 h hv
    obtain ⟨c2, h2⟩ := obj7 h' he.symm
    rw [h1] at h2
    cases h2
    exact hne rfl

theorem Pg7.keep {w wr w2 : World} {v : Value} {xs : List (List ByteArray)} {row : List Value} {bl : List Nat} (h : Pg7 w wr v xs row bl) (hg : wr.grownBy w2 none) : Pg7 w w2 v xs row bl where
  own := h.own.kept hg (by cases hv : v.ownBlock with | none => exact .inl rfl | some _ => exact .inr (by simp))
  len := h.len
  inn := fun j hj => by
    obtain ⟨c, h1, h2⟩ := h.inn j hj
    exact ⟨c, h1, h2.kept hg (.inr (by simp [Value.ownBlock]))⟩
  inc := h.inc
  low := h.low.grown hg h.low.size (fun q hq => by cases hq)

theorem Pg7.push {w wr w2 : World} {v v2 : Value} {xs : List (List ByteArray)} {row : List Value} {bl : List Nat} {x : List ByteArray} {g c : Nat} (h : Pg7 w wr v xs row bl) (hu : wr.ownsRow w.heap.size 9 1 (.slice (some ⟨g, 0, none⟩) x.length c) x.length (fcs .str x))
    (hnew : ∀ q ∈ bl, q < g) (ho : w2.ownsRow w.heap.size 22 1 v2 (xs.length + 1) (row ++ [.slice (some ⟨g, 0, none⟩) x.length c])) (hg : wr.grownBy w2 v.ownBlock) : Pg7 w w2 v2 (xs ++ [x]) (row ++ [.slice (some ⟨g, 0, none⟩) x.length c]) (bl ++ [g]) where
  own := by rw [List.length_append]; exact ho
  len := by simp [h.len]
  inn := fun j hj => by
    have hrl : row.length = xs.length := by have := h.own.1; omega
    have hbl := h.len
    by_cases hjx : j < xs.length
    · obtain ⟨c, h1, h2⟩ := h.inn j hjx
      have e1 : (xs ++ [x]).getD j [] = xs.getD j [] := by rw [List.getD_eq_getElem?_getD, List.getElem?_append_left hjx, List.getD_eq_getElem?_getD]
      have e2 : (bl ++ [g]).getD j 0 = bl.getD j 0 := by rw [List.getD_eq_getElem?_getD, List.getElem?_append_left (by omega), List.getD_eq_getElem?_getD]
      rw [e1, e2]
      refine ⟨c, by rw [List.getElem?_append_left (by omega)]; exact h1, h2.kept hg ?_⟩
      exact apart7 h2 h.own (by decide)
    · have hjn : j = xs.length := by rw [List.length_append] at hj; simp at hj; omega
      subst hjn
      have e1 : (xs ++ [x]).getD xs.length [] = x := by simp [List.getD_eq_getElem?_getD]
      have e2 : (bl ++ [g]).getD xs.length 0 = g := by rw [← hbl]; simp [List.getD_eq_getElem?_getD]
      rw [e1, e2]
      refine ⟨c, by rw [← hrl]; simp, hu.kept hg ?_⟩
      exact apart7 hu h.own (by decide)
  inc := by
    rw [List.pairwise_append]
    exact ⟨h.inc, by simp, fun a ha b hb => by simp at hb; subst hb; exact hnew a ha⟩
  low := h.low.grown hg h.low.size (fun q hq => (h.own.lt q hq).1)

theorem Pg7.done {w wr : World} {v : Value} {xs : List (List ByteArray)} {row : List Value} {bl : List Nat} (h : Pg7 w wr v xs row bl) (hm : xs.length ≤ maxLen) (hw : ∀ x ∈ xs, x.length ≤ maxLen ∧ ∀ y ∈ x, Wf .str y) :
    ∃ bs, OwnC wr (.sl (.sl .str)) xs [v] bs ∧ bs.Nodup ∧ ∀ b ∈ bs, w.heap.size ≤ b := by
  rcases h.own.2 with ⟨rfl, hn⟩ | ⟨g, cap, cur, rfl, hb, hg, hnc, hcm, hcs, htake⟩
  · have : xs = [] := List.eq_nil_of_length_eq_zero hn
    subst this
    exact ⟨[], ⟨_, rfl, by simp, .inl ⟨_, rfl, rfl, rfl⟩⟩, List.nodup_nil, fun b hb => by cases hb⟩
  · have hflat : (bl.map fun q => [q]).flatten = bl := by
      clear hb hg hnc hcm hcs htake
      induction bl with
      | nil => rfl
      | cons a l ih => exact congrArg (a :: ·) (by
          have : ∀ l : List Nat, (l.map fun q => [q]).flatten = l := fun l => by
            induction l with
            | nil => rfl
            | cons a l ih => simp [ih]
          exact this l)
    have hin : ∀ q ∈ bl, w.heap.size ≤ q ∧ q ≠ g := fun q hq => by
      obtain ⟨j, hj, rfl⟩ := List.mem_iff_getElem.1 hq
      have hbl := h.len
      obtain ⟨c, h1, h2⟩ := h.inn j (by omega)
      have e : bl.getD j 0 = bl[j] := getD_lt bl j 0 hj
      rw [e] at h2
      refine ⟨(h2.lt _ rfl).1, fun he => ?_⟩
      rcases apart7 h2 h.own (by decide) with h3 | h3
      · cases h3
      · exact h3 (by show some bl[j] = some g; rw [he])
    refine ⟨g :: bl, ⟨_, rfl, hm, .inr ⟨_, 0, cap, cur, _, (0, 0), bl.map fun q => [q], rfl, hnc, hcm, ?_, hg, ?_, by simpa using h.len, by rw [hflat], fun i x bi hx hbi => ?_⟩⟩, ?_, ?_⟩
    · show 0 + cap * 1 ≤ cur.size
      omega
    · exact ⟨fun j _ hj => by have := hj.2; omega, .inl rfl⟩
    · have hi := (List.getElem?_eq_some_iff.1 hx).1
      obtain ⟨c, h1, h2⟩ := h.inn i hi
      have hxe : xs.getD i [] = x := by rw [List.getD_eq_getElem?_getD, hx]; rfl
      have hbl := h.len
      have hbe : [bl.getD i 0] = bi := by
        rw [List.getElem?_map, List.getElem?_eq_getElem (by omega)] at hbi
        rw [getD_lt bl i 0 (by omega)]
        simpa using hbi
      subst hbe
      rw [hxe] at h1 h2
      refine ⟨[.slice (some ⟨bl.getD i 0, 0, none⟩) x.length c], rfl, fun j c' hj => ?_, _, rfl, ?_⟩
      · have hj0 : j = 0 := by have := (List.getElem?_eq_some_iff.1 hj).1; simp at this; omega
        subst hj0
        simp at hj
        subst hj
        rw [← htake, List.getElem?_take, if_pos (by omega)] at h1
        show cur[0 + i * 1 + 0]? = some _
        rw [show 0 + i * 1 + 0 = i by omega]
        simpa using h1
      · obtain ⟨hxm, hxw⟩ := hw x (List.mem_of_getElem? hx)
        rcases h2.2 with ⟨h', _⟩ | ⟨g', cap', cur', h', hb', hg', hnc', hcm', hcs', htake'⟩
        · simp at h'
        · simp only [Value.slice.injEq, Option.some.injEq, Addr.mk.injEq, and_true, true_and] at h'
          obtain ⟨h3, rfl⟩ := h'
          rw [← h3] at hg'
          refine ⟨hxm, .inr ⟨_, 0, _, cur', _, (0, 0), x.map fun _ => [], rfl, hnc', hcm', ?_, hg', ?_, by simp, ?_, fun k y bj hy hbj => ?_⟩⟩
          · show 0 + _ * 1 ≤ cur'.size
            omega
          · exact ⟨fun j _ hj => by have := hj.2; omega, .inl rfl⟩
          · have : (x.map fun _ => ([] : List Nat)).flatten = [] := by
              clear hx hxm hxw h1 h2 htake' hxe
              induction x with
              | nil => rfl
              | cons a l ih => simp
            rw [this]
          · have hk := (List.getElem?_eq_some_iff.1 hy).1
            have hbj' : bj = [] := by
              rw [List.getElem?_map, hy] at hbj
              simpa using hbj.symm
            subst hbj'
            refine ⟨[.string y], rfl, fun j c' hj => ?_, rfl, hxw y (List.mem_of_getElem? hy), rfl⟩
            have hj0 : j = 0 := by have := (List.getElem?_eq_some_iff.1 hj).1; simp at this; omega
            subst hj0
            simp at hj
            subst hj
            have e : (fcs .str x)[k]? = some (.string y) := by
              have : ∀ (x : List ByteArray) (k : Nat) (y : ByteArray), x[k]? = some y → (fcs .str x)[k]? = some (.string y) := by
                intro x
                induction x with
                | nil => intro k y h; simp at h
                | cons a l ih =>
                  intro k y h
                  have e : fcs .str (a :: l) = .string a :: fcs .str l := rfl
                  rw [e]
                  cases k with
                  | zero => simp at h; subst h; rfl
                  | succ k => simpa using ih k y (by simpa using h)
              exact this x k y hy
            rw [← htake', List.getElem?_take, if_pos (by omega)] at e
            show cur'[0 + k * 1 + 0]? = some _
            rw [show 0 + k * 1 + 0 = k by omega]
            simpa using e
    · exact List.nodup_cons.2 ⟨fun hm' => (hin g hm').2 rfl, h.inc.imp fun hlt => Nat.ne_of_lt hlt⟩
    · intro b hb'
      rcases List.mem_cons.1 hb' with rfl | hb'
      · exact hb
      · exact (hin b hb').1

theorem val7 (W : World) (x0 : List ByteArray) (v : Value) (hgo : GOk W []) (ha : SlAt W (Am.Good W []) (RepC W (Am.Good W []) .str) 1 x0 v) :
    Calls Try.prog 16 #[v] W fun e w' => e = .returned (.bool (g16_0 x0)) ∧ Below W.heap.size W w' := by
  have h := con16.down rfl W (x0, ()) [v] [[]] hgo trivial ⟨v, [], [], [], rfl, rfl, ⟨rfl, ha⟩, rfl, rfl⟩ (by simp)
  refine h.mono ?_
  rintro e w' ⟨rs, ubs, rbs, rfl, hk, ⟨u, s, b1, bs1, cs, rfl, rfl, ho, hv, rfl, rfl⟩, _⟩
  obtain ⟨ho, _⟩ := ho
  have hv : cs = [u] := hv
  rw [ho] at hv
  cases hv
  exact ⟨rfl, hk.below⟩

theorem siz7 (W : World) (x0 : List ByteArray) (v : Value) (hgo : GOk W []) (ha : SlAt W (Am.Good W []) (RepC W (Am.Good W []) .str) 1 x0 v) :
    Calls Try.prog 19 #[v] W fun e w' => e = .returned (.int .i64 (x0.length : Int)) ∧ Below W.heap.size W w' := by
  have h := con19.down rfl W (x0, ()) [v] [[]] hgo (by first | exact trivial | exact ⟨trivial, trivial⟩ | skip) ⟨v, [], [], [], rfl, rfl, ⟨rfl, ha⟩, rfl, rfl⟩ (by simp)
  refine h.mono ?_
  rintro e w' ⟨rs, ubs, rbs, rfl, hk, ⟨u, s, b1, bs1, cs, rfl, rfl, ho, hv, rfl, rfl⟩, _⟩
  obtain ⟨ho, _⟩ := ho
  have hv : cs = [u] := hv
  rw [ho] at hv
  cases hv
  exact ⟨rfl, hk.below⟩

theorem wit7 (W : World) (a : Int) (hgo : GOk W []) (ha : InR .i64 a) :
    Calls Try.prog 17 #[.int .i64 a, .int .i64 2, .int .i64 200] W fun e w' => e = .returned (.bool (g17_0 a 2 200)) ∧ Below W.heap.size W w' := by
  have h := con17.down rfl W (a, 2, 200, ()) [.int .i64 a, .int .i64 2, .int .i64 200] [[], [], []] hgo trivial ⟨_, _, _, _, rfl, rfl, ⟨rfl, rfl, ha⟩, _, _, _, _, rfl, rfl, ⟨rfl, rfl, show InR .i64 2 by rw [i64_iff]; omega⟩, _, _, _, _, rfl, rfl, ⟨rfl, rfl, show InR .i64 200 by rw [i64_iff]; omega⟩, rfl, rfl⟩ (by simp)
  refine h.mono ?_
  rintro e w' ⟨rs, ubs, rbs, rfl, hk, ⟨u, s, b1, bs1, cs, rfl, rfl, ho, hv, rfl, rfl⟩, _⟩
  obtain ⟨ho, _⟩ := ho
  have hv : cs = [u] := hv
  rw [ho] at hv
  cases hv
  exact ⟨rfl, hk.below⟩

theorem lin7 (W : World) (a : ByteArray) (hgo : GOk W []) (ha : a.size ≤ maxLen) :
    Calls Try.prog 18 #[.string a] W fun e w' => e = .returned (.bool (g18_0 a)) ∧ Below W.heap.size W w' := by
  have h := con18.down rfl W (a, ()) [.string a] [[]] hgo trivial ⟨_, _, _, _, rfl, rfl, ⟨rfl, rfl, ha⟩, rfl, rfl⟩ (by simp)
  refine h.mono ?_
  rintro e w' ⟨rs, ubs, rbs, rfl, hk, ⟨u, s, b1, bs1, cs, rfl, rfl, ho, hv, rfl, rfl⟩, _⟩
  obtain ⟨ho, _⟩ := ho
  have hv : cs = [u] := hv
  rw [ho] at hv
  cases hv
  exact ⟨rfl, hk.below⟩

theorem gok7 {w W : World} (h : GOk w []) (hb : Below w.heap.size w W) : GOk W [] where
  inv := h.inv.keep fun b _ hs => hb.5 b hs
  size := Nat.le_trans h.size hb.4
  out := h.out

theorem arg7 {w W : World} {x0 : List ByteArray} {v : Value} (hb : Below w.heap.size w W) (h : SlAt w (Am.Good w []) (RepC w (Am.Good w []) .str) 1 x0 v) : SlAt W (Am.Good W []) (RepC W (Am.Good W []) .str) 1 x0 v :=
  SlAt.keep (fun _ _ => RepC.keep (fun q hq => ⟨Nat.lt_of_lt_of_le hq.1 hb.size, hq.2⟩) (fun q hq => hb.block q hq.1)) (fun q hq => ⟨Nat.lt_of_lt_of_le hq.1 hb.size, hq.2⟩) (fun q hq => hb.block q hq.1) h

set_option maxHeartbeats 4000000 in
theorem bad17 (w : World) (x0 : List ByteArray) (v : Value) (x1 : Int) (x2 : ByteArray) (hgo : GOk w []) (ha : SlAt w (Am.Good w []) (RepC w (Am.Good w []) .str) 1 x0 v) (h1 : g16_0 x0 = false) :
    Calls Try.prog 7 #[v, .int .i64 x1, .string x2] w fun e w' => e = .returned (.tuple #[.slice none 0 0, .int .i64 1]) ∧ Below w.heap.size w w' := by
  have HA : Aside (SlAt w (Am.Good w []) (RepC w (Am.Good w []) .str) 1 x0 v) := ha
  clear ha
  have mixed := mixed
  go_enter Try.func7, Try.ntmps7
  go_wp2_with (go_at_call 16; refine (val7 _ x0 _ hgo HA.out).mono ?_; rintro e w1 ⟨rfl, b1⟩; rw [h1])
  go_ret2
  exact ⟨rfl, b1⟩

set_option maxHeartbeats 4000000 in
theorem bad27 (w : World) (x0 : List ByteArray) (v : Value) (x1 : Int) (x2 : ByteArray) (hgo : GOk w []) (ha : SlAt w (Am.Good w []) (RepC w (Am.Good w []) .str) 1 x0 v) (h1 : g16_0 x0 = true) (hi : InR .i64 x1) (h2 : g17_0 x1 2 200 = false) :
    Calls Try.prog 7 #[v, .int .i64 x1, .string x2] w fun e w' => e = .returned (.tuple #[.slice none 0 0, .int .i64 2]) ∧ Below w.heap.size w w' := by
  have HA : Aside (SlAt w (Am.Good w []) (RepC w (Am.Good w []) .str) 1 x0 v) := ha
  clear ha
  have mixed := mixed
  go_enter Try.func7, Try.ntmps7
  go_wp2_with (go_at_call 16; refine (val7 _ x0 _ hgo HA.out).mono ?_; rintro e w1 ⟨rfl, b1⟩; rw [h1])
  go_wp2_with (go_at_call 17; refine (wit7 _ x1 (gok7 hgo b1) hi).mono ?_; rintro e w2 ⟨rfl, b2⟩; rw [h2])
  go_ret2
  exact ⟨rfl, b1.trans (b2.mono b1.size)⟩

set_option maxHeartbeats 4000000 in
theorem bad37 (w : World) (x0 : List ByteArray) (v : Value) (x1 : Int) (x2 : ByteArray) (hgo : GOk w []) (ha : SlAt w (Am.Good w []) (RepC w (Am.Good w []) .str) 1 x0 v) (h1 : g16_0 x0 = true) (hi : InR .i64 x1) (h2 : g17_0 x1 2 200 = true)
    (hs : x2.size ≤ maxLen) (h3 : g18_0 x2 = false) :
    Calls Try.prog 7 #[v, .int .i64 x1, .string x2] w fun e w' => e = .returned (.tuple #[.slice none 0 0, .int .i64 2]) ∧ Below w.heap.size w w' := by
  have HA : Aside (SlAt w (Am.Good w []) (RepC w (Am.Good w []) .str) 1 x0 v) := ha
  clear ha
  have mixed := mixed
  go_enter Try.func7, Try.ntmps7
  go_wp2_with (go_at_call 16; refine (val7 _ x0 _ hgo HA.out).mono ?_; rintro e w1 ⟨rfl, b1⟩; rw [h1])
  go_wp2_with (go_at_call 17; refine (wit7 _ x1 (gok7 hgo b1) hi).mono ?_; rintro e w2 ⟨rfl, b2⟩; rw [h2])
  go_wp2_with (go_at_call 18; refine (lin7 _ x2 (gok7 (gok7 hgo b1) b2) hs).mono ?_; rintro e w3 ⟨rfl, b3⟩; rw [h3])
  go_ret2
  exact ⟨rfl, (b1.trans (b2.mono b1.size)).trans (b3.mono (Nat.le_trans b1.size b2.size))⟩

theorem Pg7.lt {w wr : World} {v : Value} {xs : List (List ByteArray)} {row : List Value} {bl : List Nat} (h : Pg7 w wr v xs row bl) : ∀ q ∈ bl, q < wr.heap.size := fun q hq => by
  obtain ⟨j, hj, rfl⟩ := List.mem_iff_getElem.1 hq
  have hbl := h.len
  obtain ⟨c, h1, h2⟩ := h.inn j (by omega)
  have e : bl.getD j 0 = bl[j] := getD_lt bl j 0 hj
  rw [e] at h2
  exact (h2.lt _ rfl).2

theorem gb7 {w W : World} (h : Below w.heap.size w W) : w.grownBy W none := ⟨h.1, h.2, h.3, h.4, fun q hq _ => h.5 q hq⟩

theorem app7 (hinfo : TIOk Try.prog 24 (tabGet tab 24)) {wr : World} (base : Nat) {v : Value} {n : Nat} {xs : List Value} (ho : wr.ownsRow base 22 1 v n xs) (b' off' cap' : Nat) {m : Nat} (news : List Value) (hl : news.length = m * 1) (hc : ∀ j u, news[j]? = some u → wr.cell? ⟨b', off' + j, none⟩ = some u) (h1 : ∀ u ∈ news, u.oneCell' = true) (hnm : n + m ≤ 1048576) (hbase : base ≤ wr.heap.size)
    {ops : Array Oper} {rest : List Oper} {o : Oper} {a : Act} {Q : Exit → Act → World → Prop} {s x : Operand} (hgd : o.guard = none) (hop : o.op = .call { callee := .builtin .append, args := #[s, x], argTypes := #[24, 24] }) (hs : a.eval s = v) (hx : a.eval x = .slice (some ⟨b', off', none⟩) m cap')
    (h : ∀ v' w', w'.ownsRow base 22 1 v' (n + m) (xs ++ news) → wr.grownBy w' v.ownBlock → wpList Try.prog ops Q rest (a.put o.dst v') w') : wpList Try.prog ops Q (o :: rest) a wr := by
  obtain ⟨_, _, ⟨_, ⟨i0, hi0, hz1, z, hz0, hzs, _⟩⟩, hby⟩ := hinfo
  rw [hi0] at hby
  simp only [Option.map_some, Option.some.injEq] at hby
  have hzs' : z.cells.size = 1 := by rw [← Array.length_toList, hzs]; rfl
  have hb16 : i0.bytes = 24 := hby
  refine wpList_append_own _ hgd s x 24 hop base 22 i0 z 1 i0.bytes Try.underlying24 hi0 hz0 hz1 rfl hzs' (by decide) v n xs hs ho ⟨b', off', none⟩ m cap' news hx hl (fun j u hj => by rw [Addr.add_lit]; exact hc j u hj) h1 (by unfold maxLen; omega) (by rw [hb16]; omega) hbase (fun v' w' h1 h2 _ => h v' w' h1 h2)

theorem fcsget7 : ∀ (x : List ByteArray) (j : Nat), (fcs .str x)[j]? = (x[j]?).map .string
  | [], j => by simp [fcs]
  | a :: l, 0 => rfl
  | a :: l, j + 1 => by
    have e : fcs .str (a :: l) = .string a :: fcs .str l := rfl
    rw [e]
    simpa using fcsget7 l j

theorem conc7 (w5 : World) (x0 : List ByteArray) (x2 : ByteArray) (b off f s m c : Nat) (hb : b < w5.heap.size) (hm : m = ((x0.drop f).take s).length) (hmc : m ≤ c) (h1 : 1 ≤ m) (h2 : m ≤ 1000)
    (hc : ∀ j u, (fcs .str x0)[j]? = some u → w5.cell? ⟨b, off + j, none⟩ = some u) :
    Calls Try.prog 20 #[.slice (some ⟨w5.heap.size + 1, 0, none⟩) 2 2] ((w5.alloc (.cells #[.string x2] 9)).alloc (.cells #[.slice (some ⟨w5.heap.size, 0, none⟩) 1 1, .slice (some ⟨b, off + f, none⟩) m c] 22)) fun e w' =>
      ∃ g c' N, e = .returned (.slice (some ⟨g, 0, none⟩) N c') ∧ w5.heap.size ≤ g ∧ Aside (N = (x2 :: (x0.drop f).take s).length) ∧ Aside (w'.ownsRow w5.heap.size 9 1 (.slice (some ⟨g, 0, none⟩) N c') N (fcs .str (x2 :: (x0.drop f).take s))) ∧ Below w5.heap.size w5 w' := by
  subst hm
  obtain ⟨Y, hY⟩ : ∃ Y, (x0.drop f).take s = Y := ⟨_, rfl⟩
  have hYc : ∀ j u, (fcs .str Y)[j]? = some u → w5.cell? ⟨b, off + f + j, none⟩ = some u := fun j u hj => by
    rw [fcsget7] at hj
    obtain ⟨y, hy, rfl⟩ := Option.map_eq_some_iff.1 hj
    rw [← hY] at hy
    have : x0[f + j]? = some y := by
      rw [List.getElem?_take] at hy
      split at hy
      · rwa [List.getElem?_drop] at hy
      · cases hy
    have := hc (f + j) (.string y) (by rw [fcsget7, this]; rfl)
    rw [show off + (f + j) = off + f + j by omega] at this
    exact this
  rw [hY] at hmc h1 h2 ⊢
  obtain ⟨wa, ha⟩ : ∃ wa, w5.alloc (.cells #[.string x2] 9) = wa := ⟨_, rfl⟩
  obtain ⟨wb, hwb⟩ : ∃ wb, wa.alloc (.cells #[.slice (some ⟨w5.heap.size, 0, none⟩) 1 1, .slice (some ⟨b, off + f, none⟩) Y.length c] 22) = wb := ⟨_, rfl⟩
  rw [ha, hwb]
  have sa : wa.heap.size = w5.heap.size + 1 := by rw [← ha]; simp
  have sb : wb.heap.size = w5.heap.size + 2 := by rw [← hwb]; simp [sa]
  have k0 : wb.heap[w5.heap.size]? = some (.cells #[.string x2] 9) := by
    rw [← hwb, Below.heap_alloc _ _ _ (by omega), ← ha]
    exact heap_alloc_new w5 _
  have k1 : wb.heap[w5.heap.size + 1]? = some (.cells #[.slice (some ⟨w5.heap.size, 0, none⟩) 1 1, .slice (some ⟨b, off + f, none⟩) Y.length c] 22) := by
    rw [← hwb, ← sa]
    exact heap_alloc_new wa _
  have low : Below w5.heap.size w5 wb := by
    rw [← hwb, ← ha]
    exact ((Below.refl _ w5).alloc (Nat.le_refl _) _).alloc (by simp) _
  refine (walk20 wb (w5.heap.size + 1) 0 2 [[x2], Y] (by omega) (by simp) (by decide) (fun k hk => ?_) (by simp; omega) (by simp) (by simp)).mono ?_
  · simp only [List.length_cons, List.length_nil] at hk
    rcases k with _ | _ | k
    · refine ⟨w5.heap.size, 0, 1, ?_, by omega, by simp, fun j u hj => ?_⟩
      · simp [World.cell?, k1]
      · rw [fcsget7] at hj
        rcases j with _ | j
        · simp at hj; subst hj
          simp [World.cell?, k0]
        · simp at hj
    · refine ⟨b, off + f, c, ?_, by omega, hmc, fun j u hj => ?_⟩
      · simp [World.cell?, k1]
      · exact (World.cell?_of_block (low.block b hb)).trans (hYc j u hj)
    · omega
  · rintro r w' ⟨v', rfl, o, lo⟩
    have el : ([[x2], Y] : List (List ByteArray)).flatten = x2 :: Y := by simp
    rw [el] at o
    have hlt := o.lt
    rcases o.2 with ⟨_, hn⟩ | ⟨g, cap, cur, rfl, hbg, _⟩
    · simp at hn
    · exact ⟨g, cap, _, rfl, by omega, rfl, World.ownsRow.mono o (by omega), low.trans (lo.mono (by omega))⟩

theorem nil7 {w wr : World} (h : Below w.heap.size w wr) : Pg7 w wr (.slice none 0 0) [] [] [] where
  own := World.ownsRow_nil wr _ _ _
  len := rfl
  inn := fun j hj => by simp at hj
  inc := List.Pairwise.nil
  low := h

set_option maxHeartbeats 4000000 in
theorem walk7 (w : World) (x0 : List ByteArray) (ad0 : Option Addr) (cap : Nat) (x1 : Int) (x2 : ByteArray) (s : Nat) (hgo : GOk w []) (ha : SlAt w (Am.Good w []) (RepC w (Am.Good w []) .str) 1 x0 (.slice ad0 x0.length cap))
    (h1 : g16_0 x0 = true) (hi : InR .i64 x1) (h2 : g17_0 x1 2 200 = true) (hs : x2.size ≤ maxLen) (h3 : g18_0 x2 = true) (e1 : x1 = (s : Int) + 1) (hs1 : 1 ≤ s) (hs2 : s ≤ 199) (hl : x0.length ≤ 1000) (hcap : x0.length ≤ cap) (hcm : cap ≤ maxLen)
    (hc : 0 < x0.length → ∃ b off, ad0 = some ⟨b, off, none⟩ ∧ b < w.heap.size ∧ ∀ j u, (fcs .str x0)[j]? = some u → w.cell? ⟨b, off + j, none⟩ = some u) :
    Calls Try.prog 7 #[.slice ad0 x0.length cap, .int .i64 x1, .string x2] w fun e w' => ∃ v row bl, e = .returned (.tuple #[v, .int .i64 0]) ∧ Pg7 w w' v (pgs7 x0 s x2 (x0.length + 1) 0) row bl := by
  have HA : Aside (SlAt w (Am.Good w []) (RepC w (Am.Good w []) .str) 1 x0 (.slice ad0 x0.length cap)) := ha
  have HC : Aside (0 < x0.length → ∃ b off, ad0 = some ⟨b, off, none⟩ ∧ b < w.heap.size ∧ ∀ j u, (fcs .str x0)[j]? = some u → w.cell? ⟨b, off + j, none⟩ = some u) := hc
  clear ha hc
  have mixed := mixed
  have hcm' : cap ≤ 9223372036854775807 := hcm
  subst e1
  go_enter Try.func7, Try.ntmps7
  go_wp2_with (go_at_call 16; refine (val7 _ x0 _ hgo HA.out).mono ?_; rintro e w1 ⟨rfl, b1⟩; rw [h1])
  go_wp2_with (go_at_call 17; refine (wit7 _ _ (gok7 hgo b1) hi).mono ?_; rintro e w2 ⟨rfl, b2⟩; rw [h2])
  go_wp2_with (go_at_call 18; refine (lin7 _ x2 (gok7 (gok7 hgo b1) b2) hs).mono ?_; rintro e w3 ⟨rfl, b3⟩; rw [h3])
  have bb : Below w.heap.size w w3 := (b1.trans (b2.mono b1.size)).trans (b3.mono (Nat.le_trans b1.size b2.size))
  clear b1 b2 b3
  go_loopw [9, 8] (fun i v wr => ∃ (f k : Nat) (ps : List (List ByteArray)) (row : List Value) (bl : List Nat), i = .int .i64 (f : Nat) ∧ Pg7 w wr v ps row bl ∧ x0.length ≤ f + k ∧ f ≤ 2000 ∧ ps.length ≤ f ∧ ps ++ pgs7 x0 s x2 (k + 1) f = pgs7 x0 s x2 (x0.length + 1) 0) (fun i _ _ => x0.length - (intOf i).toNat)
  case atStart => exact ⟨0, x0.length, [], [], [], rfl, nil7 bb, by omega, by omega, by simp, rfl⟩
  case round =>
    obtain ⟨f, k, ps, row, bl, rfl, hp, hk, hf, hpl, he⟩ := hrel
    have HP : Aside (Pg7 w wr u8 ps row bl) := hp
    have HE : Aside (ps ++ pgs7 x0 s x2 (k + 1) f = pgs7 x0 s x2 (x0.length + 1) 0) := he
    have bl0 := hp.low
    clear hp he
    have G4 : Aside (GOk wr []) := gok7 hgo bl0
    have A4 : Aside (SlAt wr (Am.Good wr []) (RepC wr (Am.Good wr []) .str) 1 x0 (.slice ad0 x0.length cap)) := arg7 bl0 HA.out
    by_cases hlt : f < x0.length
    · obtain ⟨b, off, rfl, hb, hcells⟩ := HC.out (by omega)
      have HI : Aside (TIOk Try.prog 24 (tabGet tab 24)) := tabOk 24
      have HCe : Aside (∀ j u, (fcs .str x0)[j]? = some u → w.cell? ⟨b, off + j, none⟩ = some u) := hcells
      clear hcells
      have hYl : (min ((f : Int) + ((s : Int) + 1) - 1) (x0.length : Int)).toNat - f = min s (x0.length - f) := by omega
      have HY : Aside (min s (x0.length - f) = ((x0.drop f).take s).length) := by
        show _ = _
        rw [List.length_take, List.length_drop]
      go_wp2_with (first
        | (go_at_call 19; refine (siz7 wr x0 _ G4.out A4.out).mono ?_; rintro e w4 ⟨rfl, b4⟩; have G5 : Aside (GOk w4 []) := gok7 G4.out b4; have A5 : Aside (SlAt w4 (Am.Good w4 []) (RepC w4 (Am.Good w4 []) .str) 1 x0 (.slice (some ⟨b, off, none⟩) x0.length cap)) := arg7 b4 A4.out)
        | (go_at_call 19; refine (siz7 w4 x0 _ G5.out A5.out).mono ?_; rintro e w5 ⟨rfl, b5⟩)
        | (go_at_call 20; refine (conc7 w5 x0 x2 b off f s _ _ (Nat.lt_of_lt_of_le hb (Nat.le_trans bl0.size (Nat.le_trans b4.size b5.size))) HY.out (by omega) (by omega) (by omega) (fun j u hj => by
              rw [World.cell?_of_block (b5.block b (Nat.lt_of_lt_of_le hb (Nat.le_trans bl0.size b4.size))), World.cell?_of_block (b4.block b (Nat.lt_of_lt_of_le hb bl0.size)), World.cell?_of_block (bl0.block b hb)]
              exact HCe.out j u hj)).mono ?_; rintro e w6 ⟨g, c', N, rfl, hg, HN, o6, b6⟩; have HP7 : Aside (∀ o, Pg7 w (w6.alloc o) u8 ps row bl) := fun o => HP.out.keep (gb7 (((b4.trans (b5.mono b4.size)).trans (b6.mono (Nat.le_trans b4.size b5.size))).alloc (Nat.le_trans b4.size (Nat.le_trans b5.size b6.size)) o)); have O7 : Aside (∀ o, (w6.alloc o).ownsRow w.heap.size 9 1 (.slice (some ⟨g, 0, none⟩) N c') N (fcs .str (x2 :: (x0.drop f).take s))) := fun o => World.ownsRow.alloc (World.ownsRow.mono o6.out (Nat.le_trans bl0.size (Nat.le_trans b4.size b5.size))) o; have S6 : Aside (w.heap.size ≤ w6.heap.size) := Nat.le_trans bl0.size (Nat.le_trans b4.size (Nat.le_trans b5.size b6.size)); have HG : Aside (∀ q ∈ bl, q < g) := fun q hq => Nat.lt_of_lt_of_le (HP.out.lt q hq) (Nat.le_trans b4.size (Nat.le_trans b5.size hg)))
        | (at_builtin; refine app7 HI.out w.heap.size (HP7.out _).own w6.heap.size 0 1 [.slice (some ⟨g, 0, none⟩) N c'] rfl (fun j u hj => by
              rcases j with _ | j
              · simp at hj; subst hj
                unfold World.cell?
                rw [show (w6.alloc (Obj.cells #[Value.slice (some ⟨g, 0, none⟩) N c'] 22)).heap[(⟨w6.heap.size, 0 + 0, none⟩ : Addr).block]? = _ from heap_alloc_new w6 _]
                rfl
              · simp at hj) (by simp [Value.oneCell']) (by omega) (by have := S6.out; simp; omega) rfl rfl rfl rfl ?_; intro v' w' hown hgrow))
      obtain rfl : N = (x2 :: (x0.drop f).take s).length := HN.out
      obtain ⟨k, rfl⟩ : ∃ k', k = k' + 1 := ⟨k - 1, by omega⟩
      have hpush := (HP7.out _).push (O7.out _) HG.out hown hgrow
      refine ⟨⟨f + s, k, _, _, _, ?_, hpush, by omega, by omega, ?_, ?_⟩, ?_⟩
      · simp
      · simp; omega
      · have eu : pgs7 x0 s x2 (k + 1 + 1) f = (x2 :: (x0.drop f).take s) :: pgs7 x0 s x2 (k + 1) (f + s) := by
          conv => lhs; unfold pgs7
          rw [if_pos hlt]
        have := HE.out
        rw [eu] at this
        rw [List.append_assoc, List.singleton_append]
        exact this
      · simp [intOf]; omega
    · go_wp2_with (first
        | (go_at_call 19; refine (siz7 wr x0 _ G4.out A4.out).mono ?_; rintro e w4 ⟨rfl, b4⟩))
      have HP4 : Aside (Pg7 w w4 u8 ps row bl) := HP.out.keep (gb7 b4)
      have hfin : pgs7 x0 s x2 (k + 1) f = [] := by
        unfold pgs7
        rw [if_neg hlt]
      have := HE.out
      rw [hfin, List.append_nil] at this
      go_ret2
      refine ⟨_, row, bl, rfl, ?_⟩
      rw [← this]
      exact HP4.out

def sig7 : List AT := [AT.v (Ty.sl Ty.str), AT.v (Ty.int .i64), AT.v Ty.str]
def P7 (x0 : List ByteArray) (x1 : Int) (x2 : ByteArray) : Prop := True
def S7 : Am.Spec := { sig := sig7, pre := fun ⟨x0, x1, x2, _⟩ => P7 x0 x1 x2, res := fun ⟨x0, x1, x2, _⟩ => [⟨.sl (.sl .str), g7_0 x0 x1 x2⟩, ⟨.int .i64, g7_1 x0 x1 x2⟩] }

theorem pgsmem7 (x0 : List ByteArray) (s : Nat) (x2 : ByteArray) (hl : x0.length ≤ 1000) : ∀ (k f : Nat), (pgs7 x0 s x2 k f).length ≤ k ∧ ∀ p ∈ pgs7 x0 s x2 k f, p.length ≤ 1001 ∧ ∀ y ∈ p, y = x2 ∨ y ∈ x0
  | 0, f => ⟨Nat.le_refl _, fun p hp => by cases hp⟩
  | k + 1, f => by
    obtain ⟨h1, h2⟩ := pgsmem7 x0 s x2 hl k (f + s)
    unfold pgs7
    split
    · refine ⟨by simp; omega, fun p hp => ?_⟩
      rcases List.mem_cons.1 hp with rfl | hp
      · refine ⟨by rw [List.length_cons, List.length_take, List.length_drop]; omega, fun y hy => ?_⟩
        rcases List.mem_cons.1 hy with rfl | hy
        · exact .inl rfl
        · exact .inr (List.mem_of_mem_drop (List.mem_of_mem_take hy))
      · exact h2 p hp
    · exact ⟨Nat.zero_le _, fun p hp => by cases hp⟩

theorem sub7 (x1 : Int) (h : 2 ≤ x1 ∧ x1 ≤ 200) : x1 = ((x1 - 1).toNat : Int) + 1 ∧ 1 ≤ (x1 - 1).toNat ∧ (x1 - 1).toNat ≤ 199 := by omega

theorem vlen7 (x0 : List ByteArray) (h : g16_0 x0 = true) : x0.length ≤ 1000 := by
  unfold g16_0 at h
  split at h
  · rename_i h1
    have := of_decide_eq_true h1
    omega
  · cases h

theorem con7 : Contract Try.prog 7 S7 := by
  refine Contract0.up rfl rfl ?_
  rintro w ⟨x0, x1, x2, u⟩ vs bss hgo hp ⟨v, s, b, bs, rfl, rfl, ⟨rfl, ho⟩, v1, s1, b1, bs1, rfl, rfl, ⟨rfl, h1⟩, v2, s2, b2, bs2, rfl, rfl, ⟨rfl, h2⟩, rfl, rfl⟩ hnd
  have hgo : GOk w [] := hgo
  have ho : SlAt w (Am.Good w []) (RepC w (Am.Good w []) .str) 1 x0 v := ho
  obtain ⟨rfl, hi⟩ : v1 = .int .i64 x1 ∧ InR .i64 x1 := h1
  obtain ⟨rfl, hs⟩ : v2 = .string x2 ∧ x2.size ≤ maxLen := h2
  have hw : ∀ y ∈ x0, Wf .str y := (slAt_flat (t := .str) rfl ho).1
  have fin : ∀ (w' : World) (v : Value) (row : List Value) (bl : List Nat) (ps : List (List ByteArray)) (c : Int), Pg7 w w' v ps row bl → ps.length ≤ maxLen → (∀ p ∈ ps, p.length ≤ maxLen ∧ ∀ y ∈ p, Wf .str y) → InR .i64 c →
      ∃ rs ubs rbs, Ending.returned (.tuple #[v, .int .i64 c]) = .returned (packV rs) ∧ Kept [] w w' ∧ ResRep w' [⟨.sl (.sl .str), ps⟩, ⟨.int .i64, c⟩] rs rbs ∧ UpdRep w' [] [] ubs ∧ (ubs.flatten ++ rbs.flatten).Nodup ∧ ∀ b ∈ ubs.flatten ++ rbs.flatten, ¬ Am.Good w [] b := fun w' v row bl ps c h hm hw' hc => by
    obtain ⟨bs, k1, k2, k3⟩ := h.done hm hw'
    refine ⟨[v, .int .i64 c], [], [bs, []], rfl, Kept.of_below h.low, ⟨_, _, _, _, _, rfl, rfl, k1, rfl, _, _, _, _, _, rfl, rfl, ⟨rfl, hc, rfl⟩, rfl, rfl, rfl⟩, ⟨rfl, rfl⟩, by simpa using k2, fun b hb hg => ?_⟩
    have hb : b ∈ bs := by simpa using hb
    have := k3 b hb
    have := hg.1
    omega
  have z : ∀ c : Int, 0 ≤ c → c ≤ 2 → InR .i64 c := fun c h1 h2 => by rw [i64_iff]; omega
  show Calls Try.prog 7 #[v, .int .i64 x1, .string x2] w _
  show Calls Try.prog 7 #[v, .int .i64 x1, .string x2] w fun e w' => ∃ rs ubs rbs, e = .returned (packV rs) ∧ Kept [] w w' ∧ ResRep w' [⟨.sl (.sl .str), g7_0 x0 x1 x2⟩, ⟨.int .i64, g7_1 x0 x1 x2⟩] rs rbs ∧ UpdRep w' [] [] ubs ∧ (ubs.flatten ++ rbs.flatten).Nodup ∧ ∀ b ∈ ubs.flatten ++ rbs.flatten, ¬ Am.Good w [] b
  unfold g7_0 g7_1
  cases hv : g16_0 x0 with
  | false =>
    rw [if_neg (by decide), if_neg (by decide)]
    refine (bad17 w x0 v x1 x2 hgo ho hv).mono ?_
    rintro e w' ⟨rfl, hb⟩
    exact fin w' _ [] [] [] 1 (nil7 hb) (by simp) (fun p hp => by cases hp) (z 1 (by decide) (by decide))
  | true =>
    have hl : x0.length ≤ 1000 := vlen7 x0 hv
    rw [if_pos rfl, if_pos rfl]
    cases hw2 : g17_0 x1 2 200 with
    | false =>
      rw [if_neg (by decide), if_neg (by decide)]
      refine (bad27 w x0 v x1 x2 hgo ho hv hi hw2).mono ?_
      rintro e w' ⟨rfl, hb⟩
      exact fin w' _ [] [] [] 2 (nil7 hb) (by simp) (fun p hp => by cases hp) (z 2 (by decide) (by decide))
    | true =>
      rw [if_pos rfl, if_pos rfl]
      cases hr : g18_0 x2 with
      | false =>
        rw [if_neg (by decide), if_neg (by decide)]
        refine (bad37 w x0 v x1 x2 hgo ho hv hi hw2 hs hr).mono ?_
        rintro e w' ⟨rfl, hb⟩
        exact fin w' _ [] [] [] 2 (nil7 hb) (by simp) (fun p hp => by cases hp) (z 2 (by decide) (by decide))
      | true =>
        rw [if_pos rfl, if_pos rfl]
        have hb : 2 ≤ x1 ∧ x1 ≤ 200 := by
          unfold g17_0 at hw2
          split at hw2
          · rename_i h1; exact ⟨of_decide_eq_true h1, of_decide_eq_true hw2⟩
          · cases hw2
        obtain ⟨m1, m2⟩ := pgsmem7 x0 (x1 - 1).toNat x2 hl (x0.length + 1) 0
        have go : ∀ (ad0 : Option Addr) (cap : Nat), v = .slice ad0 x0.length cap → x0.length ≤ cap → cap ≤ maxLen → (0 < x0.length → ∃ b off, ad0 = some ⟨b, off, none⟩ ∧ b < w.heap.size ∧ ∀ j u, (fcs .str x0)[j]? = some u → w.cell? ⟨b, off + j, none⟩ = some u) →
            Calls Try.prog 7 #[v, .int .i64 x1, .string x2] w fun e w' => ∃ rs ubs rbs, e = .returned (packV rs) ∧ Kept [] w w' ∧ ResRep w' [⟨.sl (.sl .str), pgs7 x0 (x1 - 1).toNat x2 (x0.length + 1) 0⟩, ⟨.int .i64, 0⟩] rs rbs ∧ UpdRep w' [] [] ubs ∧ (ubs.flatten ++ rbs.flatten).Nodup ∧ ∀ b ∈ ubs.flatten ++ rbs.flatten, ¬ Am.Good w [] b := fun ad0 cap hve h3 h4 h5 => by
          subst hve
          refine (walk7 w x0 ad0 cap x1 x2 (x1 - 1).toNat hgo ho hv hi hw2 hs hr (sub7 x1 hb).1 (sub7 x1 hb).2.1 (sub7 x1 hb).2.2 hl h3 h4 h5).mono ?_
          rintro e w' ⟨v, row, bl, rfl, h⟩
          refine fin w' v row bl _ 0 h (by unfold maxLen; omega) (fun p hp => ?_) (z 0 (by decide) (by decide))
          obtain ⟨q1, q2⟩ := m2 p hp
          refine ⟨by unfold maxLen; omega, fun y hy => ?_⟩
          rcases q2 y hy with rfl | hy
          · exact hs
          · exact hw y hy
        rcases (slAt_flat (t := .str) rfl ho).2.2 with ⟨ad, rfl, rfl⟩ | ⟨b', off, cap, rfl, h3, h4, hG, hcells⟩
        · exact go ad 0 rfl (Nat.le_refl _) (Nat.zero_le _) (fun h => by simp at h)
        · exact go _ cap rfl h3 h4 (fun _ => ⟨b', off, rfl, hG.1, hcells⟩)

end Go.Proofs.Ytdmpjjgimgmkmaa

/- Function 15 (spec.l30Line): its runs between cut points. Written by a program of this repo (gen). -/
set_option linter.unusedVariables false
set_option linter.unusedSimpArgs false
set_option maxRecDepth 100000
namespace Go.Proofs.Ytdmpjjgimgmkmaa
open Go Go.Am Go.Proofs
noncomputable section
def ext15 : Ext := []
theorem ext15Ok : ExtOk Try.prog ext15 := trivial

noncomputable def b15 : Code := bodyOf Try.f15
theorem hb15 : Try.f15.body = some b15 := by kernel_rfl
def sig15 : List AT := [AT.v (Ty.str)]
def tys15 : List Ty := [Ty.bool]
def kds15 : List RK := []
def oks15 : List AT := owns sig15
def E15_2 (v3 : Int) (x0 : ByteArray) : Env := [(0, PV.a (Atom.val (Value.string x0))), (3, PV.a (Atom.val (Value.int IntKind.i64 v3)))]
def L15_2 (v3 : Int) (x0 : ByteArray) : Heap := []
mutual
def R15 : Nat → ByteArray → List Dyn → Prop
  | 0, _, _ => False
  | n + 1, x0, ds => (R15_2 n (0) (x0) ds)
def R15_2 : Nat → Int → ByteArray → List Dyn → Prop
  | 0, _, _, _ => False
  | n + 1, v3, x0, ds => (if (Decidable.decide (v3 < (↑(ByteArray.size x0) : Int))) = true then ((0 ≤ v3) ∧ (v3 < (↑(ByteArray.size x0) : Int)) ∧ (if (Decidable.decide ((↑(UInt8.toNat (List.getD (Array.toList (ByteArray.data x0)) (Int.toNat v3) 0)) : Int) < 32)) = true then (ds = [Dyn.mk Ty.bool Bool.false]) else ((0 ≤ v3) ∧ (v3 < (↑(ByteArray.size x0) : Int)) ∧ (if (Decidable.decide ((↑(UInt8.toNat (List.getD (Array.toList (ByteArray.data x0)) (Int.toNat v3) 0)) : Int) > 126)) = true then (ds = [Dyn.mk Ty.bool Bool.false]) else ((InR IntKind.i64 (v3 + 1)) ∧ (R15_2 n (v3 + 1) (x0) ds)))))) else (ds = [Dyn.mk Ty.bool (Decidable.decide ((↑(ByteArray.size x0) : Int) ≤ 100))]))
end
theorem snd15 : ∀ n, (∀ (x0 : ByteArray) ds, R15 n x0 ds → ∀ K q, AtV Try.prog 15 (PostR kds15 oks15 ds [] [] q K) 23 K q [] [.code b15] (entE 0 0 sig15 (x0, ())) (entL sig15 (x0, ()))) ∧ (∀ (v3 : Int) (x0 : ByteArray) ds, R15_2 n v3 x0 ds → ∀ K q, AtV Try.prog 15 (PostR kds15 oks15 ds [] [] q K) 23 K q [] (cutAt b15 2) (E15_2 v3 x0) (L15_2 v3 x0)) := by
  intro n
  induction n with
  | zero => exact ⟨fun _ _ h => by simp only [R15] at h, fun _ _ _ h => by simp only [R15_2] at h⟩
  | succ n ih =>
  obtain ⟨ih, ih2⟩ := ih
  refine ⟨?_, ?_⟩
  · intro x0 ds h K q
    rw [R15] at h
    exact AtV.go tabOk ext15Ok mixed false [] [] [0, 3] [] [] trivial (ih2 _ _ _ h K q) (by kernel_rfl)

  · intro v3 x0 ds h K q
    rw [R15_2] at h
    by_cases b0 : (Decidable.decide (v3 < (↑(ByteArray.size x0) : Int))) = true
    · rw [if_pos b0] at h
      obtain ⟨s0, s1, h⟩ := h
      by_cases b1 : (Decidable.decide ((↑(UInt8.toNat (List.getD (Array.toList (ByteArray.data x0)) (Int.toNat v3) 0)) : Int) < 32)) = true
      · rw [if_pos b1] at h
        subst h
        exact AtV.ret Try.func15 tabOk ext15Ok mixed false [] tys15 [true, true, true] (a1 b0 (a1 s0 (a1 s1 (a1 b1 (a1 (rfl : Bool.true = Bool.true) trivial))))) (by kernel_rfl)
      · rw [if_neg b1] at h
        replace b1 := Bool.eq_false_iff.2 b1
        obtain ⟨s2, s3, h⟩ := h
        by_cases b2 : (Decidable.decide ((↑(UInt8.toNat (List.getD (Array.toList (ByteArray.data x0)) (Int.toNat v3) 0)) : Int) > 126)) = true
        · rw [if_pos b2] at h
          subst h
          exact AtV.ret Try.func15 tabOk ext15Ok mixed false [] tys15 [true, false, true] (a1 b0 (a1 s0 (a1 s1 (a1 b1 (a1 s2 (a1 s3 (a1 b2 trivial))))))) (by kernel_rfl)
        · rw [if_neg b2] at h
          replace b2 := Bool.eq_false_iff.2 b2
          obtain ⟨s4, h⟩ := h
          exact AtV.go tabOk ext15Ok mixed false [] [] [0, 3] [] [true, false, false] (a1 b0 (a1 s0 (a1 s1 (a1 b1 (a1 s2 (a1 s3 (a1 b2 (a1 s4 trivial)))))))) (ih2 _ _ _ h K q) (by kernel_rfl)
    · rw [if_neg b0] at h
      replace b0 := Bool.eq_false_iff.2 b0
      subst h
      exact AtV.ret Try.func15 tabOk ext15Ok mixed false [] tys15 [false] (a1 b0 trivial) (by kernel_rfl)



def ok15 (b : Int) : Bool := decide (32 ≤ b) && decide (b ≤ 126)
def g15_0 (x0 : ByteArray) : Bool := (bytesOf x0).all ok15 && decide (x0.size ≤ 100)
def P15 (x0 : ByteArray) : Prop := True

theorem top15 (x0 : ByteArray) (hw : Wf .str x0) : R15 (x0.size + 1 + 1) x0 [⟨.bool, g15_0 x0⟩] := by
  have hl := bytesOf_length x0
  rw [R15]
  have key := loop_test (bytesOf x0) 0 ok15 [(⟨.bool, false⟩ : Dyn)] [⟨.bool, decide (x0.size ≤ 100)⟩] (fun n i ds => R15_2 n i x0 ds) (fun n => ?_) (fun n i hi hok ds hr => ?_) (fun n i hi hok => ?_)
  · rw [hl] at key
    unfold g15_0
    cases h : (bytesOf x0).all ok15 <;> rw [h] at key <;> simpa using key
  · show R15_2 (n + 1) ((bytesOf x0).length : Int) x0 _
    rw [R15_2, hl, if_neg (by simp)]
    simp only [Dyn.mk.injEq, heq_eq_eq, true_and, List.cons.injEq, and_true]
    congr 1
    exact propext ⟨fun h => by omega, fun h => by omega⟩
  · simp only [ok15, Bool.and_eq_true, decide_eq_true_eq] at hok
    rw [R15_2, if_pos (by simp; omega)]
    simp only [Int.toNat_natCast, byte_get]
    generalize (bytesOf x0).getD i 0 = c at *
    refine ⟨by omega, by omega, ?_⟩
    rw [if_neg (by simp only [decide_eq_true_eq]; omega)]
    refine ⟨by omega, by omega, ?_⟩
    rw [if_neg (by simp only [decide_eq_true_eq]; omega)]
    exact ⟨inR_up (xs := bytesOf x0) (by rw [hl]; exact hw) hi, hr⟩
  · simp only [ok15, Bool.and_eq_false_iff, decide_eq_false_iff_not] at hok
    rw [R15_2, if_pos (by simp; omega)]
    simp only [Int.toNat_natCast, byte_get]
    generalize (bytesOf x0).getD i 0 = c at *
    refine ⟨by omega, by omega, ?_⟩
    by_cases h1 : c < 32
    · rw [if_pos (by simpa using h1)] <;> trivial
    · rw [if_neg (by simpa using h1)]
      refine ⟨by omega, by omega, ?_⟩
      rw [if_pos (by simp only [decide_eq_true_eq]; omega)] <;> trivial

def S15 : Am.Spec := { sig := sig15, pre := fun ⟨x0, _⟩ => P15 x0, res := fun ⟨x0, _⟩ => [⟨Ty.bool, g15_0 x0⟩] }
theorem con15 : Contract Try.prog 15 S15 := contract_of Try.func15 hb15 (Nat.le_of_ble_eq_true (by kernel_rfl)) (fun ⟨x0, _⟩ h hwf K q =>
  (snd15 _).1 x0 _ (top15 x0 hwf.1) K q)

end
end Go.Proofs.Ytdmpjjgimgmkmaa

/- Function 13 (spec.l30Ok): its runs between cut points. Written by a program of this repo (gen). -/
set_option linter.unusedVariables false
set_option linter.unusedSimpArgs false
set_option maxRecDepth 100000
namespace Go.Proofs.Ytdmpjjgimgmkmaa
open Go Go.Am Go.Proofs
noncomputable section
def ext13 : Ext := [(15, S15)]
theorem call13_15 : Callable Try.prog 15 := ⟨Try.f15, Try.func15, by kernel_rfl, by kernel_rfl⟩
theorem ext13Ok : ExtOk Try.prog ext13 := ⟨⟨call13_15, con15⟩, trivial⟩

noncomputable def b13 : Code := bodyOf Try.f13
theorem hb13 : Try.f13.body = some b13 := by kernel_rfl
def sig13 : List AT := [AT.v (Ty.sl Ty.str)]
def tys13 : List Ty := [Ty.bool]
def kds13 : List RK := []
def oks13 : List AT := owns sig13
def E13_2 (v3 : Int) (x0 : List ByteArray) : Env := [(0, PV.a (Atom.sl Ty.str x0)), (3, PV.a (Atom.val (Value.int IntKind.i64 v3)))]
def L13_2 (v3 : Int) (x0 : List ByteArray) : Heap := []
mutual
def R13 : Nat → List ByteArray → List Dyn → Prop
  | 0, _, _ => False
  | n + 1, x0, ds => (R13_2 n (0) (x0) ds)
def R13_2 : Nat → Int → List ByteArray → List Dyn → Prop
  | 0, _, _, _ => False
  | n + 1, v3, x0, ds => (if (Decidable.decide (v3 < (↑(List.length x0) : Int))) = true then ((0 ≤ v3) ∧ (v3 < (↑(List.length x0) : Int)) ∧ (if (!g15_0 (List.getD x0 (Int.toNat v3) ByteArray.empty)) = true then (ds = [Dyn.mk Ty.bool Bool.false]) else ((InR IntKind.i64 (v3 + 1)) ∧ (R13_2 n (v3 + 1) (x0) ds)))) else (ds = [Dyn.mk Ty.bool (Decidable.decide ((↑(List.length x0) : Int) ≤ 200))]))
end
theorem snd13 : ∀ n, (∀ (x0 : List ByteArray) ds, R13 n x0 ds → ∀ K q, AtV Try.prog 13 (PostR kds13 oks13 ds [] [] q K) 19 K q [] [.code b13] (entE 0 0 sig13 (x0, ())) (entL sig13 (x0, ()))) ∧ (∀ (v3 : Int) (x0 : List ByteArray) ds, R13_2 n v3 x0 ds → ∀ K q, AtV Try.prog 13 (PostR kds13 oks13 ds [] [] q K) 19 K q [] (cutAt b13 2) (E13_2 v3 x0) (L13_2 v3 x0)) := by
  intro n
  induction n with
  | zero => exact ⟨fun _ _ h => by simp only [R13] at h, fun _ _ _ h => by simp only [R13_2] at h⟩
  | succ n ih =>
  obtain ⟨ih, ih2⟩ := ih
  refine ⟨?_, ?_⟩
  · intro x0 ds h K q
    rw [R13] at h
    exact AtV.go tabOk ext13Ok mixed false [] [] [0, 3] [] [] trivial (ih2 _ _ _ h K q) (by kernel_rfl)

  · intro v3 x0 ds h K q
    rw [R13_2] at h
    by_cases b0 : (Decidable.decide (v3 < (↑(List.length x0) : Int))) = true
    · rw [if_pos b0] at h
      obtain ⟨s0, s1, h⟩ := h
      by_cases b1 : (!g15_0 (List.getD x0 (Int.toNat v3) ByteArray.empty)) = true
      · rw [if_pos b1] at h
        subst h
        exact AtV.ret Try.func13 tabOk ext13Ok mixed false [] tys13 [true, true] (a1 b0 (a1 s0 (a1 s1 (a1 trivial (a1 b1 trivial))))) (by kernel_rfl)
      · rw [if_neg b1] at h
        replace b1 := Bool.eq_false_iff.2 b1
        obtain ⟨s2, h⟩ := h
        exact AtV.go tabOk ext13Ok mixed false [] [] [0, 3] [] [true, false] (a1 b0 (a1 s0 (a1 s1 (a1 trivial (a1 b1 (a1 s2 trivial)))))) (ih2 _ _ _ h K q) (by kernel_rfl)
    · rw [if_neg b0] at h
      replace b0 := Bool.eq_false_iff.2 b0
      subst h
      exact AtV.ret Try.func13 tabOk ext13Ok mixed false [] tys13 [false] (a1 b0 trivial) (by kernel_rfl)



def g13_0 (x0 : List ByteArray) : Bool := x0.all g15_0 && decide (x0.length ≤ 200)
def P13 (x0 : List ByteArray) : Prop := True

theorem top13 (x0 : List ByteArray) (hw : Wf (.sl .str) x0) : R13 (x0.length + 1 + 1) x0 [⟨.bool, g13_0 x0⟩] := by
  rw [R13]
  have key := loop_test x0 ByteArray.empty g15_0 [(⟨.bool, false⟩ : Dyn)] [⟨.bool, decide (x0.length ≤ 200)⟩] (fun n i ds => R13_2 n i x0 ds) (fun n => ?_) (fun n i hi hok ds hr => ?_) (fun n i hi hok => ?_)
  · unfold g13_0
    cases h : x0.all g15_0 <;> rw [h] at key <;> simpa using key
  · rw [R13_2, if_neg (by simp)]
    simp only [Dyn.mk.injEq, heq_eq_eq, true_and, List.cons.injEq, and_true]
    congr 1
    exact propext ⟨fun h => by omega, fun h => by omega⟩
  · rw [R13_2, if_pos (by simp; omega)]
    simp only [Int.toNat_natCast]
    refine ⟨by omega, by omega, ?_⟩
    rw [if_neg (by rw [hok]; simp)]
    exact ⟨inR_up hw.1 hi, hr⟩
  · rw [R13_2, if_pos (by simp; omega)]
    simp only [Int.toNat_natCast]
    refine ⟨by omega, by omega, ?_⟩
    rw [if_pos (by rw [hok]; simp)] <;> trivial

def S13 : Am.Spec := { sig := sig13, pre := fun ⟨x0, _⟩ => P13 x0, res := fun ⟨x0, _⟩ => [⟨Ty.bool, g13_0 x0⟩] }
theorem con13 : Contract Try.prog 13 S13 := contract_of Try.func13 hb13 (Nat.le_of_ble_eq_true (by kernel_rfl)) (fun ⟨x0, _⟩ h hwf K q =>
  (snd13 _).1 x0 _ (top13 x0 hwf.1) K q)

end
end Go.Proofs.Ytdmpjjgimgmkmaa

/- Function 5 (spec.PagesOf): its contract, the pages its own; by the kit's walk. -/
set_option linter.unusedVariables false
set_option linter.unusedSimpArgs false
set_option maxRecDepth 100000
namespace Go.Proofs.Ytdmpjjgimgmkmaa
open Go Go.Am Go.Proofs Go.RowKit


structure Pg5 (w wr : World) (v : Value) (xs : List (List ByteArray)) (row : List Value) (bl : List Nat) : Prop where
  own : wr.ownsRow w.heap.size 22 1 v xs.length row
  len : bl.length = xs.length
  inn : ∀ j, j < xs.length → ∃ c, row[j]? = some (.slice (some ⟨bl.getD j 0, 0, none⟩) (xs.getD j []).length c) ∧
    wr.ownsRow w.heap.size 9 1 (.slice (some ⟨bl.getD j 0, 0, none⟩) (xs.getD j []).length c) (xs.getD j []).length (fcs .str (xs.getD j []))
  inc : bl.Pairwise (· < ·)
  low : Below w.heap.size w wr

theorem obj5 {w : World} {lo : Nat} {e : TypeId} {v : Value} {n : Nat} {xs : List Value} (h : w.ownsRow lo e 1 v n xs) {g : Nat} (hg : v.ownBlock = some g) : ∃ cur, w.heap[g]? = some (.cells cur e (0, 0)) := by
  rcases h.2 with ⟨rfl, _⟩ | ⟨g', cap, cur, rfl, hb, hh, _⟩
  · cases hg
  · cases hg
    exact ⟨cur, hh⟩

theorem apart5 {w : World} {lo lo' : Nat} {e e' : TypeId} {v v' : Value} {n n' : Nat} {xs xs' : List Value} (h : w.ownsRow lo e 1 v n xs) (h' : w.ownsRow lo' e' 1 v' n' xs') (hne : e ≠ e') : v.ownBlock = none ∨ v.ownBlock ≠ v'.ownBlock := by
  cases hv : v.ownBlock with
  | none => exact .inl rfl
  | some g =>
    refine .inr fun he => ?_
    obtain ⟨c1, h1⟩ := obj5 h hv
    obtain ⟨c2, h2⟩ := obj5 h' he.symm
    rw [h1] at h2
    cases h2
    exact hne rfl

theorem Pg5.keep {w wr w2 : World} {v : Value} {xs : List (List ByteArray)} {row : List Value} {bl : List Nat} (h : Pg5 w wr v xs row bl) (hg : wr.grownBy w2 none) : Pg5 w w2 v xs row bl where
  own := h.own.kept hg (by cases hv : v.ownBlock with | none => exact .inl rfl | some _ => exact .inr (by simp))
  len := h.len
  inn := fun j hj => by
    obtain ⟨c, h1, h2⟩ := h.inn j hj
    exact ⟨c, h1, h2.kept hg (.inr (by simp [Value.ownBlock]))⟩
  inc := h.inc
  low := h.low.grown hg h.low.size (fun q hq => by cases hq)

theorem Pg5.push {w wr w2 : World} {v v2 : Value} {xs : List (List ByteArray)} {row : List Value} {bl : List Nat} {x : List ByteArray} {g c : Nat} (h : Pg5 w wr v xs row bl) (hu : wr.ownsRow w.heap.size 9 1 (.slice (some ⟨g, 0, none⟩) x.length c) x.length (fcs .str x))
    (hnew : ∀ q ∈ bl, q < g) (ho : w2.ownsRow w.heap.size 22 1 v2 (xs.length + 1) (row ++ [.slice (some ⟨g, 0, none⟩) x.length c])) (hg : wr.grownBy w2 v.ownBlock) : Pg5 w w2 v2 (xs ++ [x]) (row ++ [.slice (some ⟨g, 0, none⟩) x.length c]) (bl ++ [g]) where
  own := by rw [List.length_append]; exact ho
  len := by simp [h.len]
  inn := fun j hj => by
    have hrl : row.length = xs.length := by have := h.own.1; omega
    have hbl := h.len
    by_cases hjx : j < xs.length
    · obtain ⟨c, h1, h2⟩ := h.inn j hjx
      have e1 : (xs ++ [x]).getD j [] = xs.getD j [] := by rw [List.getD_eq_getElem?_getD, List.getElem?_append_left hjx, List.getD_eq_getElem?_getD]
      have e2 : (bl ++ [g]).getD j 0 = bl.getD j 0 := by rw [List.getD_eq_getElem?_getD, List.getElem?_append_left (by omega), List.getD_eq_getElem?_getD]
      rw [e1, e2]
      refine ⟨c, by rw [List.getElem?_append_left (by omega)]; exact h1, h2.kept hg ?_⟩
      exact apart5 h2 h.own (by decide)
    · have hjn : j = xs.length := by rw [List.length_append] at hj; simp at hj; omega
      subst hjn
      have e1 : (xs ++ [x]).getD xs.length [] = x := by simp [List.getD_eq_getElem?_getD]
      have e2 : (bl ++ [g]).getD xs.length 0 = g := by rw [← hbl]; simp [List.getD_eq_getElem?_getD]
      rw [e1, e2]
      refine ⟨c, by rw [← hrl]; simp, hu.kept hg ?_⟩
      exact apart5 hu h.own (by decide)
  inc := by
    rw [List.pairwise_append]
    exact ⟨h.inc, by simp, fun a ha b hb => by simp at hb; subst hb; exact hnew a ha⟩
  low := h.low.grown hg h.low.size (fun q hq => (h.own.lt q hq).1)

theorem Pg5.done {w wr : World} {v : Value} {xs : List (List ByteArray)} {row : List Value} {bl : List Nat} (h : Pg5 w wr v xs row bl) (hm : xs.length ≤ maxLen) (hw : ∀ x ∈ xs, x.length ≤ maxLen ∧ ∀ y ∈ x, Wf .str y) :
    ∃ bs, OwnC wr (.sl (.sl .str)) xs [v] bs ∧ bs.Nodup ∧ ∀ b ∈ bs, w.heap.size ≤ b := by
  rcases h.own.2 with ⟨rfl, hn⟩ | ⟨g, cap, cur, rfl, hb, hg, hnc, hcm, hcs, htake⟩
  · have : xs = [] := List.eq_nil_of_length_eq_zero hn
    subst this
    exact ⟨[], ⟨_, rfl, by simp, .inl ⟨_, rfl, rfl, rfl⟩⟩, List.nodup_nil, fun b hb => by cases hb⟩
  · have hflat : (bl.map fun q => [q]).flatten = bl := by
      clear hb hg hnc hcm hcs htake
      induction bl with
      | nil => rfl
      | cons a l ih => exact congrArg (a :: ·) (by
          have : ∀ l : List Nat, (l.map fun q => [q]).flatten = l := fun l => by
            induction l with
            | nil => rfl
            | cons a l ih => simp [ih]
          exact this l)
    have hin : ∀ q ∈ bl, w.heap.size ≤ q ∧ q ≠ g := fun q hq => by
      obtain ⟨j, hj, rfl⟩ := List.mem_iff_getElem.1 hq
      have hbl := h.len
      obtain ⟨c, h1, h2⟩ := h.inn j (by omega)
      have e : bl.getD j 0 = bl[j] := getD_lt bl j 0 hj
      rw [e] at h2
      refine ⟨(h2.lt _ rfl).1, fun he => ?_⟩
      rcases apart5 h2 h.own (by decide) with h3 | h3
      · cases h3
      · exact h3 (by show some bl[j] = some g; rw [he])
    refine ⟨g :: bl, ⟨_, rfl, hm, .inr ⟨_, 0, cap, cur, _, (0, 0), bl.map fun q => [q], rfl, hnc, hcm, ?_, hg, ?_, by simpa using h.len, by rw [hflat], fun i x bi hx hbi => ?_⟩⟩, ?_, ?_⟩
    · show 0 + cap * 1 ≤ cur.size
      omega
    · exact ⟨fun j _ hj => by have := hj.2; omega, .inl rfl⟩
    · have hi := (List.getElem?_eq_some_iff.1 hx).1
      obtain ⟨c, h1, h2⟩ := h.inn i hi
      have hxe : xs.getD i [] = x := by rw [List.getD_eq_getElem?_getD, hx]; rfl
      have hbl := h.len
      have hbe : [bl.getD i 0] = bi := by
        rw [List.getElem?_map, List.getElem?_eq_getElem (by omega)] at hbi
        rw [getD_lt bl i 0 (by omega)]
        simpa using hbi
      subst hbe
      rw [hxe] at h1 h2
      refine ⟨[.slice (some ⟨bl.getD i 0, 0, none⟩) x.length c], rfl, fun j c' hj => ?_, _, rfl, ?_⟩
      · have hj0 : j = 0 := by have := (List.getElem?_eq_some_iff.1 hj).1; simp at this; omega
        subst hj0
        simp at hj
        subst hj
        rw [← htake, List.getElem?_take, if_pos (by omega)] at h1
        show cur[0 + i * 1 + 0]? = some _
        rw [show 0 + i * 1 + 0 = i by omega]
        simpa using h1
      · obtain ⟨hxm, hxw⟩ := hw x (List.mem_of_getElem? hx)
        rcases h2.2 with ⟨h', _⟩ | ⟨g', cap', cur', h', hb', hg', hnc', hcm', hcs', htake'⟩
        · simp at h'
        · simp only [Value.slice.injEq, Option.some.injEq, Addr.mk.injEq, and_true, true_and] at h'
          obtain ⟨h3, rfl⟩ := h'
          rw [← h3] at hg'
          refine ⟨hxm, .inr ⟨_, 0, _, cur', _, (0, 0), x.map fun _ => [], rfl, hnc', hcm', ?_, hg', ?_, by simp, ?_, fun k y bj hy hbj => ?_⟩⟩
          · show 0 + _ * 1 ≤ cur'.size
            omega
          · exact ⟨fun j _ hj => by have := hj.2; omega, .inl rfl⟩
          · have : (x.map fun _ => ([] : List Nat)).flatten = [] := by
              clear hx hxm hxw h1 h2 htake' hxe
              induction x with
              | nil => rfl
              | cons a l ih => simp
            rw [this]
          · have hk := (List.getElem?_eq_some_iff.1 hy).1
            have hbj' : bj = [] := by
              rw [List.getElem?_map, hy] at hbj
              simpa using hbj.symm
            subst hbj'
            refine ⟨[.string y], rfl, fun j c' hj => ?_, rfl, hxw y (List.mem_of_getElem? hy), rfl⟩
            have hj0 : j = 0 := by have := (List.getElem?_eq_some_iff.1 hj).1; simp at this; omega
            subst hj0
            simp at hj
            subst hj
            have e : (fcs .str x)[k]? = some (.string y) := by
              have : ∀ (x : List ByteArray) (k : Nat) (y : ByteArray), x[k]? = some y → (fcs .str x)[k]? = some (.string y) := by
                intro x
                induction x with
                | nil => intro k y h; simp at h
                | cons a l ih =>
                  intro k y h
                  have e : fcs .str (a :: l) = .string a :: fcs .str l := rfl
                  rw [e]
                  cases k with
                  | zero => simp at h; subst h; rfl
                  | succ k => simpa using ih k y (by simpa using h)
              exact this x k y hy
            rw [← htake', List.getElem?_take, if_pos (by omega)] at e
            show cur'[0 + k * 1 + 0]? = some _
            rw [show 0 + k * 1 + 0 = k by omega]
            simpa using e
    · exact List.nodup_cons.2 ⟨fun hm' => (hin g hm').2 rfl, h.inc.imp fun hlt => Nat.ne_of_lt hlt⟩
    · intro b hb'
      rcases List.mem_cons.1 hb' with rfl | hb'
      · exact hb
      · exact (hin b hb').1

def pg05 (h : Int) (x2 : ByteArray) (ps : List (List ByteArray)) : List (List ByteArray) := if ps.length = 0 ∨ ((ps.getD (ps.length - 1) []).length : Int) = h then ps ++ [[x2]] else ps
def st5 (h : Int) (x2 : ByteArray) (ps : List (List ByteArray)) (y : ByteArray) : List (List ByteArray) := (pg05 h x2 ps).set ((pg05 h x2 ps).length - 1) ((pg05 h x2 ps).getD ((pg05 h x2 ps).length - 1) [] ++ [y])
def g5_0 (x0 : List ByteArray) (x1 : Int) (x2 : ByteArray) : List (List ByteArray) := if g13_0 x0 = true then (if g14_0 x1 2 200 = true then (if g15_0 x2 = true then x0.foldl (st5 x1 x2) [] else []) else []) else []
def g5_1 (x0 : List ByteArray) (x1 : Int) (x2 : ByteArray) : Int := if g13_0 x0 = true then (if g14_0 x1 2 200 = true then (if g15_0 x2 = true then 0 else 2) else 2) else 1

theorem last5 {bl : List Nat} {k gg : Nat} (hk : bl.length = k + 1) (hi : bl.Pairwise (· < ·)) (hg : gg = bl.getD k 0 ∨ ∀ q ∈ bl, q < gg) : (bl.set k gg).Pairwise (· < ·) := by
  rcases List.eq_nil_or_concat bl with rfl | ⟨l, a, rfl⟩
  · simp at hk
  · rw [List.concat_eq_append] at *
    have hl : l.length = k := by simpa using hk
    subst hl
    have e1 : (l ++ [a]).set l.length gg = l ++ [gg] := by simp
    have e2 : (l ++ [a]).getD l.length 0 = a := by simp [List.getD_eq_getElem?_getD]
    rw [e1]
    rw [e2] at hg
    rw [List.pairwise_append] at hi ⊢
    refine ⟨hi.1, by simp, fun x hx y hy => ?_⟩
    simp at hy
    subst hy
    have h1 := hi.2.2 x hx a (by simp)
    rcases hg with rfl | hg
    · exact h1
    · exact hg x (by simp [hx])

theorem Pg5.put {w wr w1 : World} {G cap : Nat} {xs : List (List ByteArray)} {row : List Value} {bl : List Nat} {k gg c' : Nat} {y : ByteArray} (h : Pg5 w wr (.slice (some ⟨G, 0, none⟩) xs.length cap) xs row bl) (hk : xs.length = k + 1)
    (hg : wr.grownBy w1 (some (bl.getD k 0))) (ho : w1.ownsRow w.heap.size 9 1 (.slice (some ⟨gg, 0, none⟩) ((xs.getD k []).length + 1) c') ((xs.getD k []).length + 1) (fcs .str (xs.getD k []) ++ [.string y]))
    (hgg : gg = bl.getD k 0 ∨ ∀ q ∈ bl, q < gg) :
    Pg5 w (w1.setCell ⟨G, k, none⟩ (.slice (some ⟨gg, 0, none⟩) ((xs.getD k []).length + 1) c')) (.slice (some ⟨G, 0, none⟩) xs.length cap) (xs.set k (xs.getD k [] ++ [y])) (row.set k (.slice (some ⟨gg, 0, none⟩) ((xs.getD k []).length + 1) c')) (bl.set k gg) := by
  have hbl := h.len
  have hrl : row.length = xs.length := by have := h.own.1; omega
  obtain ⟨c0, i1, i2⟩ := h.inn k (by omega)
  have hgne : (Value.slice (some ⟨G, 0, none⟩) xs.length cap).ownBlock = none ∨ (Value.slice (some ⟨G, 0, none⟩) xs.length cap).ownBlock ≠ some (bl.getD k 0) := apart5 h.own i2 (by decide)
  have o1 := h.own.kept hg hgne
  obtain ⟨o2, g2⟩ := o1.stored k (.slice (some ⟨gg, 0, none⟩) ((xs.getD k []).length + 1) c')
  have el : (xs.set k (xs.getD k [] ++ [y])).length = xs.length := by simp
  have ef : fcs .str (xs.getD k [] ++ [y]) = fcs .str (xs.getD k []) ++ [.string y] := by unfold fcs; simp [fcells]
  refine ⟨by rw [el]; exact o2, by simp [hbl], fun j hj => ?_, last5 (by omega) h.inc hgg, (h.low.grown hg h.low.size (fun q hq => by cases hq; exact (i2.lt _ rfl).1)).grown g2 (Nat.le_trans h.low.size hg.size) (fun q hq => by cases hq; exact (h.own.lt _ rfl).1)⟩
  rw [el] at hj
  by_cases hjk : j = k
  · subst hjk
    have e1 : (xs.set j (xs.getD j [] ++ [y])).getD j [] = xs.getD j [] ++ [y] := by rw [List.getD_eq_getElem?_getD, List.getElem?_set_self hj]; rfl
    have e2 : (bl.set j gg).getD j 0 = gg := by rw [List.getD_eq_getElem?_getD, List.getElem?_set_self (by omega)]; rfl
    rw [e1, e2, List.length_append, List.length_singleton, ef]
    refine ⟨c', by rw [List.getElem?_set_self (by omega)], ho.kept g2 ?_⟩
    exact apart5 ho o1 (by decide)
  · obtain ⟨c, h1, h2⟩ := h.inn j hj
    have e1 : (xs.set k (xs.getD k [] ++ [y])).getD j [] = xs.getD j [] := by rw [List.getD_eq_getElem?_getD, List.getElem?_set_ne (fun e => hjk e.symm), List.getD_eq_getElem?_getD]
    have e2 : (bl.set k gg).getD j 0 = bl.getD j 0 := by rw [List.getD_eq_getElem?_getD, List.getElem?_set_ne (fun e => hjk e.symm), List.getD_eq_getElem?_getD]
    rw [e1, e2]
    have hne : bl.getD j 0 ≠ bl.getD k 0 := by
      rw [getD_lt bl j 0 (by omega), getD_lt bl k 0 (by omega)]
      have hp := List.pairwise_iff_getElem.1 h.inc
      rcases Nat.lt_or_gt_of_ne hjk with hlt | hgt
      · exact Nat.ne_of_lt (hp j k (by omega) (by omega) hlt)
      · exact fun e => Nat.ne_of_lt (hp k j (by omega) (by omega) hgt) e.symm
    have h3 := h2.kept hg (.inr (by show some (bl.getD j 0) ≠ some (bl.getD k 0); simpa using hne))
    refine ⟨c, by rw [List.getElem?_set_ne (fun e => hjk e.symm)]; exact h1, h3.kept g2 (apart5 h3 o1 (by decide))⟩

theorem form5 {w : World} {lo : Nat} {e : TypeId} {v : Value} {n : Nat} {xs : List Value} (h : w.ownsRow lo e 1 v n xs) : ∃ ad cap, v = .slice ad n cap ∧ (0 < n → ∃ G, ad = some ⟨G, 0, none⟩) := by
  rcases h.2 with ⟨rfl, rfl⟩ | ⟨g, cap, cur, rfl, _⟩
  · exact ⟨none, 0, rfl, fun h => absurd h (by decide)⟩
  · exact ⟨_, cap, rfl, fun _ => ⟨g, rfl⟩⟩
theorem val5 (W : World) (x0 : List ByteArray) (v : Value) (hgo : GOk W []) (ha : SlAt W (Am.Good W []) (RepC W (Am.Good W []) .str) 1 x0 v) :
    Calls Try.prog 13 #[v] W fun e w' => e = .returned (.bool (g13_0 x0)) ∧ Below W.heap.size W w' := by
  have h := con13.down rfl W (x0, ()) [v] [[]] hgo trivial ⟨v, [], [], [], rfl, rfl, ⟨rfl, ha⟩, rfl, rfl⟩ (by simp)
  refine h.mono ?_
  rintro e w' ⟨rs, ubs, rbs, rfl, hk, ⟨u, s, b1, bs1, cs, rfl, rfl, ho, hv, rfl, rfl⟩, _⟩
  obtain ⟨ho, _⟩ := ho
  have hv : cs = [u] := hv
  rw [ho] at hv
  cases hv
  exact ⟨rfl, hk.below⟩

theorem wit5 (W : World) (a : Int) (hgo : GOk W []) (ha : InR .i64 a) :
    Calls Try.prog 14 #[.int .i64 a, .int .i64 2, .int .i64 200] W fun e w' => e = .returned (.bool (g14_0 a 2 200)) ∧ Below W.heap.size W w' := by
  have h := con14.down rfl W (a, 2, 200, ()) [.int .i64 a, .int .i64 2, .int .i64 200] [[], [], []] hgo trivial ⟨_, _, _, _, rfl, rfl, ⟨rfl, rfl, ha⟩, _, _, _, _, rfl, rfl, ⟨rfl, rfl, show InR .i64 2 by rw [i64_iff]; omega⟩, _, _, _, _, rfl, rfl, ⟨rfl, rfl, show InR .i64 200 by rw [i64_iff]; omega⟩, rfl, rfl⟩ (by simp)
  refine h.mono ?_
  rintro e w' ⟨rs, ubs, rbs, rfl, hk, ⟨u, s, b1, bs1, cs, rfl, rfl, ho, hv, rfl, rfl⟩, _⟩
  obtain ⟨ho, _⟩ := ho
  have hv : cs = [u] := hv
  rw [ho] at hv
  cases hv
  exact ⟨rfl, hk.below⟩

theorem lin5 (W : World) (a : ByteArray) (hgo : GOk W []) (ha : a.size ≤ maxLen) :
    Calls Try.prog 15 #[.string a] W fun e w' => e = .returned (.bool (g15_0 a)) ∧ Below W.heap.size W w' := by
  have h := con15.down rfl W (a, ()) [.string a] [[]] hgo trivial ⟨_, _, _, _, rfl, rfl, ⟨rfl, rfl, ha⟩, rfl, rfl⟩ (by simp)
  refine h.mono ?_
  rintro e w' ⟨rs, ubs, rbs, rfl, hk, ⟨u, s, b1, bs1, cs, rfl, rfl, ho, hv, rfl, rfl⟩, _⟩
  obtain ⟨ho, _⟩ := ho
  have hv : cs = [u] := hv
  rw [ho] at hv
  cases hv
  exact ⟨rfl, hk.below⟩

theorem gok5 {w W : World} (h : GOk w []) (hb : Below w.heap.size w W) : GOk W [] where
  inv := h.inv.keep fun b _ hs => hb.5 b hs
  size := Nat.le_trans h.size hb.4
  out := h.out

set_option maxHeartbeats 4000000 in
theorem bad15 (w : World) (x0 : List ByteArray) (v : Value) (x1 : Int) (x2 : ByteArray) (hgo : GOk w []) (ha : SlAt w (Am.Good w []) (RepC w (Am.Good w []) .str) 1 x0 v) (h1 : g13_0 x0 = false) :
    Calls Try.prog 5 #[v, .int .i64 x1, .string x2] w fun e w' => e = .returned (.tuple #[.slice none 0 0, .int .i64 1]) ∧ Below w.heap.size w w' := by
  have HA : Aside (SlAt w (Am.Good w []) (RepC w (Am.Good w []) .str) 1 x0 v) := ha
  clear ha
  have mixed := mixed
  go_enter Try.func5, Try.ntmps5
  go_wp2_with (go_at_call 13; refine (val5 _ x0 _ hgo HA.out).mono ?_; rintro e w1 ⟨rfl, b1⟩; rw [h1])
  go_ret2
  exact ⟨rfl, b1⟩

set_option maxHeartbeats 4000000 in
theorem bad25 (w : World) (x0 : List ByteArray) (v : Value) (x1 : Int) (x2 : ByteArray) (hgo : GOk w []) (ha : SlAt w (Am.Good w []) (RepC w (Am.Good w []) .str) 1 x0 v) (h1 : g13_0 x0 = true) (hi : InR .i64 x1) (h2 : g14_0 x1 2 200 = false) :
    Calls Try.prog 5 #[v, .int .i64 x1, .string x2] w fun e w' => e = .returned (.tuple #[.slice none 0 0, .int .i64 2]) ∧ Below w.heap.size w w' := by
  have HA : Aside (SlAt w (Am.Good w []) (RepC w (Am.Good w []) .str) 1 x0 v) := ha
  clear ha
  have mixed := mixed
  go_enter Try.func5, Try.ntmps5
  go_wp2_with (go_at_call 13; refine (val5 _ x0 _ hgo HA.out).mono ?_; rintro e w1 ⟨rfl, b1⟩; rw [h1])
  go_wp2_with (go_at_call 14; refine (wit5 _ x1 (gok5 hgo b1) hi).mono ?_; rintro e w2 ⟨rfl, b2⟩; rw [h2])
  go_ret2
  exact ⟨rfl, b1.trans (b2.mono b1.size)⟩

set_option maxHeartbeats 4000000 in
theorem bad35 (w : World) (x0 : List ByteArray) (v : Value) (x1 : Int) (x2 : ByteArray) (hgo : GOk w []) (ha : SlAt w (Am.Good w []) (RepC w (Am.Good w []) .str) 1 x0 v) (h1 : g13_0 x0 = true) (hi : InR .i64 x1) (h2 : g14_0 x1 2 200 = true)
    (hs : x2.size ≤ maxLen) (h3 : g15_0 x2 = false) :
    Calls Try.prog 5 #[v, .int .i64 x1, .string x2] w fun e w' => e = .returned (.tuple #[.slice none 0 0, .int .i64 2]) ∧ Below w.heap.size w w' := by
  have HA : Aside (SlAt w (Am.Good w []) (RepC w (Am.Good w []) .str) 1 x0 v) := ha
  clear ha
  have mixed := mixed
  go_enter Try.func5, Try.ntmps5
  go_wp2_with (go_at_call 13; refine (val5 _ x0 _ hgo HA.out).mono ?_; rintro e w1 ⟨rfl, b1⟩; rw [h1])
  go_wp2_with (go_at_call 14; refine (wit5 _ x1 (gok5 hgo b1) hi).mono ?_; rintro e w2 ⟨rfl, b2⟩; rw [h2])
  go_wp2_with (go_at_call 15; refine (lin5 _ x2 (gok5 (gok5 hgo b1) b2) hs).mono ?_; rintro e w3 ⟨rfl, b3⟩; rw [h3])
  go_ret2
  exact ⟨rfl, (b1.trans (b2.mono b1.size)).trans (b3.mono (Nat.le_trans b1.size b2.size))⟩

theorem Pg5.lt {w wr : World} {v : Value} {xs : List (List ByteArray)} {row : List Value} {bl : List Nat} (h : Pg5 w wr v xs row bl) : ∀ q ∈ bl, q < wr.heap.size := fun q hq => by
  obtain ⟨j, hj, rfl⟩ := List.mem_iff_getElem.1 hq
  have hbl := h.len
  obtain ⟨c, h1, h2⟩ := h.inn j (by omega)
  have e : bl.getD j 0 = bl[j] := getD_lt bl j 0 hj
  rw [e] at h2
  exact (h2.lt _ rfl).2

theorem gb5 {w W : World} (h : Below w.heap.size w W) : w.grownBy W none := ⟨h.1, h.2, h.3, h.4, fun q hq _ => h.5 q hq⟩

theorem app5 (hinfo : TIOk Try.prog 24 (tabGet tab 24)) {wr : World} (base : Nat) {v : Value} {n : Nat} {xs : List Value} (ho : wr.ownsRow base 22 1 v n xs) (b' off' cap' : Nat) {m : Nat} (news : List Value) (hl : news.length = m * 1) (hc : ∀ j u, news[j]? = some u → wr.cell? ⟨b', off' + j, none⟩ = some u) (h1 : ∀ u ∈ news, u.oneCell' = true) (hnm : n + m ≤ 1048576) (hbase : base ≤ wr.heap.size)
    {ops : Array Oper} {rest : List Oper} {o : Oper} {a : Act} {Q : Exit → Act → World → Prop} {s x : Operand} (hgd : o.guard = none) (hop : o.op = .call { callee := .builtin .append, args := #[s, x], argTypes := #[24, 24] }) (hs : a.eval s = v) (hx : a.eval x = .slice (some ⟨b', off', none⟩) m cap')
    (h : ∀ v' w', w'.ownsRow base 22 1 v' (n + m) (xs ++ news) → wr.grownBy w' v.ownBlock → wpList Try.prog ops Q rest (a.put o.dst v') w') : wpList Try.prog ops Q (o :: rest) a wr := by
  obtain ⟨_, _, ⟨_, ⟨i0, hi0, hz1, z, hz0, hzs, _⟩⟩, hby⟩ := hinfo
  rw [hi0] at hby
  simp only [Option.map_some, Option.some.injEq] at hby
  have hzs' : z.cells.size = 1 := by rw [← Array.length_toList, hzs]; rfl
  have hb16 : i0.bytes = 24 := hby
  refine wpList_append_own _ hgd s x 24 hop base 22 i0 z 1 i0.bytes Try.underlying24 hi0 hz0 hz1 rfl hzs' (by decide) v n xs hs ho ⟨b', off', none⟩ m cap' news hx hl (fun j u hj => by rw [Addr.add_lit]; exact hc j u hj) h1 (by unfold maxLen; omega) (by rw [hb16]; omega) hbase (fun v' w' h1 h2 _ => h v' w' h1 h2)

theorem fcsget5 : ∀ (x : List ByteArray) (j : Nat), (fcs .str x)[j]? = (x[j]?).map .string
  | [], j => by simp [fcs]
  | a :: l, 0 => rfl
  | a :: l, j + 1 => by
    have e : fcs .str (a :: l) = .string a :: fcs .str l := rfl
    rw [e]
    simpa using fcsget5 l j

theorem nil5 {w wr : World} (h : Below w.heap.size w wr) : Pg5 w wr (.slice none 0 0) [] [] [] where
  own := World.ownsRow_nil wr _ _ _
  len := rfl
  inn := fun j hj => by simp at hj
  inc := List.Pairwise.nil
  low := h


theorem gal5 {w w1 : World} {o : Obj} {row : Option Nat} (h : ((w.alloc o).drew).grownBy w1 row) : w.grownBy w1 row :=
  ⟨h.os, h.tape, h.output, Nat.le_trans (show w.heap.size ≤ (w.alloc o).heap.size by simp) h.size, fun q hq hr => (h.block q (Nat.lt_of_lt_of_le hq (show w.heap.size ≤ (w.alloc o).heap.size by simp)) hr).trans (Below.heap_alloc _ _ _ hq)⟩

theorem fx5 {w wr : World} {G cp m : Nat} {ps : List (List ByteArray)} {row : List Value} {bl : List Nat} (h : Pg5 w wr (.slice (some ⟨G, 0, none⟩) ps.length cp) ps row bl) (hm : ps.length = m + 1) (y : ByteArray) :
    ∃ g L c0 xs0, wr.cell? ⟨G, m, none⟩ = some (.slice (some ⟨g, 0, none⟩) L c0) ∧ L = (ps.getD m []).length ∧ G < wr.heap.size ∧ Aside (wr.ownsRow w.heap.size 9 1 (.slice (some ⟨g, 0, none⟩) L c0) L xs0) ∧
      Aside (∀ o w1, ((wr.alloc o).drew).grownBy w1 (some g) → w1.frozen? ⟨G, m, none⟩ = false ∧ w1.cell? ⟨G, m, none⟩ = some (.slice (some ⟨g, 0, none⟩) L c0)) ∧
      Aside (∀ o w1 gg c1, ((wr.alloc o).drew).grownBy w1 (some g) → w1.ownsRow w.heap.size 9 1 (.slice (some ⟨gg, 0, none⟩) (L + 1) c1) (L + 1) (xs0 ++ [.string y]) → (some g = some gg ∨ gg = wr.heap.size + 1) →
        ∃ row' bl', Pg5 w (w1.setCell ⟨G, m, none⟩ (.slice (some ⟨gg, 0, none⟩) (L + 1) c1)) (.slice (some ⟨G, 0, none⟩) (m + 1) cp) (ps.set m (ps.getD m [] ++ [y])) row' bl') := by
  obtain ⟨c0, i1, i2⟩ := h.inn m (by omega)
  refine ⟨bl.getD m 0, _, c0, _, ?_, rfl, (h.own.lt _ rfl).2, i2, fun o w1 hg => ?_, fun o w1 gg c1 hg ho hat => ?_⟩
  · rw [h.own.cellAt m (by omega)]
    exact i1
  · have h' := (World.ownsRow.drew (World.ownsRow.alloc h.own o)).kept hg (apart5 h.own i2 (by decide))
    exact ⟨h'.frozenAt m, (h'.cellAt m (by omega)).trans i1⟩
  · have hlt := h.lt
    refine ⟨_, _, hm ▸ h.put hm (gal5 hg) ho ?_⟩
    rcases hat with he | rfl
    · exact .inl (Option.some.inj he).symm
    · exact .inr fun q hq => by have := hlt q hq; omega

theorem lit5 (w wr : World) (hb : w.heap.size ≤ wr.heap.size) (x : ByteArray) (o : Obj) : ((wr.alloc (.cells #[.string x] 9)).alloc o).ownsRow w.heap.size 9 1 (.slice (some ⟨wr.heap.size, 0, none⟩) 1 1) 1 [.string x] :=
  World.ownsRow.alloc (World.ownsRow_lit (base := w.heap.size) wr #[.string x] 1 hb (by decide) rfl) o

theorem nw5 {w wr wq : World} {u v' : Value} {ps : List (List ByteArray)} {row : List Value} {bl : List Nat} (h : Pg5 w wr u ps row bl) (x2 y : ByteArray) (n : Nat) (hn : ps.length = n) (hown : wq.ownsRow w.heap.size 22 1 v' (n + 1) (row ++ [.slice (some ⟨wr.heap.size, 0, none⟩) 1 1]))
    (hgrow : ((wr.alloc (.cells #[.string x2] 9)).alloc (.cells #[.slice (some ⟨wr.heap.size, 0, none⟩) 1 1] 22)).grownBy wq u.ownBlock) :
    ∃ G cp g c0 xs0, v' = .slice (some ⟨G, 0, none⟩) (n + 1) cp ∧ wq.cell? ⟨G, n, none⟩ = some (.slice (some ⟨g, 0, none⟩) 1 c0) ∧ G < wq.heap.size ∧ Aside (wq.ownsRow w.heap.size 9 1 (.slice (some ⟨g, 0, none⟩) 1 c0) 1 xs0) ∧
      Aside (∀ o w1, ((wq.alloc o).drew).grownBy w1 (some g) → w1.frozen? ⟨G, n, none⟩ = false ∧ w1.cell? ⟨G, n, none⟩ = some (.slice (some ⟨g, 0, none⟩) 1 c0)) ∧
      Aside (∀ o w1 gg c1, ((wq.alloc o).drew).grownBy w1 (some g) → w1.ownsRow w.heap.size 9 1 (.slice (some ⟨gg, 0, none⟩) (1 + 1) c1) (1 + 1) (xs0 ++ [.string y]) → (some g = some gg ∨ gg = wq.heap.size + 1) →
        ∃ row' bl', Pg5 w (w1.setCell ⟨G, n, none⟩ (.slice (some ⟨gg, 0, none⟩) (1 + 1) c1)) (.slice (some ⟨G, 0, none⟩) (n + 1) cp) ((ps ++ [[x2]]).set n [x2, y]) row' bl') ∧ Below w.heap.size w wq := by
  subst hn
  have lowB : Below wr.heap.size wr ((wr.alloc (.cells #[.string x2] 9)).alloc (.cells #[.slice (some ⟨wr.heap.size, 0, none⟩) 1 1] 22)) := ((Below.refl _ wr).alloc (Nat.le_refl _) _).alloc (by simp) _
  have hB := h.keep (gb5 lowB)
  have hp := hB.push (x := [x2]) (g := wr.heap.size) (c := 1) (lit5 w wr h.low.size x2 _) h.lt hown hgrow
  obtain ⟨ad, cp, rfl, hG⟩ := form5 hown
  obtain ⟨G, rfl⟩ := hG (by omega)
  have el : (ps ++ [[x2]]).length = ps.length + 1 := by simp
  have eg : (ps ++ [[x2]]).getD ps.length [] = [x2] := by simp [List.getD_eq_getElem?_getD]
  rw [← el] at hp
  obtain ⟨g, L, c0, xs0, p1, hL, hGl, HO, HFZ, HNX⟩ := fx5 hp el y
  rw [eg] at hL HNX
  have hL : L = 1 := hL
  subst hL
  exact ⟨G, cp, g, c0, xs0, rfl, p1, hGl, HO, HFZ, HNX, hp.low⟩

set_option maxHeartbeats 8000000 in
theorem walk5 (w : World) (x0 : List ByteArray) (ad0 : Option Addr) (cap : Nat) (x1 : Int) (x2 : ByteArray) (hgo : GOk w []) (ha : SlAt w (Am.Good w []) (RepC w (Am.Good w []) .str) 1 x0 (.slice ad0 x0.length cap))
    (h1 : g13_0 x0 = true) (hi : InR .i64 x1) (h2 : g14_0 x1 2 200 = true) (hs : x2.size ≤ maxLen) (h3 : g15_0 x2 = true) (hx1 : 2 ≤ x1 ∧ x1 ≤ 200) (hl : x0.length ≤ 1000) (hcap : x0.length ≤ cap) (hcm : cap ≤ maxLen)
    (hc : ∀ i, i < x0.length → ∃ b off, ad0 = some ⟨b, off, none⟩ ∧ b < w.heap.size ∧ w.cell? ⟨b, off + i, none⟩ = some (.string (x0.getD i ByteArray.empty))) :
    Calls Try.prog 5 #[.slice ad0 x0.length cap, .int .i64 x1, .string x2] w fun e w' => ∃ v row bl, e = .returned (.tuple #[v, .int .i64 0]) ∧ Pg5 w w' v (x0.foldl (st5 x1 x2) []) row bl := by
  have HA : Aside (SlAt w (Am.Good w []) (RepC w (Am.Good w []) .str) 1 x0 (.slice ad0 x0.length cap)) := ha
  have HC : Aside (∀ i, i < x0.length → ∃ b off, ad0 = some ⟨b, off, none⟩ ∧ b < w.heap.size ∧ w.cell? ⟨b, off + i, none⟩ = some (.string (x0.getD i ByteArray.empty))) := hc
  clear ha hc
  have mixed := mixed
  have hcm' : cap ≤ 9223372036854775807 := hcm
  go_enter Try.func5, Try.ntmps5
  go_wp2_with (go_at_call 13; refine (val5 _ x0 _ hgo HA.out).mono ?_; rintro e w1 ⟨rfl, b1⟩; rw [h1])
  go_wp2_with (go_at_call 14; refine (wit5 _ _ (gok5 hgo b1) hi).mono ?_; rintro e w2 ⟨rfl, b2⟩; rw [h2])
  go_wp2_with (go_at_call 15; refine (lin5 _ x2 (gok5 (gok5 hgo b1) b2) hs).mono ?_; rintro e w3 ⟨rfl, b3⟩; rw [h3])
  have bb : Below w.heap.size w w3 := (b1.trans (b2.mono b1.size)).trans (b3.mono (Nat.le_trans b1.size b2.size))
  clear b1 b2 b3
  go_loopw [9, 8] (fun i v wr => ∃ (k : Nat) (row : List Value) (bl : List Nat), k ≤ x0.length ∧ i = .int .i64 (k : Nat) ∧ Pg5 w wr v ((x0.take k).foldl (st5 x1 x2) []) row bl ∧ ((x0.take k).foldl (st5 x1 x2) []).length ≤ k ∧ ∀ r ∈ (x0.take k).foldl (st5 x1 x2) [], (r.length : Int) ≤ x1) (fun i _ _ => x0.length - (intOf i).toNat)
  case atStart => exact ⟨0, [], [], Nat.zero_le _, rfl, ⟨World.ownsRow_lit (base := w.heap.size) w3 #[] 0 bb.size (by simp) rfl, rfl, fun j hj => by simp at hj, List.Pairwise.nil, bb.alloc bb.size _⟩, by simp, by simp⟩
  case round =>
    obtain ⟨k, row, bl, hk, rfl, hp, hpl, hpr⟩ := hrel
    have HP : Aside (Pg5 w wr u8 ((x0.take k).foldl (st5 x1 x2) []) row bl) := hp
    have bl0 := hp.low
    obtain ⟨ad, cp, rfl, hG⟩ := form5 hp.own
    clear hp
    by_cases hlt : k < x0.length
    · obtain ⟨b, off, rfl, hb, hcell⟩ := HC.out k hlt
      have p2 : wr.cell? ⟨b, off + k, none⟩ = some (.string (x0.getD k ByteArray.empty)) := (World.cell?_of_block (bl0.block b hb)).trans hcell
      have HS : Aside ((x0.take (k + 1)).foldl (st5 x1 x2) [] = st5 x1 x2 ((x0.take k).foldl (st5 x1 x2) []) (x0.getD k ByteArray.empty)) := by
        show _ = _
        rw [List.take_add_one, List.foldl_append, List.getD_eq_getElem?_getD, List.getElem?_eq_getElem hlt]
        rfl
      have HY0 : Aside (w.cell? ⟨b, off + k, none⟩ = some (.string (x0.getD k ByteArray.empty))) := hcell
      clear hcell
      generalize (x0.take k).foldl (st5 x1 x2) [] = ps at *
      generalize x0.getD k ByteArray.empty = y at *
      have hinfo : TIOk Try.prog 22 (tabGet tab 22) := tabOk 22
      obtain ⟨_, _, ⟨_, ⟨i0, hi0, hz1, z, hz0, hzs, _⟩⟩, hby⟩ := hinfo
      rw [hi0] at hby
      simp only [Option.map_some, Option.some.injEq] at hby
      have hz2 : i0.bytes = 16 := hby
      have hzz : z.cells.size = 1 := by rw [← Array.length_toList, hzs]; rfl
      have HI : Aside (TIOk Try.prog 24 (tabGet tab 24)) := tabOk 24
      clear hby hzs
      by_cases hB : ps.length ≠ 0 ∧ ((ps.getD (ps.length - 1) []).length : Int) ≠ x1
      · obtain ⟨hz, hh⟩ := hB
        obtain ⟨m, hm⟩ : ∃ m, ps.length = m + 1 := ⟨ps.length - 1, by omega⟩
        obtain ⟨G, rfl⟩ := hG (by omega)
        obtain ⟨g, L, c0, xs0, p1, hL, hGl, HO, HFZ, HNX⟩ := fx5 HP.out hm y
        have hpg : pg05 x1 x2 ps = ps := by
          unfold pg05
          rw [if_neg (by omega)]
        rw [show ps.length - 1 = m by omega, ← hL] at hh
        have HST : Aside (st5 x1 x2 ps y = ps.set m (ps.getD m [] ++ [y])) := by
          show _ = _
          unfold st5
          rw [hpg, show ps.length - 1 = m by omega]
        have hLx : (L : Int) ≤ x1 := by rw [hL]; exact hpr _ (mem_getD ps m [] (by omega))
        have HPR : Aside (∀ r ∈ ps.set m (ps.getD m [] ++ [y]), (r.length : Int) ≤ x1) := fun r hr => by
          rcases List.mem_or_eq_of_mem_set hr with hr | rfl
          · exact hpr r hr
          · rw [List.length_append, List.length_singleton, ← hL]; omega
        have HN : Aside (ps.length = m + 1) := hm
        rw [hm]
        have hmk : m + 1 ≤ k := by omega
        have hb0 : ((m : Int) + 1 == 0) = false := by simp; omega
        have hb1 : ((L : Int) == x1) = false := by simpa using hh
        have hL3 : L ≤ 200 := by omega
        have hbl1 : b < wr.heap.size := Nat.lt_of_lt_of_le hb bl0.size
        have hsz := bl0.size
        clear hz hm hpl hL hpg hpr hh
        go_wp2
        have hq1 : IntKind.i64.wrap ((m : Int) + 1 - 1) = (m : Int) := by rw [IntKind.wrap_i64]; omega
        have hq7 : IntKind.i64.wrap (m : Int) = (m : Int) := by rw [IntKind.wrap_i64]; omega
        have hq8 : ((m : Int)).toNat = m := by simp
        have hq2 : (0 : Int) ≤ (m : Int) := by omega
        have hq3 : (m : Int) < ((m + 1 : Nat) : Int) := by omega
        have hq4 : (m : Int) < (m : Int) + 1 := by omega
        have hq5 : (0 : Int) ≤ (k : Int) := by omega
        have hq6 : (k : Int) < (x0.length : Int) := by omega
        go_region_law (refine step_append_lies _ (by rfl) _ _ _ (by rfl) w.heap.size 9 i0 _ 1 16 Try.underlying22 hi0 hz0 hz1 hz2 hzz (by omega) (.slice (some ⟨g, 0, none⟩) L c0) L xs0 (by rfl) (World.ownsRow.drew (World.ownsRow.alloc HO.out _)) ⟨wr.heap.size, 0, none⟩ 1 1 [.string y] (by rfl) (by rfl) (World.news_of_block (cs := #[.string y]) (t := 9) (fr := (0, 0)) (heap_alloc_new wr _)) (by simp [Value.oneCell']) (by omega) (by unfold maxLen; omega) (by omega) (by have := hsz; simp; omega) (wr.heap.size + 1) (by simp) ?_; intro gg cap1 w1 hown1 hgrow hat hlt1; obtain ⟨hfz, hcz⟩ := HFZ.out _ w1 hgrow)
        all_goals go_wp2
        all_goals (obtain ⟨row', bl', hnx⟩ := HNX.out _ w1 gg cap1 hgrow hown1 hat)
        all_goals (refine ⟨⟨k + 1, row', bl', by omega, by simp, ?_, ?_, ?_⟩, by simp [intOf]; omega⟩)
        all_goals (first | (rw [HS.out, HST.out]; exact hnx) | (rw [HS.out, HST.out, List.length_set, HN.out]; omega) | (rw [HS.out, HST.out]; exact HPR.out))
      · obtain ⟨n, hn⟩ : ∃ n, ps.length = n := ⟨_, rfl⟩
        rw [hn] at HP hG
        rw [hn]
        by_cases hz : n = 0
        · subst hz
          have hpg : pg05 x1 x2 ps = ps ++ [[x2]] := by
            unfold pg05
            rw [if_pos (by omega)]
          have el : (ps ++ [[x2]]).length - 1 = ps.length := by simp
          have eg : (ps ++ [[x2]]).getD ps.length [] = [x2] := by simp [List.getD_eq_getElem?_getD]
          have HST : Aside (st5 x1 x2 ps y = (ps ++ [[x2]]).set ps.length [x2, y]) := by
            show _ = _
            unfold st5
            rw [hpg, el, eg]
            rfl
          have HPR : Aside (∀ r ∈ (ps ++ [[x2]]).set ps.length [x2, y], (r.length : Int) ≤ x1) := fun r hr => by
            rcases List.mem_or_eq_of_mem_set hr with hr | rfl
            · rcases List.mem_append.1 hr with hr | hr
              · exact hpr r hr
              · simp at hr; subst hr; simp; omega
            · simp; omega
          have HY0 : Aside (w.cell? ⟨b, off + k, none⟩ = some (.string y)) := HY0.out
          have hsz := bl0.size
          have HH : Aside (((wr.alloc (Obj.cells #[Value.string x2] 9)).alloc (Obj.cells #[Value.slice (some ⟨wr.heap.size, 0, none⟩) 1 1] 22)).heap[wr.heap.size + 1]? = some (.cells #[.slice (some ⟨wr.heap.size, 0, none⟩) 1 1] 22)) := by
            have e : (wr.alloc (Obj.cells #[Value.string x2] 9)).heap.size = wr.heap.size + 1 := by simp
            have := heap_alloc_new (wr.alloc (Obj.cells #[Value.string x2] 9)) (.cells #[.slice (some ⟨wr.heap.size, 0, none⟩) 1 1] 22)
            rw [e] at this
            exact this
          have HPB : Aside (Pg5 w ((wr.alloc (Obj.cells #[Value.string x2] 9)).alloc (Obj.cells #[Value.slice (some ⟨wr.heap.size, 0, none⟩) 1 1] 22)) (.slice ad 0 cp) ps row bl) := HP.out.keep (gb5 (((Below.refl _ wr).alloc (Nat.le_refl _) _).alloc (by simp) _))
          have HNW : Aside (∀ v' wq, wq.ownsRow w.heap.size 22 1 v' (0 + 1) (row ++ [.slice (some ⟨wr.heap.size, 0, none⟩) 1 1]) → ((wr.alloc (.cells #[.string x2] 9)).alloc (.cells #[.slice (some ⟨wr.heap.size, 0, none⟩) 1 1] 22)).grownBy wq (Value.slice ad 0 cp).ownBlock → _) := fun v' wq h1 h2 => nw5 HP.out x2 y (0) hn h1 h2
          have HN : Aside (ps.length = 0) := hn
          have hnk : 0 ≤ k := by omega
          rw [hn] at HST HPR
          clear hpg el eg hpr hB
          go_wp2_with (at_builtin; refine app5 HI.out w.heap.size HPB.out.own (wr.heap.size + 1) 0 1 [.slice (some ⟨wr.heap.size, 0, none⟩) 1 1] rfl (fun j u hj => by
                rcases j with _ | j
                · simp at hj; subst hj
                  unfold World.cell?
                  rw [show ((wr.alloc (Obj.cells #[Value.string x2] 9)).alloc (Obj.cells #[Value.slice (some ⟨wr.heap.size, 0, none⟩) 1 1] 22)).heap[(⟨wr.heap.size + 1, 0 + 0, none⟩ : Addr).block]? = _ from HH.out]
                  rfl
                · simp at hj) (by simp [Value.oneCell']) (by omega) (by have := hsz; simp; omega) rfl rfl rfl rfl ?_; intro v' wq hown hgrow; obtain ⟨G', cp', g, c0, xs0, rfl, p1', hGl, HO, HFZ, HNX, blq⟩ := HNW.out v' wq (by have h := hown; rw [HN.out] at h; exact h) hgrow; have p2' : wq.cell? ⟨b, off + k, none⟩ = some (.string y) := (World.cell?_of_block (blq.block b hb)).trans HY0.out; have hsz' : w.heap.size ≤ wq.heap.size := blq.size)
          clear hsz
          have hsz := hsz'
          have hbl1 : b < wq.heap.size := Nat.lt_of_lt_of_le hb hsz
          have hq1 : IntKind.i64.wrap 0 = 0 := by decide
          have hq5 : (0 : Int) ≤ (k : Int) := by omega
          have hq6 : (k : Int) < (x0.length : Int) := by omega
          go_region_law (refine step_append_lies _ (by rfl) _ _ _ (by rfl) w.heap.size 9 i0 _ 1 16 Try.underlying22 hi0 hz0 hz1 hz2 hzz (by omega) (.slice (some ⟨g, 0, none⟩) 1 c0) 1 xs0 (by rfl) (World.ownsRow.drew (World.ownsRow.alloc HO.out _)) ⟨wq.heap.size, 0, none⟩ 1 1 [.string y] (by rfl) (by rfl) (World.news_of_block (cs := #[.string y]) (t := 9) (fr := (0, 0)) (heap_alloc_new wq _)) (by simp [Value.oneCell']) (by omega) (by unfold maxLen; omega) (by omega) (by have := hsz; simp; omega) (wq.heap.size + 1) (by simp) ?_; intro gg cap1 w1 hown1 hgrow hat hlt1; obtain ⟨hfz, hcz⟩ := HFZ.out _ w1 hgrow)
          all_goals go_wp2
          all_goals (obtain ⟨row', bl', hnx⟩ := HNX.out _ w1 gg cap1 hgrow hown1 hat)
          all_goals (refine ⟨⟨k + 1, row', bl', by omega, by simp, ?_, ?_, ?_⟩, by simp [intOf]; omega⟩)
          all_goals (first | (rw [HS.out, HST.out]; exact hnx) | (rw [HS.out, HST.out, List.length_set, List.length_append, List.length_singleton, HN.out]; omega) | (rw [HS.out, HST.out]; exact HPR.out))

        · obtain ⟨m, rfl⟩ : ∃ m, n = m + 1 := ⟨n - 1, by omega⟩
          obtain ⟨G, rfl⟩ := hG (by omega)
          obtain ⟨c00, i1, i2⟩ := HP.out.inn m (by omega)
          have ho : wr.ownsRow w.heap.size 22 1 (.slice (some ⟨G, 0, none⟩) (m + 1) cp) (m + 1) row := by
            have h := HP.out.own
            rw [hn] at h
            exact h
          have p1 : wr.cell? ⟨G, m, none⟩ = some (.slice (some ⟨bl.getD m 0, 0, none⟩) (ps.getD m []).length c00) := by
            rw [ho.cellAt m (by omega)]
            exact i1
          have hb0 : ((m : Int) + 1 == 0) = false := by simp; omega
          have hx : ((ps.getD m []).length : Int) = x1 := by
            by_cases hx : ((ps.getD m []).length : Int) = x1
            · exact hx
            · exact absurd ⟨by omega, by rw [hn]; exact hx⟩ hB
          have hb1 : (((ps.getD m []).length : Int) == x1) = true := by simpa using hx
          have hpp : ps.length = 0 ∨ ((ps.getD (ps.length - 1) []).length : Int) = x1 := .inr (by rw [hn]; exact hx)
          have hL3 : (ps.getD m []).length ≤ 200 := by omega
          have hpg : pg05 x1 x2 ps = ps ++ [[x2]] := by
            unfold pg05
            rw [if_pos hpp]
          have el : (ps ++ [[x2]]).length - 1 = ps.length := by simp
          have eg : (ps ++ [[x2]]).getD ps.length [] = [x2] := by simp [List.getD_eq_getElem?_getD]
          have HST : Aside (st5 x1 x2 ps y = (ps ++ [[x2]]).set ps.length [x2, y]) := by
            show _ = _
            unfold st5
            rw [hpg, el, eg]
            rfl
          have HPR : Aside (∀ r ∈ (ps ++ [[x2]]).set ps.length [x2, y], (r.length : Int) ≤ x1) := fun r hr => by
            rcases List.mem_or_eq_of_mem_set hr with hr | rfl
            · rcases List.mem_append.1 hr with hr | hr
              · exact hpr r hr
              · simp at hr; subst hr; simp; omega
            · simp; omega
          have HY0 : Aside (w.cell? ⟨b, off + k, none⟩ = some (.string y)) := HY0.out
          have hsz := bl0.size
          have HH : Aside (((wr.alloc (Obj.cells #[Value.string x2] 9)).alloc (Obj.cells #[Value.slice (some ⟨wr.heap.size, 0, none⟩) 1 1] 22)).heap[wr.heap.size + 1]? = some (.cells #[.slice (some ⟨wr.heap.size, 0, none⟩) 1 1] 22)) := by
            have e : (wr.alloc (Obj.cells #[Value.string x2] 9)).heap.size = wr.heap.size + 1 := by simp
            have := heap_alloc_new (wr.alloc (Obj.cells #[Value.string x2] 9)) (.cells #[.slice (some ⟨wr.heap.size, 0, none⟩) 1 1] 22)
            rw [e] at this
            exact this
          have HPB : Aside (Pg5 w ((wr.alloc (Obj.cells #[Value.string x2] 9)).alloc (Obj.cells #[Value.slice (some ⟨wr.heap.size, 0, none⟩) 1 1] 22)) (.slice (some ⟨G, 0, none⟩) (m + 1) cp) ps row bl) := HP.out.keep (gb5 (((Below.refl _ wr).alloc (Nat.le_refl _) _).alloc (by simp) _))
          have HNW : Aside (∀ v' wq, wq.ownsRow w.heap.size 22 1 v' ((m + 1) + 1) (row ++ [.slice (some ⟨wr.heap.size, 0, none⟩) 1 1]) → ((wr.alloc (.cells #[.string x2] 9)).alloc (.cells #[.slice (some ⟨wr.heap.size, 0, none⟩) 1 1] 22)).grownBy wq (Value.slice (some ⟨G, 0, none⟩) (m + 1) cp).ownBlock → _) := fun v' wq h1 h2 => nw5 HP.out x2 y ((m + 1)) hn h1 h2
          have HN : Aside (ps.length = (m + 1)) := hn
          have hnk : (m + 1) ≤ k := by omega
          rw [hn] at HST HPR
          clear hpg el eg hpr hB hpp i1 i2 hx ho
          generalize (ps.getD m []).length = L0 at *
          generalize bl.getD m 0 = g0 at *
          go_wp2_with (at_builtin; refine app5 HI.out w.heap.size HPB.out.own (wr.heap.size + 1) 0 1 [.slice (some ⟨wr.heap.size, 0, none⟩) 1 1] rfl (fun j u hj => by
                rcases j with _ | j
                · simp at hj; subst hj
                  unfold World.cell?
                  rw [show ((wr.alloc (Obj.cells #[Value.string x2] 9)).alloc (Obj.cells #[Value.slice (some ⟨wr.heap.size, 0, none⟩) 1 1] 22)).heap[(⟨wr.heap.size + 1, 0 + 0, none⟩ : Addr).block]? = _ from HH.out]
                  rfl
                · simp at hj) (by simp [Value.oneCell']) (by omega) (by have := hsz; simp; omega) rfl rfl rfl rfl ?_; intro v' wq hown hgrow; obtain ⟨G', cp', g, c0, xs0, rfl, p1', hGl, HO, HFZ, HNX, blq⟩ := HNW.out v' wq (by have h := hown; rw [HN.out] at h; exact h) hgrow; have p2' : wq.cell? ⟨b, off + k, none⟩ = some (.string y) := (World.cell?_of_block (blq.block b hb)).trans HY0.out; have hsz' : w.heap.size ≤ wq.heap.size := blq.size)
          clear hsz
          have hsz := hsz'
          have hbl1 : b < wq.heap.size := Nat.lt_of_lt_of_le hb hsz
          have hq1 : IntKind.i64.wrap ((m : Int) + 1 + 1 - 1) = (m : Int) + 1 := by rw [IntKind.wrap_i64]; omega
          have hq7 : IntKind.i64.wrap ((m : Int) + 1) = (m : Int) + 1 := by rw [IntKind.wrap_i64]; omega
          have hq8 : ((m : Int) + 1).toNat = m + 1 := by omega
          have hq2 : (0 : Int) ≤ (m : Int) + 1 := by omega
          have hq4 : (m : Int) + 1 < (m : Int) + 1 + 1 := by omega
          have hq5 : (0 : Int) ≤ (k : Int) := by omega
          have hq6 : (k : Int) < (x0.length : Int) := by omega
          go_region_law (refine step_append_lies _ (by rfl) _ _ _ (by rfl) w.heap.size 9 i0 _ 1 16 Try.underlying22 hi0 hz0 hz1 hz2 hzz (by omega) (.slice (some ⟨g, 0, none⟩) 1 c0) 1 xs0 (by rfl) (World.ownsRow.drew (World.ownsRow.alloc HO.out _)) ⟨wq.heap.size, 0, none⟩ 1 1 [.string y] (by rfl) (by rfl) (World.news_of_block (cs := #[.string y]) (t := 9) (fr := (0, 0)) (heap_alloc_new wq _)) (by simp [Value.oneCell']) (by omega) (by unfold maxLen; omega) (by omega) (by have := hsz; simp; omega) (wq.heap.size + 1) (by simp) ?_; intro gg cap1 w1 hown1 hgrow hat hlt1; obtain ⟨hfz, hcz⟩ := HFZ.out _ w1 hgrow)
          all_goals go_wp2
          all_goals (obtain ⟨row', bl', hnx⟩ := HNX.out _ w1 gg cap1 hgrow hown1 hat)
          all_goals (refine ⟨⟨k + 1, row', bl', by omega, by simp, ?_, ?_, ?_⟩, by simp [intOf]; omega⟩)
          all_goals (first | (rw [HS.out, HST.out]; exact hnx) | (rw [HS.out, HST.out, List.length_set, List.length_append, List.length_singleton, HN.out]; omega) | (rw [HS.out, HST.out]; exact HPR.out))

    · have hkn : k = x0.length := by omega
      subst hkn
      have HQ : Aside (Pg5 w wr (.slice ad ((x0.take x0.length).foldl (st5 x1 x2) []).length cp) (x0.foldl (st5 x1 x2) []) row bl) := by
        have := HP.out
        rw [List.take_length] at this ⊢
        exact this
      go_wp2
      go_ret2
      exact ⟨_, row, bl, rfl, HQ.out⟩

def sig5 : List AT := [AT.v (Ty.sl Ty.str), AT.v (Ty.int .i64), AT.v Ty.str]
def P5 (x0 : List ByteArray) (x1 : Int) (x2 : ByteArray) : Prop := True
def S5 : Am.Spec := { sig := sig5, pre := fun ⟨x0, x1, x2, _⟩ => P5 x0 x1 x2, res := fun ⟨x0, x1, x2, _⟩ => [⟨.sl (.sl .str), g5_0 x0 x1 x2⟩, ⟨.int .i64, g5_1 x0 x1 x2⟩] }

theorem mem5 (x1 : Int) (x2 : ByteArray) (hx1 : 2 ≤ x1 ∧ x1 ≤ 200) (Q : ByteArray → Prop) (h2 : Q x2) : ∀ (l : List ByteArray) (ps : List (List ByteArray)), (∀ y ∈ l, Q y) → (∀ p ∈ ps, (p.length : Int) ≤ x1 ∧ ∀ y ∈ p, Q y) →
    (l.foldl (st5 x1 x2) ps).length ≤ ps.length + l.length ∧ ∀ p ∈ l.foldl (st5 x1 x2) ps, (p.length : Int) ≤ x1 ∧ ∀ y ∈ p, Q y
  | [], ps, _, hp => ⟨by simp, hp⟩
  | y :: l, ps, hl, hp => by
    have hy : Q y := hl y (List.mem_cons_self ..)
    have hl' : ∀ z ∈ l, Q z := fun z hz => hl z (List.mem_cons_of_mem _ hz)
    have key : (st5 x1 x2 ps y).length ≤ ps.length + 1 ∧ ∀ p ∈ st5 x1 x2 ps y, (p.length : Int) ≤ x1 ∧ ∀ z ∈ p, Q z := by
      unfold st5 pg05
      by_cases hc : ps.length = 0 ∨ ((ps.getD (ps.length - 1) []).length : Int) = x1
      · rw [if_pos hc]
        have el : (ps ++ [[x2]]).length - 1 = ps.length := by simp
        have eg : (ps ++ [[x2]]).getD ps.length [] = [x2] := by simp [List.getD_eq_getElem?_getD]
        rw [el, eg]
        refine ⟨by simp, fun p hp' => ?_⟩
        rcases List.mem_or_eq_of_mem_set hp' with hp' | rfl
        · rcases List.mem_append.1 hp' with hp' | hp'
          · exact hp p hp'
          · simp at hp'; subst hp'
            exact ⟨by simp; omega, fun z hz => by simp at hz; subst hz; exact h2⟩
        · exact ⟨by simp; omega, fun z hz => by
            simp at hz
            rcases hz with rfl | rfl
            · exact h2
            · exact hy⟩
      · rw [if_neg hc]
        refine ⟨by simp, fun p hp' => ?_⟩
        rcases List.mem_or_eq_of_mem_set hp' with hp' | rfl
        · exact hp p hp'
        · have hm := mem_getD ps (ps.length - 1) [] (by omega)
          obtain ⟨q1, q2⟩ := hp _ hm
          refine ⟨by rw [List.length_append, List.length_singleton]; omega, fun z hz => ?_⟩
          rcases List.mem_append.1 hz with hz | hz
          · exact q2 z hz
          · simp at hz; subst hz; exact hy
    obtain ⟨k1, k2⟩ := mem5 x1 x2 hx1 Q h2 l (st5 x1 x2 ps y) hl' key.2
    refine ⟨?_, k2⟩
    rw [List.foldl_cons, List.length_cons]
    have := key.1
    omega

theorem len5 {x1 : Int} {n : Nat} (h : 2 ≤ x1 ∧ x1 ≤ 200) (hn : (n : Int) ≤ x1) : n ≤ maxLen := by unfold maxLen; omega

theorem vlen5 (x0 : List ByteArray) (h : g13_0 x0 = true) : x0.length ≤ 1000 := by
  unfold g13_0 at h
  simp only [Bool.and_eq_true, decide_eq_true_eq] at h
  have := h.2
  omega

theorem con5 : Contract Try.prog 5 S5 := by
  refine Contract0.up rfl rfl ?_
  rintro w ⟨x0, x1, x2, u⟩ vs bss hgo hp ⟨v, s, b, bs, rfl, rfl, ⟨rfl, ho⟩, v1, s1, b1, bs1, rfl, rfl, ⟨rfl, h1⟩, v2, s2, b2, bs2, rfl, rfl, ⟨rfl, h2⟩, rfl, rfl⟩ hnd
  have hgo : GOk w [] := hgo
  have ho : SlAt w (Am.Good w []) (RepC w (Am.Good w []) .str) 1 x0 v := ho
  obtain ⟨rfl, hi⟩ : v1 = .int .i64 x1 ∧ InR .i64 x1 := h1
  obtain ⟨rfl, hs⟩ : v2 = .string x2 ∧ x2.size ≤ maxLen := h2
  have hw : ∀ y ∈ x0, Wf .str y := (slAt_flat (t := .str) rfl ho).1
  have fin : ∀ (w' : World) (v : Value) (row : List Value) (bl : List Nat) (ps : List (List ByteArray)) (c : Int), Pg5 w w' v ps row bl → ps.length ≤ maxLen → (∀ p ∈ ps, p.length ≤ maxLen ∧ ∀ y ∈ p, Wf .str y) → InR .i64 c →
      ∃ rs ubs rbs, Ending.returned (.tuple #[v, .int .i64 c]) = .returned (packV rs) ∧ Kept [] w w' ∧ ResRep w' [⟨.sl (.sl .str), ps⟩, ⟨.int .i64, c⟩] rs rbs ∧ UpdRep w' [] [] ubs ∧ (ubs.flatten ++ rbs.flatten).Nodup ∧ ∀ b ∈ ubs.flatten ++ rbs.flatten, ¬ Am.Good w [] b := fun w' v row bl ps c h hm hw' hc => by
    obtain ⟨bs, k1, k2, k3⟩ := h.done hm hw'
    refine ⟨[v, .int .i64 c], [], [bs, []], rfl, Kept.of_below h.low, ⟨_, _, _, _, _, rfl, rfl, k1, rfl, _, _, _, _, _, rfl, rfl, ⟨rfl, hc, rfl⟩, rfl, rfl, rfl⟩, ⟨rfl, rfl⟩, by simpa using k2, fun b hb hg => ?_⟩
    have hb : b ∈ bs := by simpa using hb
    have := k3 b hb
    have := hg.1
    omega
  have z : ∀ c : Int, 0 ≤ c → c ≤ 2 → InR .i64 c := fun c h1 h2 => by rw [i64_iff]; omega
  show Calls Try.prog 5 #[v, .int .i64 x1, .string x2] w _
  show Calls Try.prog 5 #[v, .int .i64 x1, .string x2] w fun e w' => ∃ rs ubs rbs, e = .returned (packV rs) ∧ Kept [] w w' ∧ ResRep w' [⟨.sl (.sl .str), g5_0 x0 x1 x2⟩, ⟨.int .i64, g5_1 x0 x1 x2⟩] rs rbs ∧ UpdRep w' [] [] ubs ∧ (ubs.flatten ++ rbs.flatten).Nodup ∧ ∀ b ∈ ubs.flatten ++ rbs.flatten, ¬ Am.Good w [] b
  unfold g5_0 g5_1
  cases hv : g13_0 x0 with
  | false =>
    rw [if_neg (by decide), if_neg (by decide)]
    refine (bad15 w x0 v x1 x2 hgo ho hv).mono ?_
    rintro e w' ⟨rfl, hb⟩
    exact fin w' _ [] [] [] 1 (nil5 hb) (by simp) (fun p hp => by cases hp) (z 1 (by decide) (by decide))
  | true =>
    have hl : x0.length ≤ 1000 := vlen5 x0 hv
    rw [if_pos rfl, if_pos rfl]
    cases hw2 : g14_0 x1 2 200 with
    | false =>
      rw [if_neg (by decide), if_neg (by decide)]
      refine (bad25 w x0 v x1 x2 hgo ho hv hi hw2).mono ?_
      rintro e w' ⟨rfl, hb⟩
      exact fin w' _ [] [] [] 2 (nil5 hb) (by simp) (fun p hp => by cases hp) (z 2 (by decide) (by decide))
    | true =>
      rw [if_pos rfl, if_pos rfl]
      cases hr : g15_0 x2 with
      | false =>
        rw [if_neg (by decide), if_neg (by decide)]
        refine (bad35 w x0 v x1 x2 hgo ho hv hi hw2 hs hr).mono ?_
        rintro e w' ⟨rfl, hb⟩
        exact fin w' _ [] [] [] 2 (nil5 hb) (by simp) (fun p hp => by cases hp) (z 2 (by decide) (by decide))
      | true =>
        rw [if_pos rfl, if_pos rfl]
        have hb : 2 ≤ x1 ∧ x1 ≤ 200 := by
          unfold g14_0 at hw2
          split at hw2
          · rename_i h1; exact ⟨of_decide_eq_true h1, of_decide_eq_true hw2⟩
          · cases hw2
        obtain ⟨m1, m2⟩ := mem5 x1 x2 hb (fun y => Wf .str y) hs x0 [] hw (fun p hp => by cases hp)
        have go : ∀ (ad0 : Option Addr) (cap : Nat), v = .slice ad0 x0.length cap → x0.length ≤ cap → cap ≤ maxLen → (∀ i, i < x0.length → ∃ b off, ad0 = some ⟨b, off, none⟩ ∧ b < w.heap.size ∧ w.cell? ⟨b, off + i, none⟩ = some (.string (x0.getD i ByteArray.empty))) →
            Calls Try.prog 5 #[v, .int .i64 x1, .string x2] w fun e w' => ∃ rs ubs rbs, e = .returned (packV rs) ∧ Kept [] w w' ∧ ResRep w' [⟨.sl (.sl .str), x0.foldl (st5 x1 x2) []⟩, ⟨.int .i64, 0⟩] rs rbs ∧ UpdRep w' [] [] ubs ∧ (ubs.flatten ++ rbs.flatten).Nodup ∧ ∀ b ∈ ubs.flatten ++ rbs.flatten, ¬ Am.Good w [] b := fun ad0 cap hve h3 h4 h5 => by
          subst hve
          refine (walk5 w x0 ad0 cap x1 x2 hgo ho hv hi hw2 hs hr hb hl h3 h4 h5).mono ?_
          rintro e w' ⟨v, row, bl, rfl, h⟩
          refine fin w' v row bl _ 0 h (by simp at m1; unfold maxLen; omega) (fun p hp => ?_) (z 0 (by decide) (by decide))
          obtain ⟨q1, q2⟩ := m2 p hp
          exact ⟨len5 hb q1, q2⟩
        rcases (slAt_flat (t := .str) rfl ho).2.2 with ⟨ad, rfl, rfl⟩ | ⟨b', off, cap, rfl, h3, h4, hG, hcells⟩
        · exact go ad 0 rfl (Nat.le_refl _) (Nat.zero_le _) (fun i h => by simp at h)
        · exact go _ cap rfl h3 h4 (fun i h => ⟨b', off, rfl, hG.1, hcells i _ (by rw [fcsget5, List.getElem?_eq_getElem h, getD_lt x0 i _ h]; rfl)⟩)

end Go.Proofs.Ytdmpjjgimgmkmaa

/- Function 4 (laws.szStringS): its runs between cut points. Written by a program of this repo (gen). -/
set_option linter.unusedVariables false
set_option linter.unusedSimpArgs false
set_option maxRecDepth 100000
namespace Go.Proofs.Ytdmpjjgimgmkmaa
open Go Go.Am Go.Proofs
noncomputable section
def ext4 : Ext := []
theorem ext4Ok : ExtOk Try.prog ext4 := trivial

noncomputable def b4 : Code := bodyOf Try.f4
theorem hb4 : Try.f4.body = some b4 := by kernel_rfl
def sig4 : List AT := [AT.v (Ty.sl Ty.str), AT.v (Ty.int IntKind.i64)]
def tys4 : List Ty := [Ty.int IntKind.i64]
def kds4 : List RK := []
def oks4 : List AT := owns sig4
def E4_5 (v1 : Int) (v5 : Int) (x0 : List ByteArray) : Env := [(0, PV.a (Atom.sl Ty.str x0)), (1, PV.a (Atom.val (Value.int IntKind.i64 v1))), (5, PV.a (Atom.val (Value.int IntKind.i64 v5)))]
def L4_5 (v1 : Int) (v5 : Int) (x0 : List ByteArray) : Heap := []
mutual
def R4 : Nat → List ByteArray → Int → List Dyn → Prop
  | 0, _, _, _ => False
  | n + 1, x0, x1, ds => ((InR IntKind.i64 (x1 - (↑(List.length x0) : Int))) ∧ (if (Decidable.decide (x1 - (↑(List.length x0) : Int) < 0)) = true then (ds = [Dyn.mk (Ty.int IntKind.i64) (-1)]) else (R4_5 n (x1 - (↑(List.length x0) : Int)) (0) (x0) ds)))
def R4_5 : Nat → Int → Int → List ByteArray → List Dyn → Prop
  | 0, _, _, _, _ => False
  | n + 1, v1, v5, x0, ds => (if (Decidable.decide (v5 < (↑(List.length x0) : Int))) = true then ((0 ≤ v5) ∧ (v5 < (↑(List.length x0) : Int)) ∧ ((InR IntKind.i64 (v1 - (↑(ByteArray.size (List.getD x0 (Int.toNat v5) ByteArray.empty)) : Int))) ∧ (if (Decidable.decide (v1 - (↑(ByteArray.size (List.getD x0 (Int.toNat v5) ByteArray.empty)) : Int) < 0)) = true then (ds = [Dyn.mk (Ty.int IntKind.i64) (-1)]) else ((InR IntKind.i64 (v5 + 1)) ∧ (R4_5 n (v1 - (↑(ByteArray.size (List.getD x0 (Int.toNat v5) ByteArray.empty)) : Int)) (v5 + 1) (x0) ds))))) else (ds = [Dyn.mk (Ty.int IntKind.i64) v1]))
end
theorem snd4 : ∀ n, (∀ (x0 : List ByteArray) (x1 : Int) ds, R4 n x0 x1 ds → ∀ K q, AtV Try.prog 4 (PostR kds4 oks4 ds [] [] q K) 28 K q [] [.code b4] (entE 0 0 sig4 (x0, x1, ())) (entL sig4 (x0, x1, ()))) ∧ (∀ (v1 : Int) (v5 : Int) (x0 : List ByteArray) ds, R4_5 n v1 v5 x0 ds → ∀ K q, AtV Try.prog 4 (PostR kds4 oks4 ds [] [] q K) 28 K q [] (cutAt b4 5) (E4_5 v1 v5 x0) (L4_5 v1 v5 x0)) := by
  intro n
  induction n with
  | zero => exact ⟨fun _ _ _ h => by simp only [R4] at h, fun _ _ _ _ h => by simp only [R4_5] at h⟩
  | succ n ih =>
  obtain ⟨ih, ih5⟩ := ih
  refine ⟨?_, ?_⟩
  · intro x0 x1 ds h K q
    rw [R4] at h
    obtain ⟨s0, h⟩ := h
    by_cases b0 : (Decidable.decide (x1 - (↑(List.length x0) : Int) < 0)) = true
    · rw [if_pos b0] at h
      subst h
      exact AtV.ret Try.func4 tabOk ext4Ok mixed false [] tys4 [true] (a1 s0 (a1 b0 trivial)) (by kernel_rfl)
    · rw [if_neg b0] at h
      replace b0 := Bool.eq_false_iff.2 b0
      exact AtV.go tabOk ext4Ok mixed false [] [] [0, 1, 5] [] [false] (a1 s0 (a1 b0 trivial)) (ih5 _ _ _ _ h K q) (by kernel_rfl)

  · intro v1 v5 x0 ds h K q
    rw [R4_5] at h
    by_cases b0 : (Decidable.decide (v5 < (↑(List.length x0) : Int))) = true
    · rw [if_pos b0] at h
      obtain ⟨s0, s1, h⟩ := h
      obtain ⟨s2, h⟩ := h
      by_cases b1 : (Decidable.decide (v1 - (↑(ByteArray.size (List.getD x0 (Int.toNat v5) ByteArray.empty)) : Int) < 0)) = true
      · rw [if_pos b1] at h
        subst h
        exact AtV.ret Try.func4 tabOk ext4Ok mixed false [] tys4 [true, true] (a1 b0 (a1 s0 (a1 s1 (a1 s2 (a1 b1 trivial))))) (by kernel_rfl)
      · rw [if_neg b1] at h
        replace b1 := Bool.eq_false_iff.2 b1
        obtain ⟨s3, h⟩ := h
        exact AtV.go tabOk ext4Ok mixed false [] [] [0, 1, 5] [] [true, false] (a1 b0 (a1 s0 (a1 s1 (a1 s2 (a1 b1 (a1 s3 trivial)))))) (ih5 _ _ _ _ h K q) (by kernel_rfl)
    · rw [if_neg b0] at h
      replace b0 := Bool.eq_false_iff.2 b0
      subst h
      exact AtV.ret Try.func4 tabOk ext4Ok mixed false [] tys4 [false] (a1 b0 trivial) (by kernel_rfl)



def szL4 : List ByteArray → Int → Int
  | [], l => l
  | x :: r, l => if l - x.size < 0 then -1 else szL4 r (l - x.size)

theorem szL4_sum : ∀ (xs : List ByteArray) (l : Int), ¬ szL4 xs l < 0 → szL4 xs l = l - sizes xs
  | [], l, _ => by simp [szL4, sizes]
  | x :: r, l, h => by
    simp only [szL4] at h ⊢
    split
    · rename_i hn; rw [if_pos hn] at h; omega
    · rename_i hn
      rw [if_neg hn] at h
      rw [szL4_sum r _ h]
      simp only [sizes]
      omega

def g4_0 (x0 : List ByteArray) (x1 : Int) : Int := if x1 - x0.length < 0 then -1 else szL4 x0 (x1 - x0.length)
def P4 (x0 : List ByteArray) (x1 : Int) : Prop := 0 ≤ x1

theorem sz4_sum (x0 : List ByteArray) (x1 : Int) (hg : ¬ g4_0 x0 x1 < 0) : g4_0 x0 x1 = x1 - x0.length - sizes x0 := by
  unfold g4_0 at hg ⊢
  split
  · rename_i h; rw [if_pos h] at hg; omega
  · rename_i h; rw [if_neg h] at hg; rw [szL4_sum _ _ hg]

theorem goL4 : ∀ (xs : List ByteArray) (l : Int), goL (fun (b : Int) (x : ByteArray) => if b - x.size < 0 then Except.error [(⟨.int .i64, -1⟩ : Dyn)] else .ok (b - x.size)) (fun b => [⟨.int .i64, b⟩]) l xs = [⟨.int .i64, szL4 xs l⟩]
  | [], l => rfl
  | x :: r, l => by
    simp only [goL, szL4]
    split
    · rename_i b' h
      split at h
      · cases h
      · rename_i hn
        cases h
        rw [if_neg hn]
        exact goL4 r _
    · rename_i d h
      split at h
      · rename_i hn; cases h; rw [if_pos hn]
      · cases h

theorem top4 (x0 : List ByteArray) (x1 : Int) (hw : Wf (.sl .str) x0) (hi : InR .i64 x1) (h : 0 ≤ x1) : R4 (x0.length + 1 + 1) x0 x1 [⟨Ty.int .i64, g4_0 x0 x1⟩] := by
  have hm' : x0.length ≤ 9223372036854775807 := hw.1
  have hi' := hi
  rw [i64_iff] at hi'
  rw [R4]
  refine ⟨by rw [i64_iff]; omega, ?_⟩
  unfold g4_0
  by_cases hn : x1 - (x0.length : Int) < 0
  · rw [if_pos (by simpa using hn), if_pos hn]
  · rw [if_neg (by simpa using hn), if_neg hn, ← goL4]
    refine loop_all x0 ByteArray.empty _ _ (fun _ b => 0 ≤ b ∧ b ≤ x1) (fun n i b ds => R4_5 n b i x0 ds) ⟨by omega, by omega⟩ ?_ ?_
    · intro n b _
      show R4_5 (n + 1) b x0.length x0 _
      rw [R4_5, if_neg (by simp)]
    · intro n i b hi2 hb
      have hs : (x0.getD i ByteArray.empty).size ≤ 9223372036854775807 := hw.2 _ (mem_getD _ _ _ hi2)
      split
      · rename_i b' hf
        split at hf
        · cases hf
        · rename_i hn
          cases hf
          refine ⟨by omega, fun ds hr => ?_⟩
          rw [R4_5, if_pos (by simp; omega)]
          simp only [Int.toNat_natCast]
          refine ⟨by omega, by omega, by rw [i64_iff]; omega, ?_⟩
          rw [if_neg (by simpa using hn)]
          exact ⟨inR_up hw.1 hi2, hr⟩
      · rename_i ds hf
        split at hf
        · rename_i hn
          cases hf
          rw [R4_5, if_pos (by simp; omega)]
          simp only [Int.toNat_natCast]
          refine ⟨by omega, by omega, by rw [i64_iff]; omega, ?_⟩
          rw [if_pos (by simpa using hn)] <;> trivial
        · cases hf

def S4 : Am.Spec := { sig := sig4, pre := fun ⟨x0, x1, _⟩ => P4 x0 x1, res := fun ⟨x0, x1, _⟩ => [⟨Ty.int .i64, g4_0 x0 x1⟩] }
theorem con4 : Contract Try.prog 4 S4 := contract_of Try.func4 hb4 (Nat.le_of_ble_eq_true (by kernel_rfl)) (fun ⟨x0, x1, _⟩ h hwf K q =>
  (snd4 _).1 x0 x1 _ (top4 x0 x1 hwf.1 hwf.2.1 h) K q)

end
end Go.Proofs.Ytdmpjjgimgmkmaa

/- Function 6 (laws.toStringS): its runs between cut points. Written by a program of this repo (gen). -/
set_option linter.unusedVariables false
set_option linter.unusedSimpArgs false
set_option maxRecDepth 100000
namespace Go.Proofs.Ytdmpjjgimgmkmaa
open Go Go.Am Go.Proofs
noncomputable section
def ext6 : Ext := []
theorem ext6Ok : ExtOk Try.prog ext6 := trivial

noncomputable def b6 : Code := bodyOf Try.f6
theorem hb6 : Try.f6.body = some b6 := by kernel_rfl
def sig6 : List AT := [AT.v (Ty.sl Ty.str)]
def tys6 : List Ty := [Ty.sl Ty.str]
def kds6 : List RK := []
def oks6 : List AT := owns sig6
def E6_3 (v4 : Int) (h0 : List ByteArray) (x0 : List ByteArray) : Env := [(0, PV.a (Atom.sl Ty.str x0)), (3, PV.a (Atom.osl 0 Option.none)), (4, PV.a (Atom.val (Value.int IntKind.i64 v4)))]
def L6_3 (v4 : Int) (h0 : List ByteArray) (x0 : List ByteArray) : Heap := [Option.some (Arr.mk Ty.str h0 Bool.false Option.none Option.none)]
mutual
def R6 : Nat → List ByteArray → List Dyn → Prop
  | 0, _, _ => False
  | n + 1, x0, ds => ((0 ≤ (↑(List.length x0) : Int)) ∧ ((↑(List.length x0) : Int) ≤ (↑(List.length x0) : Int)) ∧ (16 * (↑(List.length x0) : Int) ≤ 281474976710656) ∧ (R6_3 n (0) (List.replicate (Int.toNat (↑(List.length x0) : Int)) ByteArray.empty) (x0) ds))
def R6_3 : Nat → Int → List ByteArray → List ByteArray → List Dyn → Prop
  | 0, _, _, _, _ => False
  | n + 1, v4, h0, x0, ds => (if (Decidable.decide (v4 < (↑(List.length x0) : Int))) = true then ((0 ≤ v4) ∧ (v4 < (↑(List.length x0) : Int)) ∧ ((0 ≤ v4) ∧ (v4 < (↑(List.length h0) : Int)) ∧ ((InR IntKind.i64 (v4 + 1)) ∧ (R6_3 n (v4 + 1) (List.set h0 (Int.toNat v4) (List.getD x0 (Int.toNat v4) ByteArray.empty)) (x0) ds)))) else (ds = [Dyn.mk (Ty.sl Ty.str) h0]))
end
theorem snd6 : ∀ n, (∀ (x0 : List ByteArray) ds, R6 n x0 ds → ∀ K q, AtV Try.prog 6 (PostR kds6 oks6 ds [] [] q K) 22 K q [] [.code b6] (entE 0 0 sig6 (x0, ())) (entL sig6 (x0, ()))) ∧ (∀ (v4 : Int) (h0 : List ByteArray) (x0 : List ByteArray) ds, R6_3 n v4 h0 x0 ds → ∀ K q, AtV Try.prog 6 (PostR kds6 oks6 ds [] [] q K) 22 K q [] (cutAt b6 3) (E6_3 v4 h0 x0) (L6_3 v4 h0 x0)) := by
  intro n
  induction n with
  | zero => exact ⟨fun _ _ h => by simp only [R6] at h, fun _ _ _ _ h => by simp only [R6_3] at h⟩
  | succ n ih =>
  obtain ⟨ih, ih3⟩ := ih
  refine ⟨?_, ?_⟩
  · intro x0 ds h K q
    rw [R6] at h
    obtain ⟨s0, s1, s2, h⟩ := h
    exact AtV.go tabOk ext6Ok mixed false [] [] [0, 3, 4] [0] [] (a1 s0 (a1 s1 (a1 s2 trivial))) (ih3 _ _ _ _ h K q) (by kernel_rfl)

  · intro v4 h0 x0 ds h K q
    rw [R6_3] at h
    by_cases b0 : (Decidable.decide (v4 < (↑(List.length x0) : Int))) = true
    · rw [if_pos b0] at h
      obtain ⟨s0, s1, h⟩ := h
      obtain ⟨s2, s3, h⟩ := h
      obtain ⟨s4, h⟩ := h
      exact AtV.go tabOk ext6Ok mixed false [] [] [0, 3, 4] [0] [true] (a1 b0 (a1 s0 (a1 s1 (a1 s2 (a1 s3 (a1 s4 trivial)))))) (ih3 _ _ _ _ h K q) (by kernel_rfl)
    · rw [if_neg b0] at h
      replace b0 := Bool.eq_false_iff.2 b0
      subst h
      exact AtV.ret Try.func6 tabOk ext6Ok mixed false [] tys6 [false] (a1 b0 trivial) (by kernel_rfl)



theorem run6 (x0 : List ByteArray) (hm : x0.length ≤ maxLen) : ∀ (k i : Nat), i + k = x0.length →
    R6_3 (k + 1) (i : Int) (x0.take i ++ List.replicate k ByteArray.empty) x0 [⟨.sl .str, x0⟩] := by
  intro k
  induction k with
  | zero =>
    intro i hi
    rw [R6_3, if_neg (by simp; omega), List.take_of_length_le (by omega)]
    simp
  | succ k ih =>
    intro i hi
    rw [R6_3, if_pos (by simp; omega)]
    simp only [Int.toNat_natCast]
    refine ⟨by omega, by omega, by omega, by simp; omega, inR_up hm (by omega), ?_⟩
    have hs := set_step x0 ByteArray.empty i (by omega) (k + 1) (by omega)
    rw [hs]
    exact ih (i + 1) (by omega)

def g6_0 (x0 : List ByteArray) : List ByteArray := x0
def P6 (x0 : List ByteArray) : Prop := 16 * (x0.length : Int) ≤ 281474976710656
def S6 : Am.Spec := { sig := sig6, pre := fun ⟨x0, _⟩ => P6 x0, res := fun ⟨x0, _⟩ => [⟨.sl .str, g6_0 x0⟩] }
theorem con6 : Contract Try.prog 6 S6 := contract_of Try.func6 hb6 (Nat.le_of_ble_eq_true (by kernel_rfl)) (fun ⟨x0, _⟩ h hwf K q => by
  refine (snd6 (x0.length + 2)).1 x0 _ ?_ K q
  show R6 (x0.length + 1 + 1) x0 [⟨.sl .str, x0⟩]
  rw [R6]
  refine ⟨by omega, by omega, h, ?_⟩
  have := run6 x0 hwf.1.1 x0.length 0 (by omega)
  simpa using this)

end
end Go.Proofs.Ytdmpjjgimgmkmaa

/- Function 9 (laws.eqStringS): its runs between cut points. Written by a program of this repo (gen). -/
set_option linter.unusedVariables false
set_option linter.unusedSimpArgs false
set_option maxRecDepth 100000
namespace Go.Proofs.Ytdmpjjgimgmkmaa
open Go Go.Am Go.Proofs
noncomputable section
def ext9 : Ext := []
theorem ext9Ok : ExtOk Try.prog ext9 := trivial

noncomputable def b9 : Code := bodyOf Try.f9
theorem hb9 : Try.f9.body = some b9 := by kernel_rfl
def sig9 : List AT := [AT.v (Ty.sl Ty.str), AT.v (Ty.sl Ty.str)]
def tys9 : List Ty := [Ty.bool]
def kds9 : List RK := []
def oks9 : List AT := owns sig9
def E9_4 (v5 : Int) (x0 : List ByteArray) (x1 : List ByteArray) : Env := [(0, PV.a (Atom.sl Ty.str x0)), (1, PV.a (Atom.sl Ty.str x1)), (5, PV.a (Atom.val (Value.int IntKind.i64 v5)))]
def L9_4 (v5 : Int) (x0 : List ByteArray) (x1 : List ByteArray) : Heap := []
mutual
def R9 : Nat → List ByteArray → List ByteArray → List Dyn → Prop
  | 0, _, _, _ => False
  | n + 1, x0, x1, ds => (if ((↑(List.length x0) : Int) != (↑(List.length x1) : Int)) = true then (ds = [Dyn.mk Ty.bool Bool.false]) else (R9_4 n (0) (x0) (x1) ds))
def R9_4 : Nat → Int → List ByteArray → List ByteArray → List Dyn → Prop
  | 0, _, _, _, _ => False
  | n + 1, v5, x0, x1, ds => (if (Decidable.decide (v5 < (↑(List.length x0) : Int))) = true then ((0 ≤ v5) ∧ (v5 < (↑(List.length x0) : Int)) ∧ ((0 ≤ v5) ∧ (v5 < (↑(List.length x1) : Int)) ∧ (if (!ByteArray.toList (List.getD x0 (Int.toNat v5) ByteArray.empty) == ByteArray.toList (List.getD x1 (Int.toNat v5) ByteArray.empty)) = true then (ds = [Dyn.mk Ty.bool Bool.false]) else ((InR IntKind.i64 (v5 + 1)) ∧ (R9_4 n (v5 + 1) (x0) (x1) ds))))) else (ds = [Dyn.mk Ty.bool Bool.true]))
end
theorem snd9 : ∀ n, (∀ (x0 : List ByteArray) (x1 : List ByteArray) ds, R9 n x0 x1 ds → ∀ K q, AtV Try.prog 9 (PostR kds9 oks9 ds [] [] q K) 26 K q [] [.code b9] (entE 0 0 sig9 (x0, x1, ())) (entL sig9 (x0, x1, ()))) ∧ (∀ (v5 : Int) (x0 : List ByteArray) (x1 : List ByteArray) ds, R9_4 n v5 x0 x1 ds → ∀ K q, AtV Try.prog 9 (PostR kds9 oks9 ds [] [] q K) 26 K q [] (cutAt b9 4) (E9_4 v5 x0 x1) (L9_4 v5 x0 x1)) := by
  intro n
  induction n with
  | zero => exact ⟨fun _ _ _ h => by simp only [R9] at h, fun _ _ _ _ h => by simp only [R9_4] at h⟩
  | succ n ih =>
  obtain ⟨ih, ih4⟩ := ih
  refine ⟨?_, ?_⟩
  · intro x0 x1 ds h K q
    rw [R9] at h
    by_cases b0 : ((↑(List.length x0) : Int) != (↑(List.length x1) : Int)) = true
    · rw [if_pos b0] at h
      subst h
      exact AtV.ret Try.func9 tabOk ext9Ok mixed false [] tys9 [true] (a1 b0 trivial) (by kernel_rfl)
    · rw [if_neg b0] at h
      replace b0 := Bool.eq_false_iff.2 b0
      exact AtV.go tabOk ext9Ok mixed false [] [] [0, 1, 5] [] [false] (a1 b0 trivial) (ih4 _ _ _ _ h K q) (by kernel_rfl)

  · intro v5 x0 x1 ds h K q
    rw [R9_4] at h
    by_cases b0 : (Decidable.decide (v5 < (↑(List.length x0) : Int))) = true
    · rw [if_pos b0] at h
      obtain ⟨s0, s1, h⟩ := h
      obtain ⟨s2, s3, h⟩ := h
      by_cases b1 : (!ByteArray.toList (List.getD x0 (Int.toNat v5) ByteArray.empty) == ByteArray.toList (List.getD x1 (Int.toNat v5) ByteArray.empty)) = true
      · rw [if_pos b1] at h
        subst h
        exact AtV.ret Try.func9 tabOk ext9Ok mixed false [] tys9 [true, true] (a1 b0 (a1 s0 (a1 s1 (a1 s2 (a1 s3 (a1 b1 trivial)))))) (by kernel_rfl)
      · rw [if_neg b1] at h
        replace b1 := Bool.eq_false_iff.2 b1
        obtain ⟨s4, h⟩ := h
        exact AtV.go tabOk ext9Ok mixed false [] [] [0, 1, 5] [] [true, false] (a1 b0 (a1 s0 (a1 s1 (a1 s2 (a1 s3 (a1 b1 (a1 s4 trivial))))))) (ih4 _ _ _ _ h K q) (by kernel_rfl)
    · rw [if_neg b0] at h
      replace b0 := Bool.eq_false_iff.2 b0
      subst h
      exact AtV.ret Try.func9 tabOk ext9Ok mixed false [] tys9 [false] (a1 b0 trivial) (by kernel_rfl)



theorem eq9 (x0 x1 : List (ByteArray)) (hl : x0.length = x1.length) (hm : x0.length ≤ maxLen) : ∀ k i : Nat, i + k = x0.length → R9_4 (k + 1) (i : Int) x0 x1 [⟨.bool, decide (x0.drop i = x1.drop i)⟩] := by
  intro k
  induction k with
  | zero =>
    intro i hi
    have h1 : ¬ (i : Int) < (x0.length : Int) := by omega
    rw [R9_4, if_neg (by simpa using h1), drop_end x0 i (by omega), drop_end x1 i (by omega)]
    simp
  | succ k ih =>
    intro i hi
    have h1 : (i : Int) < (x0.length : Int) := by omega
    rw [R9_4, if_pos (by simpa using h1)]
    refine ⟨by omega, h1, by omega, by omega, ?_⟩
    simp only [Int.toNat_natCast]
    rw [drop_get x0 i ByteArray.empty (by omega), drop_get x1 i ByteArray.empty (by omega)]
    by_cases he : x0.getD i ByteArray.empty = x1.getD i ByteArray.empty
    · have hd := (bytes_eq _ _).2 he
      rw [if_neg (by rw [hd]; simp)]
      refine ⟨inR_up hm (by omega), ?_⟩
      have := ih (i + 1) (by omega)
      simp only [he, List.cons.injEq, true_and]
      exact this
    · have hd : (ByteArray.toList (x0.getD i ByteArray.empty) == ByteArray.toList (x1.getD i ByteArray.empty)) = false :=
        (bytes_ne _ _).2 he
      rw [if_pos (by rw [hd]; rfl)]
      simp only [he, List.cons.injEq, false_and, decide_false]

def g9_0 (x0 x1 : List (ByteArray)) : Bool := decide (x0 = x1)
def P9 (x0 x1 : List (ByteArray)) : Prop := True
def S9 : Am.Spec := { sig := sig9, pre := fun ⟨x0, x1, _⟩ => P9 x0 x1, res := fun ⟨x0, x1, _⟩ => [⟨Ty.bool, g9_0 x0 x1⟩] }
theorem con9 : Contract Try.prog 9 S9 := contract_of Try.func9 hb9 (Nat.le_of_ble_eq_true (by kernel_rfl)) (fun ⟨x0, x1, _⟩ h hwf K q => by
  refine (snd9 (x0.length + 2)).1 x0 x1 _ ?_ K q
  show R9 (x0.length + 1 + 1) x0 x1 [⟨Ty.bool, decide (x0 = x1)⟩]
  rw [R9]
  by_cases hl : x0.length = x1.length
  · rw [if_neg (by simp [hl])]
    have := eq9 x0 x1 hl hwf.1.1 x0.length 0 (by omega)
    simpa using this
  · rw [if_pos (by simp; omega)]
    have : x0 ≠ x1 := fun h => hl (by rw [h])
    simp [this])

end
end Go.Proofs.Ytdmpjjgimgmkmaa

/- Function 8 (laws.eqStringSS): its runs between cut points. Written by a program of this repo (gen). -/
set_option linter.unusedVariables false
set_option linter.unusedSimpArgs false
set_option maxRecDepth 100000
namespace Go.Proofs.Ytdmpjjgimgmkmaa
open Go Go.Am Go.Proofs
noncomputable section
def ext8 : Ext := [(9, S9)]
theorem call8_9 : Callable Try.prog 9 := ⟨Try.f9, Try.func9, by kernel_rfl, by kernel_rfl⟩
theorem ext8Ok : ExtOk Try.prog ext8 := ⟨⟨call8_9, con9⟩, trivial⟩

noncomputable def b8 : Code := bodyOf Try.f8
theorem hb8 : Try.f8.body = some b8 := by kernel_rfl
def sig8 : List AT := [AT.v (Ty.sl (Ty.sl Ty.str)), AT.v (Ty.sl (Ty.sl Ty.str))]
def tys8 : List Ty := [Ty.bool]
def kds8 : List RK := []
def oks8 : List AT := owns sig8
def E8_4 (v5 : Int) (x0 : List (List ByteArray)) (x1 : List (List ByteArray)) : Env := [(0, PV.a (Atom.sl (Ty.sl Ty.str) x0)), (1, PV.a (Atom.sl (Ty.sl Ty.str) x1)), (5, PV.a (Atom.val (Value.int IntKind.i64 v5)))]
def L8_4 (v5 : Int) (x0 : List (List ByteArray)) (x1 : List (List ByteArray)) : Heap := []
mutual
def R8 : Nat → List (List ByteArray) → List (List ByteArray) → List Dyn → Prop
  | 0, _, _, _ => False
  | n + 1, x0, x1, ds => (if ((↑(List.length x0) : Int) != (↑(List.length x1) : Int)) = true then (ds = [Dyn.mk Ty.bool Bool.false]) else (R8_4 n (0) (x0) (x1) ds))
def R8_4 : Nat → Int → List (List ByteArray) → List (List ByteArray) → List Dyn → Prop
  | 0, _, _, _, _ => False
  | n + 1, v5, x0, x1, ds => (if (Decidable.decide (v5 < (↑(List.length x0) : Int))) = true then ((0 ≤ v5) ∧ (v5 < (↑(List.length x0) : Int)) ∧ ((0 ≤ v5) ∧ (v5 < (↑(List.length x1) : Int)) ∧ (if (!g9_0 (List.getD x0 (Int.toNat v5) []) (List.getD x1 (Int.toNat v5) [])) = true then (ds = [Dyn.mk Ty.bool Bool.false]) else ((InR IntKind.i64 (v5 + 1)) ∧ (R8_4 n (v5 + 1) (x0) (x1) ds))))) else (ds = [Dyn.mk Ty.bool Bool.true]))
end
theorem snd8 : ∀ n, (∀ (x0 : List (List ByteArray)) (x1 : List (List ByteArray)) ds, R8 n x0 x1 ds → ∀ K q, AtV Try.prog 8 (PostR kds8 oks8 ds [] [] q K) 27 K q [] [.code b8] (entE 0 0 sig8 (x0, x1, ())) (entL sig8 (x0, x1, ()))) ∧ (∀ (v5 : Int) (x0 : List (List ByteArray)) (x1 : List (List ByteArray)) ds, R8_4 n v5 x0 x1 ds → ∀ K q, AtV Try.prog 8 (PostR kds8 oks8 ds [] [] q K) 27 K q [] (cutAt b8 4) (E8_4 v5 x0 x1) (L8_4 v5 x0 x1)) := by
  intro n
  induction n with
  | zero => exact ⟨fun _ _ _ h => by simp only [R8] at h, fun _ _ _ _ h => by simp only [R8_4] at h⟩
  | succ n ih =>
  obtain ⟨ih, ih4⟩ := ih
  refine ⟨?_, ?_⟩
  · intro x0 x1 ds h K q
    rw [R8] at h
    by_cases b0 : ((↑(List.length x0) : Int) != (↑(List.length x1) : Int)) = true
    · rw [if_pos b0] at h
      subst h
      exact AtV.ret Try.func8 tabOk ext8Ok mixed false [] tys8 [true] (a1 b0 trivial) (by kernel_rfl)
    · rw [if_neg b0] at h
      replace b0 := Bool.eq_false_iff.2 b0
      exact AtV.go tabOk ext8Ok mixed false [] [] [0, 1, 5] [] [false] (a1 b0 trivial) (ih4 _ _ _ _ h K q) (by kernel_rfl)

  · intro v5 x0 x1 ds h K q
    rw [R8_4] at h
    by_cases b0 : (Decidable.decide (v5 < (↑(List.length x0) : Int))) = true
    · rw [if_pos b0] at h
      obtain ⟨s0, s1, h⟩ := h
      obtain ⟨s2, s3, h⟩ := h
      by_cases b1 : (!g9_0 (List.getD x0 (Int.toNat v5) []) (List.getD x1 (Int.toNat v5) [])) = true
      · rw [if_pos b1] at h
        subst h
        exact AtV.ret Try.func8 tabOk ext8Ok mixed false [] tys8 [true, true] (a1 b0 (a1 s0 (a1 s1 (a1 s2 (a1 s3 (a1 trivial (a1 b1 trivial))))))) (by kernel_rfl)
      · rw [if_neg b1] at h
        replace b1 := Bool.eq_false_iff.2 b1
        obtain ⟨s4, h⟩ := h
        exact AtV.go tabOk ext8Ok mixed false [] [] [0, 1, 5] [] [true, false] (a1 b0 (a1 s0 (a1 s1 (a1 s2 (a1 s3 (a1 trivial (a1 b1 (a1 s4 trivial)))))))) (ih4 _ _ _ _ h K q) (by kernel_rfl)
    · rw [if_neg b0] at h
      replace b0 := Bool.eq_false_iff.2 b0
      subst h
      exact AtV.ret Try.func8 tabOk ext8Ok mixed false [] tys8 [false] (a1 b0 trivial) (by kernel_rfl)



theorem eq8 (x0 x1 : List (List ByteArray)) (hl : x0.length = x1.length) (hm : x0.length ≤ maxLen) : ∀ k i : Nat, i + k = x0.length → R8_4 (k + 1) (i : Int) x0 x1 [⟨.bool, decide (x0.drop i = x1.drop i)⟩] := by
  intro k
  induction k with
  | zero =>
    intro i hi
    have h1 : ¬ (i : Int) < (x0.length : Int) := by omega
    rw [R8_4, if_neg (by simpa using h1), drop_end x0 i (by omega), drop_end x1 i (by omega)]
    simp
  | succ k ih =>
    intro i hi
    have h1 : (i : Int) < (x0.length : Int) := by omega
    rw [R8_4, if_pos (by simpa using h1)]
    refine ⟨by omega, h1, by omega, by omega, ?_⟩
    simp only [Int.toNat_natCast]
    rw [drop_get x0 i [] (by omega), drop_get x1 i [] (by omega)]
    by_cases he : x0.getD i [] = x1.getD i []
    · rw [if_neg (by simp only [g9_0, he]; simp)]
      refine ⟨inR_up hm (by omega), ?_⟩
      have := ih (i + 1) (by omega)
      simp only [he, List.cons.injEq, true_and]
      exact this
    · rw [if_pos (by simp only [g9_0, he]; simp)]
      simp only [he, List.cons.injEq, false_and, decide_false]

def g8_0 (x0 x1 : List (List ByteArray)) : Bool := decide (x0 = x1)
def P8 (x0 x1 : List (List ByteArray)) : Prop := True
def S8 : Am.Spec := { sig := sig8, pre := fun ⟨x0, x1, _⟩ => P8 x0 x1, res := fun ⟨x0, x1, _⟩ => [⟨Ty.bool, g8_0 x0 x1⟩] }
theorem con8 : Contract Try.prog 8 S8 := contract_of Try.func8 hb8 (Nat.le_of_ble_eq_true (by kernel_rfl)) (fun ⟨x0, x1, _⟩ h hwf K q => by
  refine (snd8 (x0.length + 2)).1 x0 x1 _ ?_ K q
  show R8 (x0.length + 1 + 1) x0 x1 [⟨Ty.bool, decide (x0 = x1)⟩]
  rw [R8]
  by_cases hl : x0.length = x1.length
  · rw [if_neg (by simp [hl])]
    have := eq8 x0 x1 hl hwf.1.1 x0.length 0 (by omega)
    simpa using this
  · rw [if_pos (by simp; omega)]
    have : x0 ≠ x1 := fun h => hl (by rw [h])
    simp [this])

end
end Go.Proofs.Ytdmpjjgimgmkmaa

/- Function 3 (laws.FnExactPagesOf): its runs between cut points. Written by a program of this repo (gen). -/
set_option linter.unusedVariables false
set_option linter.unusedSimpArgs false
set_option maxRecDepth 100000
namespace Go.Proofs.Ytdmpjjgimgmkmaa
open Go Go.Am Go.Proofs
noncomputable section
def ext3 : Ext := [(4, S4), (6, S6), (5, S5), (7, S7), (8, S8), (9, S9), (10, S10), (11, S11), (12, S12)]
theorem call3_4 : Callable Try.prog 4 := ⟨Try.f4, Try.func4, by kernel_rfl, by kernel_rfl⟩
theorem call3_6 : Callable Try.prog 6 := ⟨Try.f6, Try.func6, by kernel_rfl, by kernel_rfl⟩
theorem call3_5 : Callable Try.prog 5 := ⟨Try.f5, Try.func5, by kernel_rfl, by kernel_rfl⟩
theorem call3_7 : Callable Try.prog 7 := ⟨Try.f7, Try.func7, by kernel_rfl, by kernel_rfl⟩
theorem call3_8 : Callable Try.prog 8 := ⟨Try.f8, Try.func8, by kernel_rfl, by kernel_rfl⟩
theorem call3_9 : Callable Try.prog 9 := ⟨Try.f9, Try.func9, by kernel_rfl, by kernel_rfl⟩
theorem call3_10 : Callable Try.prog 10 := ⟨Try.f10, Try.func10, by kernel_rfl, by kernel_rfl⟩
theorem call3_11 : Callable Try.prog 11 := ⟨Try.f11, Try.func11, by kernel_rfl, by kernel_rfl⟩
theorem call3_12 : Callable Try.prog 12 := ⟨Try.f12, Try.func12, by kernel_rfl, by kernel_rfl⟩
theorem ext3Ok : ExtOk Try.prog ext3 := ⟨⟨call3_4, con4⟩, ⟨call3_6, con6⟩, ⟨call3_5, con5⟩, ⟨call3_7, con7⟩, ⟨call3_8, con8⟩, ⟨call3_9, con9⟩, ⟨call3_10, con10⟩, ⟨call3_11, con11⟩, ⟨call3_12, con12⟩, trivial⟩

noncomputable def b3 : Code := bodyOf Try.f3
theorem hb3 : Try.f3.body = some b3 := by kernel_rfl
def sig3 : List AT := [AT.v (Ty.sl Ty.str), AT.v (Ty.int IntKind.i64), AT.v (Ty.str)]
def tys3 : List Ty := [Ty.bool]
def kds3 : List RK := []
def oks3 : List AT := owns sig3
def P3 (x0 : List ByteArray) (x1 : Int) (x2 : ByteArray) : Prop := (if (Decidable.decide ((↑(ByteArray.size x2) : Int) > 1048576)) = true then True else ((P4 x0 1048576) ∧ (if (Decidable.decide (g4_0 x0 1048576 < 0)) = true then True else ((P6 x0) ∧ ((P5 (g6_0 x0) x1 x2) ∧ ((P6 x0) ∧ ((P7 (g6_0 x0) x1 x2) ∧ (if (!g8_0 (g7_0 (g6_0 x0) x1 x2) (g5_0 (g6_0 x0) x1 x2)) = true then True else (if (g7_1 (g6_0 x0) x1 x2 != g5_1 (g6_0 x0) x1 x2) = true then True else ((P6 x0) ∧ (if (!g9_0 (g6_0 x0) (g6_0 x0)) = true then True else ((P10 (g6_0 x0) 1) ∧ (List.length (u10_0 (g6_0 x0) 1) = List.length (g6_0 x0)) ∧ (if (Decidable.decide (g10_0 (g6_0 x0) 1 < 0)) = true then True else ((P11 (g7_0 (g6_0 x0) x1 x2) 1) ∧ (List.length (u11_0 (g7_0 (g6_0 x0) x1 x2) 1) = List.length (g7_0 (g6_0 x0) x1 x2)) ∧ ((P12 (u11_0 (g7_0 (g6_0 x0) x1 x2) 1) 1) ∧ (if (Decidable.decide (g12_0 (u11_0 (g7_0 (g6_0 x0) x1 x2) 1) 1 < 0)) = true then True else (if (g12_0 (u11_0 (g7_0 (g6_0 x0) x1 x2) 1) 1 != g11_0 (g7_0 (g6_0 x0) x1 x2) 1) = true then True else ((P6 x0) ∧ ((P7 (g6_0 x0) x1 x2) ∧ ((P12 (u11_0 (g7_0 (g6_0 x0) x1 x2) 1) 1) ∧ True))))))))))))))))))))
def g3_0 (x0 : List ByteArray) (x1 : Int) (x2 : ByteArray) : Bool := (if (Decidable.decide ((↑(ByteArray.size x2) : Int) > 1048576)) = true then Bool.true else (if (Decidable.decide (g4_0 x0 1048576 < 0)) = true then Bool.true else (if (!g8_0 (g7_0 (g6_0 x0) x1 x2) (g5_0 (g6_0 x0) x1 x2)) = true then Bool.false else (if (g7_1 (g6_0 x0) x1 x2 != g5_1 (g6_0 x0) x1 x2) = true then Bool.false else (if (!g9_0 (g6_0 x0) (g6_0 x0)) = true then Bool.false else (if (Decidable.decide (g10_0 (g6_0 x0) 1 < 0)) = true then Bool.false else (if (Decidable.decide (g12_0 (u11_0 (g7_0 (g6_0 x0) x1 x2) 1) 1 < 0)) = true then Bool.false else (if (g12_0 (u11_0 (g7_0 (g6_0 x0) x1 x2) 1) 1 != g11_0 (g7_0 (g6_0 x0) x1 x2) 1) = true then Bool.false else Bool.true))))))))
theorem at3 (x0 : List ByteArray) (x1 : Int) (x2 : ByteArray) (h : P3 x0 x1 x2) (K : Ctx) (q : Nat → Value) : AtV Try.prog 3 (PostR kds3 oks3 [⟨Ty.bool, g3_0 x0 x1 x2⟩] [] [] q K) 109 K q [] [.code b3] (entE 0 0 sig3 (x0, x1, x2, ())) (entL sig3 (x0, x1, x2, ())) := by
  unfold P3 at h
  unfold g3_0
  by_cases b0 : (Decidable.decide ((↑(ByteArray.size x2) : Int) > 1048576)) = true
  · try simp only [if_pos b0] at h ⊢
    exact AtV.ret Try.func3 tabOk ext3Ok mixed false [] tys3 [true] (a1 b0 trivial) (by kernel_rfl)
  · try simp only [if_neg b0] at h ⊢
    replace b0 := Bool.eq_false_iff.2 b0
    obtain ⟨s0, h⟩ := h
    by_cases b1 : (Decidable.decide (g4_0 x0 1048576 < 0)) = true
    · try simp only [if_pos b1] at h ⊢
      exact AtV.ret Try.func3 tabOk ext3Ok mixed false [] tys3 [false, true] (a1 b0 (a1 s0 (a1 b1 trivial))) (by kernel_rfl)
    · try simp only [if_neg b1] at h ⊢
      replace b1 := Bool.eq_false_iff.2 b1
      obtain ⟨s1, h⟩ := h
      obtain ⟨s2, h⟩ := h
      obtain ⟨s3, h⟩ := h
      obtain ⟨s4, h⟩ := h
      by_cases b2 : (!g8_0 (g7_0 (g6_0 x0) x1 x2) (g5_0 (g6_0 x0) x1 x2)) = true
      · try simp only [if_pos b2] at h ⊢
        exact AtV.ret Try.func3 tabOk ext3Ok mixed false [] tys3 [false, false, true, true] (a1 b0 (a1 s0 (a1 b1 (a1 s1 (a1 s2 (a1 s3 (a1 s4 (a1 trivial (a1 b2 (a1 (rfl : Bool.true = Bool.true) trivial)))))))))) (by kernel_rfl)
      · try simp only [if_neg b2] at h ⊢
        replace b2 := Bool.eq_false_iff.2 b2
        by_cases b3 : (g7_1 (g6_0 x0) x1 x2 != g5_1 (g6_0 x0) x1 x2) = true
        · try simp only [if_pos b3] at h ⊢
          exact AtV.ret Try.func3 tabOk ext3Ok mixed false [] tys3 [false, false, false, true] (a1 b0 (a1 s0 (a1 b1 (a1 s1 (a1 s2 (a1 s3 (a1 s4 (a1 trivial (a1 b2 (a1 b3 trivial)))))))))) (by kernel_rfl)
        · try simp only [if_neg b3] at h ⊢
          replace b3 := Bool.eq_false_iff.2 b3
          obtain ⟨s5, h⟩ := h
          by_cases b4 : (!g9_0 (g6_0 x0) (g6_0 x0)) = true
          · try simp only [if_pos b4] at h ⊢
            exact AtV.ret Try.func3 tabOk ext3Ok mixed false [] tys3 [false, false, false, false, true] (a1 b0 (a1 s0 (a1 b1 (a1 s1 (a1 s2 (a1 s3 (a1 s4 (a1 trivial (a1 b2 (a1 b3 (a1 s5 (a1 trivial (a1 b4 trivial))))))))))))) (by kernel_rfl)
          · try simp only [if_neg b4] at h ⊢
            replace b4 := Bool.eq_false_iff.2 b4
            obtain ⟨s6, s7, h⟩ := h
            by_cases b5 : (Decidable.decide (g10_0 (g6_0 x0) 1 < 0)) = true
            · try simp only [if_pos b5] at h ⊢
              exact AtV.ret Try.func3 tabOk ext3Ok mixed false [] tys3 [false, false, false, false, false, true, true, true] (a1 b0 (a1 s0 (a1 b1 (a1 s1 (a1 s2 (a1 s3 (a1 s4 (a1 trivial (a1 b2 (a1 b3 (a1 s5 (a1 trivial (a1 b4 (a1 s6 (a1 s7 (a1 b5 (a1 (rfl : Bool.true = Bool.true) (a1 (rfl : Bool.true = Bool.true) trivial)))))))))))))))))) (by kernel_rfl)
            · try simp only [if_neg b5] at h ⊢
              replace b5 := Bool.eq_false_iff.2 b5
              obtain ⟨s8, s9, h⟩ := h
              obtain ⟨s10, h⟩ := h
              by_cases b6 : (Decidable.decide (g12_0 (u11_0 (g7_0 (g6_0 x0) x1 x2) 1) 1 < 0)) = true
              · try simp only [if_pos b6] at h ⊢
                exact AtV.ret Try.func3 tabOk ext3Ok mixed false [] tys3 [false, false, false, false, false, false, false, false, true] (a1 b0 (a1 s0 (a1 b1 (a1 s1 (a1 s2 (a1 s3 (a1 s4 (a1 trivial (a1 b2 (a1 b3 (a1 s5 (a1 trivial (a1 b4 (a1 s6 (a1 s7 (a1 b5 (a1 trivial (a1 b2 (a1 b3 (a1 s8 (a1 s9 (a1 s10 (a1 b6 trivial))))))))))))))))))))))) (by kernel_rfl)
              · try simp only [if_neg b6] at h ⊢
                replace b6 := Bool.eq_false_iff.2 b6
                by_cases b7 : (g12_0 (u11_0 (g7_0 (g6_0 x0) x1 x2) 1) 1 != g11_0 (g7_0 (g6_0 x0) x1 x2) 1) = true
                · try simp only [if_pos b7] at h ⊢
                  exact AtV.ret Try.func3 tabOk ext3Ok mixed false [] tys3 [false, false, false, false, false, false, false, false, false, true] (a1 b0 (a1 s0 (a1 b1 (a1 s1 (a1 s2 (a1 s3 (a1 s4 (a1 trivial (a1 b2 (a1 b3 (a1 s5 (a1 trivial (a1 b4 (a1 s6 (a1 s7 (a1 b5 (a1 trivial (a1 b2 (a1 b3 (a1 s8 (a1 s9 (a1 s10 (a1 b6 (a1 b7 trivial)))))))))))))))))))))))) (by kernel_rfl)
                · try simp only [if_neg b7] at h ⊢
                  replace b7 := Bool.eq_false_iff.2 b7
                  obtain ⟨s11, h⟩ := h
                  obtain ⟨s12, h⟩ := h
                  obtain ⟨s13, h⟩ := h
                  exact AtV.ret Try.func3 tabOk ext3Ok mixed false [] tys3 [false, false, false, false, false, false, false, false, false, false, false, false, false, false] (a1 b0 (a1 s0 (a1 b1 (a1 s1 (a1 s2 (a1 s3 (a1 s4 (a1 trivial (a1 b2 (a1 b3 (a1 s5 (a1 trivial (a1 b4 (a1 s6 (a1 s7 (a1 b5 (a1 trivial (a1 b2 (a1 b3 (a1 s8 (a1 s9 (a1 s10 (a1 b6 (a1 b7 (a1 s11 (a1 s12 (a1 trivial (a1 b2 (a1 b3 (a1 s13 (a1 b6 (a1 b7 trivial)))))))))))))))))))))))))))))))) (by kernel_rfl)

def S3 : Am.Spec := { sig := sig3, pre := fun ⟨x0, x1, x2, _⟩ => P3 x0 x1 x2, res := fun ⟨x0, x1, x2, _⟩ => [⟨Ty.bool, g3_0 x0 x1 x2⟩], kds := kds3 }
theorem con3 : Contract Try.prog 3 S3 := contract_of Try.func3 hb3 (Nat.le_of_ble_eq_true (by kernel_rfl)) (fun ⟨x0, x1, x2, _⟩ h _ K q => at3 x0 x1 x2 h K q)


end
end Go.Proofs.Ytdmpjjgimgmkmaa

/- A law that says how functions of the program and of the specification hang together. -/
set_option linter.unusedVariables false
set_option linter.unusedSimpArgs false
set_option maxRecDepth 100000
namespace Go.Proofs.Ytdmpjjgimgmkmaa
open Go Go.Am Go.Proofs

theorem reportLine (s : ByteArray) : g18_0 s = g15_0 s := by
  unfold g18_0 g25c26_0 g15_0
  rw [any29c26]
  have hq : (!(bytesOf s).any g26_0) = (bytesOf s).all ok15 := by
    rw [List.not_any_eq_all_not]
    congr 1
    funext b
    simp only [g26_0, ok15]
    by_cases h1 : b < 32 <;> by_cases h2 : b > 126 <;> simp [h1, h2] <;> omega
  rw [hq]
  by_cases h : ((s.size : Nat) : Int) ≤ 100
  · have h' : s.size ≤ 100 := by omega
    simp [h, h']
  · have h' : ¬ s.size ≤ 100 := by omega
    simp [h, h']

theorem report (x : List ByteArray) : g16_0 x = g13_0 x := by
  unfold g16_0 g13_0 g23c24_0
  rw [any28c24]
  have hq : (!x.any g24_0) = x.all g15_0 := by
    rw [List.not_any_eq_all_not]
    congr 1
    funext b
    simp only [g24_0, reportLine, Bool.not_not]
  rw [hq]
  by_cases h : ((x.length : Nat) : Int) ≤ 200
  · have h' : x.length ≤ 200 := by omega
    simp [h, h']
  · have h' : ¬ x.length ≤ 200 := by omega
    simp [h, h']

end Go.Proofs.Ytdmpjjgimgmkmaa

/- A law that says how functions of the program and of the specification hang together. -/
set_option linter.unusedVariables false
set_option linter.unusedSimpArgs false
set_option maxRecDepth 100000
namespace Go.Proofs.Ytdmpjjgimgmkmaa
open Go Go.Am Go.Proofs

def ch (s : Nat) (x2 : ByteArray) : Nat → List ByteArray → List (List ByteArray)
  | 0, _ => []
  | k + 1, l => if l = [] then [] else (x2 :: l.take s) :: ch s x2 k (l.drop s)

theorem ch_nil (s : Nat) (x2 : ByteArray) : ∀ k, ch s x2 k [] = []
  | 0 => rfl
  | k + 1 => by simp [ch]

theorem pgs_ch (x0 : List ByteArray) (s : Nat) (x2 : ByteArray) : ∀ k f, pgs7 x0 s x2 k f = ch s x2 k (x0.drop f)
  | 0, f => rfl
  | k + 1, f => by
    unfold pgs7 ch
    by_cases h : f < x0.length
    · have hne : ¬ x0.drop f = [] := fun e => by have := congrArg List.length e; simp at this; omega
      rw [if_pos h, if_neg hne, pgs_ch x0 s x2 k (f + s), List.drop_drop]
    · rw [if_neg h, if_pos (List.drop_of_length_le (by omega))]

theorem st_cons (h : Int) (x2 y : ByteArray) (a b : List ByteArray) (T : List (List ByteArray)) : st5 h x2 (a :: b :: T) y = a :: st5 h x2 (b :: T) y := by
  have e : pg05 h x2 (a :: b :: T) = a :: pg05 h x2 (b :: T) := by
    unfold pg05
    by_cases hc : (((b :: T).getD ((b :: T).length - 1) []).length : Int) = h
    · rw [if_pos (Or.inr hc), if_pos (Or.inr (by simpa using hc))]
      rfl
    · have n1 : ¬ ((a :: b :: T).length = 0 ∨ (((a :: b :: T).getD ((a :: b :: T).length - 1) []).length : Int) = h) := by
        rintro (h1 | h1)
        · simp at h1
        · exact hc (by simpa using h1)
      have n2 : ¬ ((b :: T).length = 0 ∨ (((b :: T).getD ((b :: T).length - 1) []).length : Int) = h) := by
        rintro (h1 | h1)
        · simp at h1
        · exact hc h1
      rw [if_neg n1, if_neg n2]
  have hp : 0 < (pg05 h x2 (b :: T)).length := by
    unfold pg05
    split <;> simp
  unfold st5
  rw [e]
  obtain ⟨n, hn⟩ : ∃ n, (pg05 h x2 (b :: T)).length = n + 1 := ⟨(pg05 h x2 (b :: T)).length - 1, by omega⟩
  rw [List.length_cons, hn]
  simp

theorem st_ch (s : Nat) (x2 y : ByteArray) (h1 : 1 ≤ s) : ∀ (k : Nat) (l : List ByteArray), l.length ≤ k → st5 ((s : Int) + 1) x2 (ch s x2 k l) y = ch s x2 (k + 1) (l ++ [y])
  | k, [], _ => by
    have hs : ([y] : List ByteArray).take s = [y] := List.take_of_length_le (by simpa using h1)
    have hd : ([y] : List ByteArray).drop s = [] := List.drop_of_length_le (by simpa using h1)
    rw [ch_nil]
    simp only [ch, List.nil_append, hs, hd, ch_nil]
    simp [st5, pg05]
  | 0, a :: l, h => by simp at h
  | k + 1, a :: l, h => by
    obtain ⟨L, hL⟩ : ∃ L, a :: l = L := ⟨_, rfl⟩
    have hne : ¬ L = [] := by rw [← hL]; simp
    have hne2 : ¬ L ++ [y] = [] := by simp
    have e1 : ch s x2 (k + 1) L = (x2 :: L.take s) :: ch s x2 k (L.drop s) := by
      conv => lhs; unfold ch
      rw [if_neg hne]
    have e2 : ch s x2 (k + 1 + 1) (L ++ [y]) = (x2 :: (L ++ [y]).take s) :: ch s x2 (k + 1) ((L ++ [y]).drop s) := by
      conv => lhs; unfold ch
      rw [if_neg hne2]
    rw [hL] at h ⊢
    rw [e1, e2]
    rcases Nat.lt_trichotomy L.length s with hlt | heq | hgt
    · rw [List.take_of_length_le (by omega), List.drop_of_length_le (by omega), ch_nil, List.take_of_length_le (by simp; omega), List.drop_of_length_le (by simp; omega), ch_nil]
      unfold st5 pg05
      have n1 : ¬ (([x2 :: L] : List (List ByteArray)).length = 0 ∨ ((([x2 :: L] : List (List ByteArray)).getD (([x2 :: L] : List (List ByteArray)).length - 1) []).length : Int) = (s : Int) + 1) := by
        rintro (h2 | h2)
        · simp at h2
        · simp at h2; omega
      rw [if_neg n1]
      simp
    · rw [List.take_of_length_le (by omega), List.drop_of_length_le (by omega), ch_nil, List.take_append_of_le_length (by omega), List.take_of_length_le (by omega), List.drop_append_of_le_length (by omega), List.drop_of_length_le (by omega), List.nil_append]
      have hk : ch s x2 (k + 1) [y] = [[x2, y]] := by
        have hs : ([y] : List ByteArray).take s = [y] := List.take_of_length_le (by simpa using h1)
        have hd : ([y] : List ByteArray).drop s = [] := List.drop_of_length_le (by simpa using h1)
        simp [ch, hs, hd, ch_nil]
      rw [hk]
      have n1 : ([x2 :: L] : List (List ByteArray)).length = 0 ∨ ((([x2 :: L] : List (List ByteArray)).getD (([x2 :: L] : List (List ByteArray)).length - 1) []).length : Int) = (s : Int) + 1 := Or.inr (by simp; omega)
      unfold st5 pg05
      rw [if_pos n1]
      simp
    · rw [List.take_append_of_le_length (by omega), List.drop_append_of_le_length (by omega)]
      rw [← st_ch s x2 y h1 k (L.drop s) (by rw [List.length_drop]; omega)]
      have hne3 : ¬ L.drop s = [] := fun e => by have := congrArg List.length e; simp at this; omega
      obtain ⟨k', rfl⟩ : ∃ k', k = k' + 1 := ⟨k - 1, by omega⟩
      have e3 : ch s x2 (k' + 1) (L.drop s) = (x2 :: (L.drop s).take s) :: ch s x2 k' ((L.drop s).drop s) := by
        conv => lhs; unfold ch
        rw [if_neg hne3]
      rw [e3, st_cons]

theorem fold_ch (s : Nat) (x2 : ByteArray) (h1 : 1 ≤ s) (l : List ByteArray) : l.foldl (st5 ((s : Int) + 1) x2) [] = ch s x2 (l.length + 1) l := by
  have key : ∀ (n : Nat) (l : List ByteArray), l.length = n → l.foldl (st5 ((s : Int) + 1) x2) [] = ch s x2 (l.length + 1) l := by
    intro n
    induction n with
    | zero =>
      intro l hl
      rw [List.eq_nil_of_length_eq_zero hl]
      rw [ch_nil]
      rfl
    | succ n ih =>
      intro l hl
      rcases List.eq_nil_or_concat l with rfl | ⟨r, y, rfl⟩
      · simp at hl
      · rw [List.concat_eq_append] at hl ⊢
        have hr : r.length = n := by simpa using hl
        rw [List.foldl_append, List.foldl_cons, List.foldl_nil, ih r hr, st_ch s x2 y h1 (r.length + 1) r (by omega)]
        simp
  exact key _ l rfl

theorem pages_eq (x0 : List ByteArray) (x1 : Int) (x2 : ByteArray) (h : 2 ≤ x1) : x0.foldl (st5 x1 x2) [] = pgs7 x0 (x1 - 1).toNat x2 (x0.length + 1) 0 := by
  have e : x1 = ((x1 - 1).toNat : Int) + 1 := by omega
  rw [pgs_ch, List.drop_zero, ← fold_ch (x1 - 1).toNat x2 (by omega) x0, ← e]

end Go.Proofs.Ytdmpjjgimgmkmaa

/- A law that says how functions of the program and of the specification hang together. -/
set_option linter.unusedVariables false
set_option linter.unusedSimpArgs false
set_option maxRecDepth 100000
namespace Go.Proofs.Ytdmpjjgimgmkmaa
open Go Go.Am Go.Proofs

theorem marked_strs (xs : List ByteArray) (h : xs.length ≤ 1048576) : P10 xs 1 ∧ (u10_0 xs 1).length = xs.length ∧ ¬ g10_0 xs 1 < 0 := by
  have hl : (u10_0 xs 1).length = xs.length := by rw [u10_0, M10_len]
  refine ⟨⟨by omega, by omega⟩, hl, ?_⟩
  unfold g10_0
  omega

end Go.Proofs.Ytdmpjjgimgmkmaa

/- The plain law of FnExactPagesOf. -/
set_option linter.unusedVariables false
set_option linter.unusedSimpArgs false
set_option maxRecDepth 100000
namespace Go.Proofs.Ytdmpjjgimgmkmaa
open Go Go.Am Go.Proofs

theorem markedA (xs : List ByteArray) (k : Int) (h0 : 0 ≤ k) (h : k + xs.length ≤ 9223372036854775807) : P22 (u10_0 xs k) k ∧ (u10_0 xs k).length = xs.length := by
  have hl : (u10_0 xs k).length = xs.length := by rw [u10_0, M10_len]
  refine ⟨⟨⟨h0, by rw [hl]; exact h⟩, fun i hi => ?_⟩, hl⟩
  rw [hl] at hi
  rw [getD_lt _ _ _ (by rw [hl]; exact hi)]
  simp [u10_0, M10]

theorem heldA : ∀ (ps : List (List ByteArray)) (k : Int), 0 ≤ k → k + (tot11 ps : Nat) ≤ 9223372036854775807 → hd12 (mm11 k ps) k ∧ ht12 (mm11 k ps) = tot11 ps
  | [], _, _, _ => ⟨trivial, rfl⟩
  | x :: r, k, h0, h => by
    simp only [tot11] at h
    obtain ⟨a1, a2⟩ := markedA x k h0 (by omega)
    obtain ⟨b1, b2⟩ := heldA r (k + (x.length : Int)) (by omega) (by omega)
    simp only [mm11, hd12, ht12, tot11, a2, b2]
    exact ⟨⟨a1, b1⟩, trivial⟩

theorem totA : ∀ (ps : List (List ByteArray)), (∀ p ∈ ps, p.length ≤ 1001) → tot11 ps ≤ 1001 * ps.length
  | [], _ => Nat.zero_le _
  | x :: r, h => by
    have h1 := h x (List.mem_cons_self ..)
    have h2 := totA r (fun p hp => h p (List.mem_cons_of_mem _ hp))
    simp only [tot11, List.length_cons]
    omega

theorem within_in (a b c : Int) : g17_0 a b c = g14_0 a b c := by
  unfold g17_0 g14_0
  by_cases h1 : a ≥ b <;> by_cases h2 : a ≤ c <;> simp [h1, h2]

theorem pages_all (x : List ByteArray) (x1 : Int) (x2 : ByteArray) : g7_0 x x1 x2 = g5_0 x x1 x2 ∧ g7_1 x x1 x2 = g5_1 x x1 x2 ∧ tot11 (g7_0 x x1 x2) ≤ 1002001 := by
  unfold g7_0 g7_1 g5_0 g5_1
  rw [report, reportLine, within_in]
  cases hv : g13_0 x with
  | false => exact ⟨rfl, rfl, Nat.zero_le _⟩
  | true =>
    cases hw : g14_0 x1 2 200 with
    | false => exact ⟨rfl, rfl, Nat.zero_le _⟩
    | true =>
      cases hr : g15_0 x2 with
      | false => exact ⟨rfl, rfl, Nat.zero_le _⟩
      | true =>
        have hl := vlen5 x hv
        have hb : 2 ≤ x1 := by
          rw [← within_in] at hw
          unfold g17_0 at hw
          split at hw
          · rename_i h1; exact of_decide_eq_true h1
          · cases hw
        obtain ⟨m1, m2⟩ := pgsmem7 x (x1 - 1).toNat x2 hl (x.length + 1) 0
        refine ⟨(pages_eq x x1 x2 hb).symm, rfl, ?_⟩
        show tot11 (pgs7 x (x1 - 1).toNat x2 (x.length + 1) 0) ≤ 1002001
        have := totA _ (fun p hp => (m2 p hp).1)
        omega

theorem law3 (x : List ByteArray) (x1 : Int) (x2 : ByteArray) (hw : Wf (.sl .str) x) (hw1 : Wf (.int .i64) x1) (hw2 : Wf .str x2) : P3 x x1 x2 ∧ g3_0 x x1 x2 = true := by
  unfold P3 g3_0
  by_cases hc : ((x2.size : Nat) : Int) > 1048576
  · simp only [hc, decide_true, if_true, and_true]
  have hz : P4 x 1048576 := (show (0 : Int) ≤ 1048576 from by decide)
  by_cases h : g4_0 x 1048576 < 0
  · simp only [hc, h, hz, decide_true, decide_false, Bool.false_eq_true, if_false, if_true, and_true]
  · have hs := sz4_sum x 1048576 h
    have hp : P6 x := by
      show 16 * (x.length : Int) ≤ 281474976710656
      omega
    have p5 : P5 x x1 x2 := trivial
    have p7 : P7 x x1 x2 := trivial
    obtain ⟨e0, e1, ht⟩ := pages_all x x1 x2
    obtain ⟨c1, c2, c3⟩ := marked_strs x (by omega)
    rw [e0] at ht
    obtain ⟨d1, d2⟩ := heldA (g5_0 x x1 x2) 1 (by decide) (by omega)
    have q1 : P11 (g5_0 x x1 x2) 1 := ⟨by decide, by omega⟩
    have q2 : (u11_0 (g5_0 x x1 x2) 1).length = (g5_0 x x1 x2).length := mm11_len _ _
    have q3 : P12 (u11_0 (g5_0 x x1 x2) 1) 1 := ⟨by decide, d1⟩
    have q4 : g12_0 (u11_0 (g5_0 x x1 x2) 1) 1 = g11_0 (g5_0 x x1 x2) 1 := by
      unfold g12_0 g11_0 u11_0
      rw [d2]
    have q5 : ¬ g11_0 (g5_0 x x1 x2) 1 < 0 := by
      unfold g11_0
      omega
    simp only [hc, h, decide_false, Bool.false_eq_true, if_false, g6_0, e0, e1, p5, p7, g9_0, g8_0, decide_true, Bool.not_true, bne_self_eq_false, beq_self_eq_true, c1, c2, c3, q1, q2, q3, q4, q5, hp, hz, true_and, and_self]

end Go.Proofs.Ytdmpjjgimgmkmaa
