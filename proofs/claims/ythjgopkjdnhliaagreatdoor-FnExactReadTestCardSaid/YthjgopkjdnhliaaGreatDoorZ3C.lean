/- Several texts in one: the functions that this law reaches, and their laws. -/
import Derived.Test.YthjgopkjdnhliaaGreatDoorZ3A
import Derived.Test.YthjgopkjdnhliaaGreatDoorZ3B
import Derived.Test.YthjgopkjdnhliaaGreatDoorRows
import Derived.KernelRfl
import Derived.Shelf.Vars
import Derived.Shelf.Strings.Builder1
import Derived.Shelf.Strings.Builder2
import Derived.Shelf.Strings.OnBuilder
import Derived.Shelf.Strings.BuilderF
import Derived.Shelf.Strings.BuilderK
import Derived.Shelf.Utf8.RuneCount
import Derived.Shelf.Strconv.Itoa0
import Derived.Shelf.Strconv.Itoa1
import Derived.Shelf.LaysM
import Derived.Shelf.Strconv.Itoa2
import Derived.Shelf.Strconv.Itoa3
import Derived.Shelf.Strconv.Itoa4
import Derived.Shelf.Strconv.ParseIntEmpty
import Derived.Shelf.Strconv.Clone
import Derived.Shelf.Strconv.SyntaxError
import Derived.Shelf.LaysC
import Derived.Shelf.Strconv.ToError
import Derived.Shelf.Strconv.Lower
import Derived.Shelf.Strconv.ParseUint10
import Derived.Shelf.Strconv.ParseUint10Empty
import Derived.Shelf.Strconv.ParseUint10Any
import Derived.Shelf.Strconv.ParseInt10
import Derived.Shelf.Strconv.RangeError
import Derived.Shelf.Strconv.ToErrorRange
import Derived.Shelf.Strconv.ParseUintEmpty
import Derived.Shelf.Strconv.ParseUint10b64
import Derived.Shelf.Strconv.ParseUint10b32
import Derived.Shelf.Strconv.ParseUint10b16
import Derived.Shelf.Strconv.ParseUint10b8
import Derived.Shelf.Strconv.ParseUint10At
import Derived.Shelf.Strconv.ParseInt10At64
import Derived.Shelf.Strconv.ParseInt10At32
import Derived.Shelf.Strconv.ParseInt10At16
import Derived.Shelf.Strconv.ParseInt10At8
import Derived.Shelf.Strconv.ParseInt10All
import Derived.Shelf.Strconv.ParseIntPublic10
import Derived.Shelf.Strings.Search1
import Derived.Shelf.Strings.Search2
import Derived.Shelf.Strings.Search3
import Derived.Shelf.Strings.Cut
import Derived.Shelf.Strings.Count
import Derived.Shelf.Strings.Shaped
import Derived.Shelf.Strings.Prefix
import Derived.Shelf.Strings.Split
import Derived.Shelf.Strings.SplitShaped
import Derived.Shelf.Unicode.Decode
import Derived.Shelf.Strings.RuneCount
import Derived.Shelf.Strings.Explode
import Derived.Shelf.Bits.Mul64
import Derived.Shelf.Strings.Repeat
import Derived.Shelf.Unicode.DecodeSlow
import Derived.Shelf.Unicode.DecodeAny
import Derived.WalkKit
import Derived.Lib.TrimByte

/- The abstract machine, part 41: slices.Insert of one element: from its runs to its contract. -/
namespace Go.Am
set_option linter.unusedVariables false
set_option linter.unusedSimpArgs false
open Go.RowKit (Below)

def insertSpec (t : Ty) : Spec := { sig := [AT.own t, AT.v (.int .i64), AT.own t], pre := fun ⟨x0, x1, x2, _⟩ => 0 ≤ x1 ∧ x1 ≤ x0.length ∧ x2.length = 1 ∧ x0.length ≤ 1048576, upd := fun _ => [none, none], res := fun ⟨x0, x1, x2, _⟩ => [⟨.sl t, x0.take x1.toNat ++ (x2 ++ x0.drop x1.toNat)⟩] }

theorem insert_contract {P : Program} {f : FuncId} {t : Ty} {e : TypeId} (hf : t.flat = true)
    (hshift : ∀ (w : World) (xs ys : List t.den) (b off cap : Nat) (cur : Array Value) (ty : TypeId) (fz : Nat × Nat) (vb voff vcap : Nat) (vcur : Array Value) (vty : TypeId) (vfz : Nat × Nat) (i : Nat), OwnAt w t xs b off cap cur ty fz → OwnAt w t ys vb voff vcap vcur vty vfz → ys.length = 1 → vb ≠ b → i < xs.length → xs.length + 1 ≤ cap →
      Calls P f #[.slice (some ⟨b, off, none⟩) xs.length cap, .int .i64 i, .slice (some ⟨vb, voff, none⟩) 1 vcap] w fun r w' => r = .returned (.slice (some ⟨b, off, none⟩) (xs.length + 1) cap) ∧
        ∃ q, w' = ((w.drewN q).setCells b (off + (i + 1) * t.size) (fcs t (xs.drop i))).setCells b (off + i * t.size) (fcs t ys))
    (hgrow : ∀ (w : World) (xs ys : List t.den) (b off cap : Nat) (cur : Array Value) (ty : TypeId) (fz : Nat × Nat) (vb voff vcap : Nat) (vcur : Array Value) (vty : TypeId) (vfz : Nat × Nat) (i : Nat), OwnAt w t xs b off cap cur ty fz → OwnAt w t ys vb voff vcap vcur vty vfz → ys.length = 1 → vb ≠ b → i < xs.length → cap < xs.length + 1 → xs.length ≤ 1048576 →
      Calls P f #[.slice (some ⟨b, off, none⟩) xs.length cap, .int .i64 i, .slice (some ⟨vb, voff, none⟩) 1 vcap] w fun r w' => ∃ v', r = .returned v' ∧ w'.ownsRow w.heap.size e t.size v' (xs.length + 1) (fcs t (xs.take i ++ (ys ++ xs.drop i))) ∧ Below w.heap.size w w')
    (hend : ∀ (w : World) (xs ys : List t.den) (b off cap : Nat) (cur : Array Value) (ty : TypeId) (fz : Nat × Nat) (vb voff vcap : Nat) (vcur : Array Value) (vty : TypeId) (vfz : Nat × Nat), OwnAt w t xs b off cap cur ty fz → OwnAt w t ys vb voff vcap vcur vty vfz → ys.length = 1 → vb ≠ b → xs.length + 1 ≤ cap →
      Calls P f #[.slice (some ⟨b, off, none⟩) xs.length cap, .int .i64 xs.length, .slice (some ⟨vb, voff, none⟩) 1 vcap] w fun r w' => r = .returned (.slice (some ⟨b, off, none⟩) (xs.length + 1) cap) ∧
        ∃ q, w' = (w.drewN q).setCells b (off + xs.length * t.size) (fcs t ys))
    (hlast : ∀ (w : World) (xs ys : List t.den) (ad : Option Addr) (cap : Nat) (vb voff vcap : Nat) (vcur : Array Value) (vty : TypeId) (vfz : Nat × Nat), (∀ x ∈ xs, Wf t x) → xs.length ≤ cap → (ad = none → xs = []) → (∀ a, ad = some a → ∀ j u, (fcs t xs)[j]? = some u → w.cell? (a.add j) = some u) → OwnAt w t ys vb voff vcap vcur vty vfz → ys.length = 1 → cap < xs.length + 1 → xs.length ≤ 1048576 →
      Calls P f #[.slice ad xs.length cap, .int .i64 xs.length, .slice (some ⟨vb, voff, none⟩) 1 vcap] w fun r w' => ∃ v', r = .returned v' ∧ w'.ownsRow w.heap.size e t.size v' (xs.length + 1) (fcs t (xs ++ ys)) ∧ Below w.heap.size w w') :
    Contract P f (insertSpec t) := by
  rintro w ⟨z0, z1, z2, u⟩ vs bss hgo hp ⟨v, s, b0, bs0, rfl, rfl, ho, v1, s1, b1, bs1, rfl, rfl, ⟨rfl, rfl, _⟩, v2, s2, b2, bs2, rfl, rfl, ho2, rfl, rfl⟩ hn
  obtain ⟨x0, rfl⟩ : ∃ y : List t.den, y = z0 := ⟨z0, rfl⟩
  obtain ⟨x1, rfl⟩ : ∃ y : Int, y = z1 := ⟨z1, rfl⟩
  obtain ⟨x2, rfl⟩ : ∃ y : List t.den, y = z2 := ⟨z2, rfl⟩
  dsimp only
  obtain ⟨p0, p1, p2, p3⟩ : 0 ≤ x1 ∧ x1 ≤ x0.length ∧ x2.length = 1 ∧ x0.length ≤ 1048576 := hp
  obtain ⟨i, rfl⟩ : ∃ i : Nat, x1 = i := ⟨x1.toNat, by omega⟩
  have hi : i ≤ x0.length := by omega
  have ho' : OwnC w (.sl t) x0 [v] b0 := ho
  have ho2' : OwnC w (.sl t) x2 [v2] b2 := ho2
  obtain ⟨vb, voff, vcap, vcur, vty, vfz, rfl, rfl, hB⟩ := ownAt_of hf ho2' (by intro e; rw [e] at p2; simp at p2)
  rw [p2]
  have hwf2 := hB.wf
  -- a row of one's own
  have fresh : ∀ (ys : List t.den) (v' : Value) (w' : World), ys.length = x0.length + 1 → (∀ y ∈ ys, Wf t y) → w'.ownsRow w.heap.size e t.size v' (x0.length + 1) (fcs t ys) → Below w.heap.size w w' →
      ∃ rs ubs rbs, Ending.returned v' = .returned (packV rs) ∧ Kept [b0, [], [vb]].flatten w w' ∧ ResRep w' [⟨.sl t, ys⟩] rs rbs ∧ UpdRep w' [none, none] (ownVals [AT.own t, AT.v (.int .i64), AT.own t] [v, .int .i64 i, .slice (some ⟨vb, voff, none⟩) 1 vcap]) ubs ∧
        (ubs.flatten ++ rbs.flatten).Nodup ∧ ∀ d ∈ ubs.flatten ++ rbs.flatten, ¬ Am.Good w [b0, [], [vb]].flatten d := fun ys v' w' hl hw h1 h2 => by
    rw [← hl] at h1
    obtain ⟨bs, g1, g2, g3⟩ := own_of_row hf hw (by rw [hl]; unfold maxLen; omega) h1
    refine ⟨[v'], [[], []], [bs], rfl, (Kept.of_below h2).of_nil, ⟨_, _, _, _, _, rfl, rfl, g1, rfl, rfl, rfl⟩, ⟨_, _, _, rfl, rfl, _, _, _, rfl, rfl, rfl, rfl⟩, by simpa using g2, fun d hd hg => ?_⟩
    simp at hd
    have := g3 d hd
    have := hg.1
    omega
  -- what was there, written anew
  have wf3 : ∀ y ∈ x0.take i ++ (x2 ++ x0.drop i), Wf t y → True := fun _ _ _ => trivial
  obtain ⟨hw0, hm0, hcase⟩ := own_flat hf ho'
  have hws : ∀ y ∈ x0.take i ++ (x2 ++ x0.drop i), Wf t y := fun y hy => by
    rcases List.mem_append.1 hy with hy | hy
    · exact hw0 y (List.mem_of_mem_take hy)
    · rcases List.mem_append.1 hy with hy | hy
      · exact hwf2 y hy
      · exact hw0 y (List.mem_of_mem_drop hy)
  have hlens : (x0.take i ++ (x2 ++ x0.drop i)).length = x0.length + 1 := by
    simp only [List.length_append, List.length_take, List.length_drop, p2]
    omega
  rcases hcase with ⟨ad, rfl, rfl, rfl⟩ | ⟨b, off, cap, cur, ty, fz, rfl, h2, h3, h4, h5, h6, rfl, h8⟩
  · have hi0 : i = 0 := by simpa using hi
    subst hi0
    have := hlast w [] x2 ad 0 vb voff vcap vcur vty vfz (fun x h => by cases h) (Nat.le_refl _) (fun _ => rfl) (fun a _ j u hj => by simp [fcs] at hj) hB p2 (by simp) (by simp)
    refine this.mono ?_
    rintro r w' ⟨v', rfl, h1, h2⟩
    exact fresh _ v' w' hlens hws (by simpa using h1) h2
  · have hA : OwnAt w t x0 b off cap cur ty fz := ⟨hw0, h2, h3, h4, h5, h6, h8⟩
    have hvb : vb ≠ b := by
      simp only [List.flatten_cons, List.flatten_nil, List.append_nil, List.nil_append, List.cons_append, List.nodup_cons, List.mem_singleton] at hn
      exact fun e => hn.1 e.symm
    have place : ∀ (w' : World) (cur' : Array Value), Kept [b] w w' → w'.heap[b]? = some (.cells cur' ty fz) → cur'.size = cur.size → x0.length + 1 ≤ cap → (∀ j u, (fcs t (x0.take i ++ (x2 ++ x0.drop i)))[j]? = some u → cur'[off + j]? = some u) →
        ∃ rs ubs rbs, Ending.returned (.slice (some ⟨b, off, none⟩) (x0.length + 1) cap) = .returned (packV rs) ∧ Kept [[b], [], [vb]].flatten w w' ∧ ResRep w' [⟨.sl t, x0.take i ++ (x2 ++ x0.drop i)⟩] rs rbs ∧ UpdRep w' [none, none] (ownVals [AT.own t, AT.v (.int .i64), AT.own t] [.slice (some ⟨b, off, none⟩) x0.length cap, .int .i64 i, .slice (some ⟨vb, voff, none⟩) 1 vcap]) ubs ∧
          (ubs.flatten ++ rbs.flatten).Nodup ∧ ∀ d ∈ ubs.flatten ++ rbs.flatten, ¬ Am.Good w [[b], [], [vb]].flatten d := fun w' cur' hk hb hs hr hc => by
      have hres := own_flat_mk (w := w') hf hws (n := x0.length + 1) (b := b) (off := off) (cap := cap) (cur := cur') (ty := ty) (fz := fz) hlens.symm (by rw [hlens]; exact hr) h3 (by rw [hs]; exact h4) hb (by rw [hs]; exact h6) hc
      refine ⟨[_], [[], []], [[b]], rfl, hk.mono (fun k hk => by simp at hk; simp [hk]), ⟨_, _, _, _, _, rfl, rfl, hres, rfl, rfl, rfl⟩, ⟨_, _, _, rfl, rfl, _, _, _, rfl, rfl, rfl, rfl⟩, by simp, fun d hd hg => ?_⟩
      simp at hd
      subst hd
      exact hg.2 (by simp)
    have hdr : ∀ q, Kept [b] w (w.drewN q) := fun q => ⟨rfl, rfl, rfl, Nat.le_refl _, fun _ _ _ => rfl⟩
    have hlen2 : (fcs t x2).length = t.size := by rw [fcs_length hf hwf2, p2, Nat.one_mul]
    by_cases hroom : x0.length + 1 ≤ cap
    · have hle : (x0.length + 1) * t.size ≤ cap * t.size := Nat.mul_le_mul_right _ hroom
      rw [Nat.add_mul, Nat.one_mul] at hle
      by_cases hin : i = x0.length
      · subst hin
        refine (hend w x0 x2 b off cap cur ty fz vb voff vcap vcur vty vfz hA hB p2 hvb hroom).mono ?_
        rintro r w' ⟨rfl, q, rfl⟩
        have l1 : off + x0.length * t.size + (fcs t x2).length ≤ cur.size := by rw [hlen2]; omega
        obtain ⟨c1, g1, g2, g3, g4, g5, g6⟩ := setCells_block (fcs t x2) (show (w.drewN q).heap[b]? = some (.cells cur ty fz) from h5) l1
        refine place _ c1 ((hdr q).trans (setCells_kept _ h5 l1)) g1 g2 hroom (fun j u hu => ?_)
        rw [List.take_length, List.drop_length, List.append_nil, fcs_append] at hu
        have hl0 := fcs_length hf hw0
        by_cases hj : j < x0.length * t.size
        · rw [List.getElem?_append_left (by omega)] at hu
          rw [g4 _ (.inl (by omega))]
          exact h8 j u hu
        · rw [List.getElem?_append_right (by omega), hl0] at hu
          have := g3 _ u hu
          rwa [show off + x0.length * t.size + (j - x0.length * t.size) = off + j by omega] at this
      · have hlt : i < x0.length := by omega
        refine (hshift w x0 x2 b off cap cur ty fz vb voff vcap vcur vty vfz i hA hB p2 hvb hlt hroom).mono ?_
        rintro r w' ⟨rfl, q, rfl⟩
        have hd : (fcs t (x0.drop i)).length = (x0.length - i) * t.size := by rw [fcs_length hf (fun x hx => hw0 x (List.mem_of_mem_drop hx)), List.length_drop]
        have hti : (fcs t (x0.take i)).length = i * t.size := by rw [fcs_length hf (fun x hx => hw0 x (List.mem_of_mem_take hx)), List.length_take, Nat.min_eq_left (by omega)]
        have e1 : (i + 1) * t.size + (x0.length - i) * t.size = x0.length * t.size + t.size := by rw [← Nat.add_mul, ← Nat.succ_mul]; congr 1; omega
        have e2 : (i + 1) * t.size = i * t.size + t.size := Nat.succ_mul _ _
        have l1 : off + (i + 1) * t.size + (fcs t (x0.drop i)).length ≤ cur.size := by rw [hd]; omega
        obtain ⟨c1, g1, g2, g3, g4, g5, g6⟩ := setCells_block (fcs t (x0.drop i)) (show (w.drewN q).heap[b]? = some (.cells cur ty fz) from h5) l1
        have l2 : off + i * t.size + (fcs t x2).length ≤ c1.size := by rw [hlen2, g2]; omega
        obtain ⟨c2, k1, k2, k3, k4, k5, k6⟩ := setCells_block (fcs t x2) g1 l2
        refine place _ c2 (((hdr q).trans (setCells_kept _ h5 l1)).trans (setCells_kept _ g1 l2)) k1 (by rw [k2, g2]) hroom (fun j u hu => ?_)
        rw [fcs_append, fcs_append] at hu
        by_cases hj : j < i * t.size
        · rw [List.getElem?_append_left (by omega)] at hu
          rw [k4 _ (.inl (by omega)), g4 _ (.inl (by omega))]
          exact h8 j u (fcs_take hf hw0 i j u hu)
        · rw [List.getElem?_append_right (by omega), hti] at hu
          by_cases hj2 : j < i * t.size + t.size
          · rw [List.getElem?_append_left (by omega)] at hu
            have := k3 _ u hu
            rwa [show off + i * t.size + (j - i * t.size) = off + j by omega] at this
          · rw [List.getElem?_append_right (by omega), hlen2] at hu
            rw [k4 _ (.inr (by rw [hlen2]; omega))]
            have := g3 _ u hu
            rwa [show off + (i + 1) * t.size + (j - i * t.size - t.size) = off + j by omega] at this
    · by_cases hin : i = x0.length
      · subst hin
        have := hlast w x0 x2 (some ⟨b, off, none⟩) cap vb voff vcap vcur vty vfz hw0 h2 (fun h => by cases h) (fun a ha j u hj => by cases ha; rw [Addr.add_lit]; exact hA.cell j u hj) hB p2 (by omega) p3
        refine this.mono ?_
        rintro r w' ⟨v', rfl, h1, h2⟩
        exact fresh _ v' w' hlens hws (by rw [Int.toNat_natCast, List.take_length, List.drop_length, List.append_nil]; exact h1) h2
      · have hlt : i < x0.length := by omega
        refine (hgrow w x0 x2 b off cap cur ty fz vb voff vcap vcur vty vfz i hA hB p2 hvb hlt (by omega) p3).mono ?_
        rintro r w' ⟨v', rfl, h1, h2⟩
        exact fresh _ v' w' hlens hws h1 h2

end Go.Am

/- The types of this program, as the abstract machine reads them. -/
set_option linter.unusedVariables false
set_option linter.unusedSimpArgs false
set_option maxRecDepth 100000
namespace Go.Proofs.YthjgopkjdnhliaaGreatDoor
open Go Go.Am Go.Proofs
def tab : List TI := [TI.other,
  TI.other,
  TI.scal (Ty.int IntKind.i64),
  TI.scal (Ty.int IntKind.i64),
  TI.scal (Ty.bool),
  TI.scal (Ty.int IntKind.u8),
  TI.scal (Ty.int IntKind.u8),
  TI.struct (Ty.cons (Ty.int IntKind.i64) (Ty.cons (Ty.int IntKind.i64) (Ty.cons Ty.bool (Ty.cons (Ty.int IntKind.u8) Ty.unit)))),
  TI.struct (Ty.cons (Ty.int IntKind.i64) (Ty.cons (Ty.int IntKind.i64) (Ty.cons Ty.bool (Ty.cons (Ty.int IntKind.u8) Ty.unit)))),
  TI.scal (Ty.str),
  TI.scal (Ty.str),
  TI.scal (Ty.str),
  TI.scal (Ty.int IntKind.u64),
  TI.other,
  TI.other,
  TI.other,
  TI.other,
  TI.other,
  TI.other,
  TI.other,
  TI.other,
  TI.scal (Ty.int IntKind.i32),
  TI.struct (Ty.cons (Ty.int IntKind.i64) (Ty.cons (Ty.int IntKind.i64) (Ty.cons (Ty.int IntKind.i64) Ty.unit))),
  TI.struct (Ty.cons (Ty.int IntKind.i64) (Ty.cons (Ty.int IntKind.i64) (Ty.cons (Ty.int IntKind.i64) Ty.unit))),
  TI.other,
  TI.other,
  TI.other,
  TI.other,
  TI.other,
  TI.other,
  TI.other,
  TI.other,
  TI.slice 2 (Ty.int IntKind.i64) 8,
  TI.other,
  TI.other,
  TI.other,
  TI.slice 9 (Ty.str) 16,
  TI.other,
  TI.other,
  TI.other,
  TI.other,
  TI.other,
  TI.other,
  TI.other,
  TI.other,
  TI.other,
  TI.other,
  TI.other,
  TI.other,
  TI.other,
  TI.other,
  TI.other,
  TI.other,
  TI.other,
  TI.other,
  TI.slice 5 (Ty.int IntKind.u8) 1,
  TI.other,
  TI.other,
  TI.other,
  TI.other,
  TI.other,
  TI.other,
  TI.other,
  TI.other,
  TI.scal (Ty.int IntKind.u64),
  TI.other,
  TI.other,
  TI.other,
  TI.other,
  TI.other,
  TI.other,
  TI.other,
  TI.other,
  TI.other,
  TI.other,
  TI.other,
  TI.other,
  TI.other,
  TI.other,
  TI.other,
  TI.scal (Ty.int IntKind.u32),
  TI.other,
  TI.other,
  TI.other,
  TI.other,
  TI.other,
  TI.other,
  TI.other,
  TI.other,
  TI.other,
  TI.other,
  TI.other,
  TI.other,
  TI.other,
  TI.scal (Ty.int IntKind.u64),
  TI.other,
  TI.other,
  TI.other,
  TI.other,
  TI.other,
  TI.other,
  TI.other,
  TI.scal (Ty.int IntKind.i64),
  TI.other,
  TI.other,
  TI.other,
  TI.other,
  TI.other,
  TI.other,
  TI.other,
  TI.other,
  TI.other,
  TI.struct (Ty.cons (Ty.int IntKind.u8) (Ty.cons (Ty.int IntKind.u8) Ty.unit)),
  TI.struct (Ty.cons (Ty.int IntKind.u8) (Ty.cons (Ty.int IntKind.u8) Ty.unit)),
  TI.other,
  TI.other,
  TI.other,
  TI.other,
  TI.other,
  TI.other,
  TI.other,
  TI.other,
  TI.other,
  TI.other,
  TI.other,
  TI.other,
  TI.other,
  TI.struct (Ty.cons Ty.str Ty.unit),
  TI.struct (Ty.cons Ty.str Ty.unit),
  TI.other,
  TI.other,
  TI.other,
  TI.other,
  TI.other,
  TI.other,
  TI.other,
  TI.scal (Ty.int IntKind.u8),
  TI.scal (Ty.int IntKind.u8),
  TI.other,
  TI.scal (Ty.int IntKind.i32),
  TI.scal (Ty.int IntKind.i32)]

theorem tabOk : TabOk Tryz.prog tab := tabOk_of_check (by kernel_rfl)
theorem mixed : Tryz.prog.follows .mixedOrders = true := by kernel_rfl
theorem gv0 {W : World} (h : GInv W) : GHas W 0 (.int .i64) := h.1
theorem gcell0 (W : World) (h : W.ShapedOpen Tryz.prog) : ∃ m, W.cell? ⟨0, 0, none⟩ = some (.int .i64 m) :=
  Go.Proofs.cell_of_shapedOpen_int (zero := #[.int .i64 0]) (t := 3) h (of_decide_eq_true (by kernel_rfl)) (by kernel_rfl) rfl (by kernel_rfl) (by kernel_rfl) Tryz.underlying3
theorem gv3 {W : World} (h : GInv W) : GHas W 3 (.tab .u64 Lib.pow10Tab) := h.2.1
theorem gv4 {W : World} (h : GInv W) : GHas W 4 (.ifc) := h.2.2.1
theorem gv5 {W : World} (h : GInv W) : GHas W 5 (.ifc) := h.2.2.2.1
theorem maxLenG {W : World} (h : GInv W) : ∃ m, W.cell? ⟨0, 0, none⟩ = some (.int .i64 m) := gv0 h
theorem pow10G {W : World} (h : GInv W) : Lib.TabIs Tryz.prog W "internal/strconv.uint64pow10" .u64 Lib.pow10Tab := GHas.tab (by kernel_rfl) (gv3 h)
theorem errSyntaxG {W : World} (h : GInv W) : ∃ ev, W.cell? ⟨4, 0, none⟩ = some ev ∧ (ev = .nilIface ∨ ∃ te pe, ev = .iface te pe) := GHas.ifc_cell (gv4 h)
theorem errRangeG {W : World} (h : GInv W) : ∃ ev, W.cell? ⟨5, 0, none⟩ = some ev ∧ (ev = .nilIface ∨ ∃ te pe, ev = .iface te pe) := GHas.ifc_cell (gv5 h)
theorem ginv (W : World) (h : W.ShapedOpen Tryz.prog) (h3 : GHas W 3 (.tab .u64 Lib.pow10Tab)) (h4 : GHas W 4 (.ifc)) (h5 : GHas W 5 (.ifc)) : GInv W := ⟨gcell0 W h, h3, h4, h5, trivial⟩
end Go.Proofs.YthjgopkjdnhliaaGreatDoor

/- Function 27 (spec.l00In): its runs between cut points. Written by a program of this repo (gen). -/
set_option linter.unusedVariables false
set_option linter.unusedSimpArgs false
set_option maxRecDepth 100000
namespace Go.Proofs.YthjgopkjdnhliaaGreatDoor
open Go Go.Am Go.Proofs
def ext27 : Ext := []
theorem ext27Ok : ExtOk Tryz.prog ext27 := trivial
/-! Function 27. -/
noncomputable def b27 : Code := bodyOf Tryz.f27
theorem hb27 : Tryz.f27.body = some b27 := by kernel_rfl
def sig27 : List AT := [AT.v (Ty.int IntKind.i64), AT.v (Ty.int IntKind.i64), AT.v (Ty.int IntKind.i64)]
def tys27 : List Ty := [Ty.bool]
def P27 (x0 : Int) (x1 : Int) (x2 : Int) : Prop := True
def g27_0 (x0 : Int) (x1 : Int) (x2 : Int) : Bool := (if (Decidable.decide (x0 ≥ x1)) = true then Decidable.decide (x0 ≤ x2) else Bool.false)
theorem p27_0 (x0 : Int) (x1 : Int) (x2 : Int) : runF tab ext27 false 15 [] 2000 [] tys27 Tryz.f27.results [true] [.code b27] (entE 0 0 sig27 (x0, x1, x2, ())) (entL sig27 (x0, x1, x2, ())) = some ([Dyn.mk Ty.bool (Decidable.decide (x0 ≤ x2))], [], [Decidable.decide (x0 ≥ x1) = Bool.true]) := by kernel_rfl
theorem p27_1 (x0 : Int) (x1 : Int) (x2 : Int) : runF tab ext27 false 15 [] 2000 [] tys27 Tryz.f27.results [false] [.code b27] (entE 0 0 sig27 (x0, x1, x2, ())) (entL sig27 (x0, x1, x2, ())) = some ([Dyn.mk Ty.bool Bool.false], [], [Decidable.decide (x0 ≥ x1) = Bool.false]) := by kernel_rfl
theorem at27 (x0 : Int) (x1 : Int) (x2 : Int) (h : P27 x0 x1 x2) (w0 : World) (O : List Nat) (q : Nat → Value) : AtV Tryz.prog 27 (PostR [⟨Ty.bool, g27_0 x0 x1 x2⟩] [] [] q w0 O) 15 w0 O q [] [.code b27] (entE 0 0 sig27 (x0, x1, x2, ())) (entL sig27 (x0, x1, x2, ())) := by
  unfold P27 at h
  unfold g27_0
  by_cases b0 : (Decidable.decide (x0 ≥ x1)) = true
  · try simp only [if_pos b0] at h ⊢
    exact AtV.fin Tryz.func27 tabOk ext27Ok mixed (p27_0 x0 x1 x2) ⟨b0, trivial⟩
  · try simp only [if_neg b0] at h ⊢
    replace b0 := Bool.eq_false_iff.2 b0
    exact AtV.fin Tryz.func27 tabOk ext27Ok mixed (p27_1 x0 x1 x2) ⟨b0, trivial⟩

def S27 : Am.Spec := { sig := sig27, pre := fun ⟨x0, x1, x2, _⟩ => P27 x0 x1 x2, res := fun ⟨x0, x1, x2, _⟩ => [⟨Ty.bool, g27_0 x0 x1 x2⟩] }
theorem con27 : Contract Tryz.prog 27 S27 := contract_of Tryz.func27 hb27 (Nat.le_of_ble_eq_true (by kernel_rfl)) (fun ⟨x0, x1, x2, _⟩ h _ w0 O q => at27 x0 x1 x2 h w0 O q)


end Go.Proofs.YthjgopkjdnhliaaGreatDoor

/- Function 28 (spec.l02Day): its runs between cut points. Written by a program of this repo (gen). -/
set_option linter.unusedVariables false
set_option linter.unusedSimpArgs false
set_option maxRecDepth 100000
namespace Go.Proofs.YthjgopkjdnhliaaGreatDoor
open Go Go.Am Go.Proofs
def ext28 : Ext := [(27, S27)]
theorem call28_27 : Callable Tryz.prog 27 := ⟨Tryz.f27, Tryz.func27, by kernel_rfl, by kernel_rfl⟩
theorem ext28Ok : ExtOk Tryz.prog ext28 := ⟨⟨call28_27, con27⟩, trivial⟩
/-! Function 28. -/
noncomputable def b28 : Code := bodyOf Tryz.f28
theorem hb28 : Tryz.f28.body = some b28 := by kernel_rfl
def sig28 : List AT := [AT.v (Ty.int IntKind.i64)]
def tys28 : List Ty := [Ty.bool]
def P28 (x0 : Int) : Prop := True
def g28_0 (x0 : Int) : Bool := g27_0 x0 0 36524
theorem p28_0 (x0 : Int) : runF tab ext28 false 5 [] 2000 [] tys28 Tryz.f28.results [] [.code b28] (entE 0 0 sig28 (x0, ())) (entL sig28 (x0, ())) = some ([Dyn.mk Ty.bool (g27_0 x0 0 36524)], [], [True]) := by kernel_rfl
theorem at28 (x0 : Int) (h : P28 x0) (w0 : World) (O : List Nat) (q : Nat → Value) : AtV Tryz.prog 28 (PostR [⟨Ty.bool, g28_0 x0⟩] [] [] q w0 O) 5 w0 O q [] [.code b28] (entE 0 0 sig28 (x0, ())) (entL sig28 (x0, ())) := by
  unfold P28 at h
  unfold g28_0
  exact AtV.fin Tryz.func28 tabOk ext28Ok mixed (p28_0 x0) ⟨trivial, trivial⟩

def S28 : Am.Spec := { sig := sig28, pre := fun ⟨x0, _⟩ => P28 x0, res := fun ⟨x0, _⟩ => [⟨Ty.bool, g28_0 x0⟩] }
theorem con28 : Contract Tryz.prog 28 S28 := contract_of Tryz.func28 hb28 (Nat.le_of_ble_eq_true (by kernel_rfl)) (fun ⟨x0, _⟩ h _ w0 O q => at28 x0 h w0 O q)


end Go.Proofs.YthjgopkjdnhliaaGreatDoor

/- Function 29 (spec.l22Broken): its runs between cut points. Written by a program of this repo (gen). -/
set_option linter.unusedVariables false
set_option linter.unusedSimpArgs false
set_option maxRecDepth 100000
namespace Go.Proofs.YthjgopkjdnhliaaGreatDoor
open Go Go.Am Go.Proofs
def ext29 : Ext := [(27, S27)]
theorem call29_27 : Callable Tryz.prog 27 := ⟨Tryz.f27, Tryz.func27, by kernel_rfl, by kernel_rfl⟩
theorem ext29Ok : ExtOk Tryz.prog ext29 := ⟨⟨call29_27, con27⟩, trivial⟩
/-! Function 29. -/
noncomputable def b29 : Code := bodyOf Tryz.f29
theorem hb29 : Tryz.f29.body = some b29 := by kernel_rfl
def sig29 : List AT := [AT.v (Ty.int IntKind.i64)]
def tys29 : List Ty := [Ty.bool]
def P29 (x0 : Int) : Prop := True
def g29_0 (x0 : Int) : Bool := g27_0 x0 0 24000
theorem p29_0 (x0 : Int) : runF tab ext29 false 5 [] 2000 [] tys29 Tryz.f29.results [] [.code b29] (entE 0 0 sig29 (x0, ())) (entL sig29 (x0, ())) = some ([Dyn.mk Ty.bool (g27_0 x0 0 24000)], [], [True]) := by kernel_rfl
theorem at29 (x0 : Int) (h : P29 x0) (w0 : World) (O : List Nat) (q : Nat → Value) : AtV Tryz.prog 29 (PostR [⟨Ty.bool, g29_0 x0⟩] [] [] q w0 O) 5 w0 O q [] [.code b29] (entE 0 0 sig29 (x0, ())) (entL sig29 (x0, ())) := by
  unfold P29 at h
  unfold g29_0
  exact AtV.fin Tryz.func29 tabOk ext29Ok mixed (p29_0 x0) ⟨trivial, trivial⟩

def S29 : Am.Spec := { sig := sig29, pre := fun ⟨x0, _⟩ => P29 x0, res := fun ⟨x0, _⟩ => [⟨Ty.bool, g29_0 x0⟩] }
theorem con29 : Contract Tryz.prog 29 S29 := contract_of Tryz.func29 hb29 (Nat.le_of_ble_eq_true (by kernel_rfl)) (fun ⟨x0, _⟩ h _ w0 O q => at29 x0 h w0 O q)


end Go.Proofs.YthjgopkjdnhliaaGreatDoor

/- Function 15 (spec.l22One): its runs between cut points. Written by a program of this repo (gen). -/
set_option linter.unusedVariables false
set_option linter.unusedSimpArgs false
set_option maxRecDepth 100000
namespace Go.Proofs.YthjgopkjdnhliaaGreatDoor
open Go Go.Am Go.Proofs
def ext15 : Ext := [(28, S28), (29, S29), (27, S27)]
theorem call15_28 : Callable Tryz.prog 28 := ⟨Tryz.f28, Tryz.func28, by kernel_rfl, by kernel_rfl⟩
theorem call15_29 : Callable Tryz.prog 29 := ⟨Tryz.f29, Tryz.func29, by kernel_rfl, by kernel_rfl⟩
theorem call15_27 : Callable Tryz.prog 27 := ⟨Tryz.f27, Tryz.func27, by kernel_rfl, by kernel_rfl⟩
theorem ext15Ok : ExtOk Tryz.prog ext15 := ⟨⟨call15_28, con28⟩, ⟨call15_29, con29⟩, ⟨call15_27, con27⟩, trivial⟩
/-! Function 15. -/
noncomputable def b15 : Code := bodyOf Tryz.f15
theorem hb15 : Tryz.f15.body = some b15 := by kernel_rfl
def sig15 : List AT := [AT.p (Ty.cons (Ty.int IntKind.i64) (Ty.cons (Ty.int IntKind.i64) (Ty.cons (Ty.int IntKind.i64) Ty.unit)))]
def tys15 : List Ty := [Ty.bool]
def P15 (x0 : Int × Int × Int × Unit) : Prop := True
def g15_0 (x0 : Int × Int × Int × Unit) : Bool := (if (g28_0 (Prod.fst x0)) = true then (if (g29_0 (Prod.fst (Prod.snd x0))) = true then g27_0 (Prod.fst (Prod.snd (Prod.snd x0))) 0 1000 else Bool.false) else Bool.false)
theorem p15_0 (x0 : Int × Int × Int × Unit) : runF tab ext15 false 22 [] 2000 [] tys15 Tryz.f15.results [true, true] [.code b15] (entE 0 0 sig15 (x0, ())) (entL sig15 (x0, ())) = some ([Dyn.mk Ty.bool (g27_0 (Prod.fst (Prod.snd (Prod.snd x0))) 0 1000)], [], [True, g28_0 (Prod.fst x0) = Bool.true, True, g29_0 (Prod.fst (Prod.snd x0)) = Bool.true, True]) := by kernel_rfl
theorem p15_1 (x0 : Int × Int × Int × Unit) : runF tab ext15 false 22 [] 2000 [] tys15 Tryz.f15.results [true, false] [.code b15] (entE 0 0 sig15 (x0, ())) (entL sig15 (x0, ())) = some ([Dyn.mk Ty.bool Bool.false], [], [True, g28_0 (Prod.fst x0) = Bool.true, True, g29_0 (Prod.fst (Prod.snd x0)) = Bool.false]) := by kernel_rfl
theorem p15_2 (x0 : Int × Int × Int × Unit) : runF tab ext15 false 22 [] 2000 [] tys15 Tryz.f15.results [false, false] [.code b15] (entE 0 0 sig15 (x0, ())) (entL sig15 (x0, ())) = some ([Dyn.mk Ty.bool Bool.false], [], [True, g28_0 (Prod.fst x0) = Bool.false, Bool.false = Bool.false]) := by kernel_rfl
theorem at15 (x0 : Int × Int × Int × Unit) (h : P15 x0) (w0 : World) (O : List Nat) (q : Nat → Value) : AtV Tryz.prog 15 (PostR [⟨Ty.bool, g15_0 x0⟩] [] [] q w0 O) 22 w0 O q [] [.code b15] (entE 0 0 sig15 (x0, ())) (entL sig15 (x0, ())) := by
  unfold P15 at h
  unfold g15_0
  by_cases b0 : (g28_0 (Prod.fst x0)) = true
  · try simp only [if_pos b0] at h ⊢
    by_cases b1 : (g29_0 (Prod.fst (Prod.snd x0))) = true
    · try simp only [if_pos b1] at h ⊢
      exact AtV.fin Tryz.func15 tabOk ext15Ok mixed (p15_0 x0) ⟨trivial, b0, trivial, b1, trivial, trivial⟩
    · try simp only [if_neg b1] at h ⊢
      replace b1 := Bool.eq_false_iff.2 b1
      exact AtV.fin Tryz.func15 tabOk ext15Ok mixed (p15_1 x0) ⟨trivial, b0, trivial, b1, trivial⟩
  · try simp only [if_neg b0] at h ⊢
    replace b0 := Bool.eq_false_iff.2 b0
    exact AtV.fin Tryz.func15 tabOk ext15Ok mixed (p15_2 x0) ⟨trivial, b0, rfl, trivial⟩

def S15 : Am.Spec := { sig := sig15, pre := fun ⟨x0, _⟩ => P15 x0, res := fun ⟨x0, _⟩ => [⟨Ty.bool, g15_0 x0⟩] }
theorem con15 : Contract Tryz.prog 15 S15 := contract_of Tryz.func15 hb15 (Nat.le_of_ble_eq_true (by kernel_rfl)) (fun ⟨x0, _⟩ h _ w0 O q => at15 x0 h w0 O q)


end Go.Proofs.YthjgopkjdnhliaaGreatDoor

/- Function 32 (impl.within): its runs between cut points. Written by a program of this repo (gen). -/
set_option linter.unusedVariables false
set_option linter.unusedSimpArgs false
set_option maxRecDepth 100000
namespace Go.Proofs.YthjgopkjdnhliaaGreatDoor
open Go Go.Am Go.Proofs
def ext32 : Ext := []
theorem ext32Ok : ExtOk Tryz.prog ext32 := trivial
/-! Function 32. -/
noncomputable def b32 : Code := bodyOf Tryz.f32
theorem hb32 : Tryz.f32.body = some b32 := by kernel_rfl
def sig32 : List AT := [AT.v (Ty.int IntKind.i64), AT.v (Ty.int IntKind.i64), AT.v (Ty.int IntKind.i64)]
def tys32 : List Ty := [Ty.bool]
def P32 (x0 : Int) (x1 : Int) (x2 : Int) : Prop := True
def g32_0 (x0 : Int) (x1 : Int) (x2 : Int) : Bool := (if (Decidable.decide (x0 ≥ x1)) = true then Decidable.decide (x0 ≤ x2) else Bool.false)
theorem p32_0 (x0 : Int) (x1 : Int) (x2 : Int) : runF tab ext32 false 15 [] 2000 [] tys32 Tryz.f32.results [true] [.code b32] (entE 0 0 sig32 (x0, x1, x2, ())) (entL sig32 (x0, x1, x2, ())) = some ([Dyn.mk Ty.bool (Decidable.decide (x0 ≤ x2))], [], [Decidable.decide (x0 ≥ x1) = Bool.true]) := by kernel_rfl
theorem p32_1 (x0 : Int) (x1 : Int) (x2 : Int) : runF tab ext32 false 15 [] 2000 [] tys32 Tryz.f32.results [false] [.code b32] (entE 0 0 sig32 (x0, x1, x2, ())) (entL sig32 (x0, x1, x2, ())) = some ([Dyn.mk Ty.bool Bool.false], [], [Decidable.decide (x0 ≥ x1) = Bool.false]) := by kernel_rfl
theorem at32 (x0 : Int) (x1 : Int) (x2 : Int) (h : P32 x0 x1 x2) (w0 : World) (O : List Nat) (q : Nat → Value) : AtV Tryz.prog 32 (PostR [⟨Ty.bool, g32_0 x0 x1 x2⟩] [] [] q w0 O) 15 w0 O q [] [.code b32] (entE 0 0 sig32 (x0, x1, x2, ())) (entL sig32 (x0, x1, x2, ())) := by
  unfold P32 at h
  unfold g32_0
  by_cases b0 : (Decidable.decide (x0 ≥ x1)) = true
  · try simp only [if_pos b0] at h ⊢
    exact AtV.fin Tryz.func32 tabOk ext32Ok mixed (p32_0 x0 x1 x2) ⟨b0, trivial⟩
  · try simp only [if_neg b0] at h ⊢
    replace b0 := Bool.eq_false_iff.2 b0
    exact AtV.fin Tryz.func32 tabOk ext32Ok mixed (p32_1 x0 x1 x2) ⟨b0, trivial⟩

def S32 : Am.Spec := { sig := sig32, pre := fun ⟨x0, x1, x2, _⟩ => P32 x0 x1 x2, res := fun ⟨x0, x1, x2, _⟩ => [⟨Ty.bool, g32_0 x0 x1 x2⟩] }
theorem con32 : Contract Tryz.prog 32 S32 := contract_of Tryz.func32 hb32 (Nat.le_of_ble_eq_true (by kernel_rfl)) (fun ⟨x0, x1, x2, _⟩ h _ w0 O q => at32 x0 x1 x2 h w0 O q)


end Go.Proofs.YthjgopkjdnhliaaGreatDoor

/- Function 35 (impl.isDay): its runs between cut points. Written by a program of this repo (gen). -/
set_option linter.unusedVariables false
set_option linter.unusedSimpArgs false
set_option maxRecDepth 100000
namespace Go.Proofs.YthjgopkjdnhliaaGreatDoor
open Go Go.Am Go.Proofs
def ext35 : Ext := [(32, S32)]
theorem call35_32 : Callable Tryz.prog 32 := ⟨Tryz.f32, Tryz.func32, by kernel_rfl, by kernel_rfl⟩
theorem ext35Ok : ExtOk Tryz.prog ext35 := ⟨⟨call35_32, con32⟩, trivial⟩
/-! Function 35. -/
noncomputable def b35 : Code := bodyOf Tryz.f35
theorem hb35 : Tryz.f35.body = some b35 := by kernel_rfl
def sig35 : List AT := [AT.v (Ty.int IntKind.i64)]
def tys35 : List Ty := [Ty.bool]
def P35 (x0 : Int) : Prop := True
def g35_0 (x0 : Int) : Bool := g32_0 x0 0 36524
theorem p35_0 (x0 : Int) : runF tab ext35 false 5 [] 2000 [] tys35 Tryz.f35.results [] [.code b35] (entE 0 0 sig35 (x0, ())) (entL sig35 (x0, ())) = some ([Dyn.mk Ty.bool (g32_0 x0 0 36524)], [], [True]) := by kernel_rfl
theorem at35 (x0 : Int) (h : P35 x0) (w0 : World) (O : List Nat) (q : Nat → Value) : AtV Tryz.prog 35 (PostR [⟨Ty.bool, g35_0 x0⟩] [] [] q w0 O) 5 w0 O q [] [.code b35] (entE 0 0 sig35 (x0, ())) (entL sig35 (x0, ())) := by
  unfold P35 at h
  unfold g35_0
  exact AtV.fin Tryz.func35 tabOk ext35Ok mixed (p35_0 x0) ⟨trivial, trivial⟩

def S35 : Am.Spec := { sig := sig35, pre := fun ⟨x0, _⟩ => P35 x0, res := fun ⟨x0, _⟩ => [⟨Ty.bool, g35_0 x0⟩] }
theorem con35 : Contract Tryz.prog 35 S35 := contract_of Tryz.func35 hb35 (Nat.le_of_ble_eq_true (by kernel_rfl)) (fun ⟨x0, _⟩ h _ w0 O q => at35 x0 h w0 O q)


end Go.Proofs.YthjgopkjdnhliaaGreatDoor

/- Function 40 (impl.isShare): its runs between cut points. Written by a program of this repo (gen). -/
set_option linter.unusedVariables false
set_option linter.unusedSimpArgs false
set_option maxRecDepth 100000
namespace Go.Proofs.YthjgopkjdnhliaaGreatDoor
open Go Go.Am Go.Proofs
def ext40 : Ext := [(32, S32)]
theorem call40_32 : Callable Tryz.prog 32 := ⟨Tryz.f32, Tryz.func32, by kernel_rfl, by kernel_rfl⟩
theorem ext40Ok : ExtOk Tryz.prog ext40 := ⟨⟨call40_32, con32⟩, trivial⟩
/-! Function 40. -/
noncomputable def b40 : Code := bodyOf Tryz.f40
theorem hb40 : Tryz.f40.body = some b40 := by kernel_rfl
def sig40 : List AT := [AT.v (Ty.int IntKind.i64)]
def tys40 : List Ty := [Ty.bool]
def P40 (x0 : Int) : Prop := True
def g40_0 (x0 : Int) : Bool := g32_0 x0 0 1000
theorem p40_0 (x0 : Int) : runF tab ext40 false 5 [] 2000 [] tys40 Tryz.f40.results [] [.code b40] (entE 0 0 sig40 (x0, ())) (entL sig40 (x0, ())) = some ([Dyn.mk Ty.bool (g32_0 x0 0 1000)], [], [True]) := by kernel_rfl
theorem at40 (x0 : Int) (h : P40 x0) (w0 : World) (O : List Nat) (q : Nat → Value) : AtV Tryz.prog 40 (PostR [⟨Ty.bool, g40_0 x0⟩] [] [] q w0 O) 5 w0 O q [] [.code b40] (entE 0 0 sig40 (x0, ())) (entL sig40 (x0, ())) := by
  unfold P40 at h
  unfold g40_0
  exact AtV.fin Tryz.func40 tabOk ext40Ok mixed (p40_0 x0) ⟨trivial, trivial⟩

def S40 : Am.Spec := { sig := sig40, pre := fun ⟨x0, _⟩ => P40 x0, res := fun ⟨x0, _⟩ => [⟨Ty.bool, g40_0 x0⟩] }
theorem con40 : Contract Tryz.prog 40 S40 := contract_of Tryz.func40 hb40 (Nat.le_of_ble_eq_true (by kernel_rfl)) (fun ⟨x0, _⟩ h _ w0 O q => at40 x0 h w0 O q)


end Go.Proofs.YthjgopkjdnhliaaGreatDoor

/- Function 22 (impl.isTest): its runs between cut points. Written by a program of this repo (gen). -/
set_option linter.unusedVariables false
set_option linter.unusedSimpArgs false
set_option maxRecDepth 100000
namespace Go.Proofs.YthjgopkjdnhliaaGreatDoor
open Go Go.Am Go.Proofs
def ext22 : Ext := [(35, S35), (32, S32), (40, S40)]
theorem call22_35 : Callable Tryz.prog 35 := ⟨Tryz.f35, Tryz.func35, by kernel_rfl, by kernel_rfl⟩
theorem call22_32 : Callable Tryz.prog 32 := ⟨Tryz.f32, Tryz.func32, by kernel_rfl, by kernel_rfl⟩
theorem call22_40 : Callable Tryz.prog 40 := ⟨Tryz.f40, Tryz.func40, by kernel_rfl, by kernel_rfl⟩
theorem ext22Ok : ExtOk Tryz.prog ext22 := ⟨⟨call22_35, con35⟩, ⟨call22_32, con32⟩, ⟨call22_40, con40⟩, trivial⟩
/-! Function 22. -/
noncomputable def b22 : Code := bodyOf Tryz.f22
theorem hb22 : Tryz.f22.body = some b22 := by kernel_rfl
def sig22 : List AT := [AT.v (Ty.cons (Ty.int IntKind.i64) (Ty.cons (Ty.int IntKind.i64) (Ty.cons (Ty.int IntKind.i64) Ty.unit)))]
def tys22 : List Ty := [Ty.bool]
def P22 (x0 : Int × Int × Int × Unit) : Prop := True
def g22_0 (x0 : Int × Int × Int × Unit) : Bool := (if (g35_0 (Prod.fst x0)) = true then (if (g32_0 (Prod.fst (Prod.snd x0)) 0 24000) = true then g40_0 (Prod.fst (Prod.snd (Prod.snd x0))) else Bool.false) else Bool.false)
theorem p22_0 (x0 : Int × Int × Int × Unit) : runF tab ext22 false 16 [] 2000 [] tys22 Tryz.f22.results [true, true] [.code b22] (entE 0 0 sig22 (x0, ())) (entL sig22 (x0, ())) = some ([Dyn.mk Ty.bool (g40_0 (Prod.fst (Prod.snd (Prod.snd x0))))], [], [True, g35_0 (Prod.fst x0) = Bool.true, True, g32_0 (Prod.fst (Prod.snd x0)) 0 24000 = Bool.true, True]) := by kernel_rfl
theorem p22_1 (x0 : Int × Int × Int × Unit) : runF tab ext22 false 16 [] 2000 [] tys22 Tryz.f22.results [true, false] [.code b22] (entE 0 0 sig22 (x0, ())) (entL sig22 (x0, ())) = some ([Dyn.mk Ty.bool Bool.false], [], [True, g35_0 (Prod.fst x0) = Bool.true, True, g32_0 (Prod.fst (Prod.snd x0)) 0 24000 = Bool.false]) := by kernel_rfl
theorem p22_2 (x0 : Int × Int × Int × Unit) : runF tab ext22 false 16 [] 2000 [] tys22 Tryz.f22.results [false, false] [.code b22] (entE 0 0 sig22 (x0, ())) (entL sig22 (x0, ())) = some ([Dyn.mk Ty.bool Bool.false], [], [True, g35_0 (Prod.fst x0) = Bool.false, Bool.false = Bool.false]) := by kernel_rfl
theorem at22 (x0 : Int × Int × Int × Unit) (h : P22 x0) (w0 : World) (O : List Nat) (q : Nat → Value) : AtV Tryz.prog 22 (PostR [⟨Ty.bool, g22_0 x0⟩] [] [] q w0 O) 16 w0 O q [] [.code b22] (entE 0 0 sig22 (x0, ())) (entL sig22 (x0, ())) := by
  unfold P22 at h
  unfold g22_0
  by_cases b0 : (g35_0 (Prod.fst x0)) = true
  · try simp only [if_pos b0] at h ⊢
    by_cases b1 : (g32_0 (Prod.fst (Prod.snd x0)) 0 24000) = true
    · try simp only [if_pos b1] at h ⊢
      exact AtV.fin Tryz.func22 tabOk ext22Ok mixed (p22_0 x0) ⟨trivial, b0, trivial, b1, trivial, trivial⟩
    · try simp only [if_neg b1] at h ⊢
      replace b1 := Bool.eq_false_iff.2 b1
      exact AtV.fin Tryz.func22 tabOk ext22Ok mixed (p22_1 x0) ⟨trivial, b0, trivial, b1, trivial⟩
  · try simp only [if_neg b0] at h ⊢
    replace b0 := Bool.eq_false_iff.2 b0
    exact AtV.fin Tryz.func22 tabOk ext22Ok mixed (p22_2 x0) ⟨trivial, b0, rfl, trivial⟩

def S22 : Am.Spec := { sig := sig22, pre := fun ⟨x0, _⟩ => P22 x0, res := fun ⟨x0, _⟩ => [⟨Ty.bool, g22_0 x0⟩] }
theorem con22 : Contract Tryz.prog 22 S22 := contract_of Tryz.func22 hb22 (Nat.le_of_ble_eq_true (by kernel_rfl)) (fun ⟨x0, _⟩ h _ w0 O q => at22 x0 h w0 O q)


end Go.Proofs.YthjgopkjdnhliaaGreatDoor

/- The contracts of the library that this program uses, laid at this program. Written by a tool of the kit. -/
set_option linter.unusedVariables false
set_option maxRecDepth 100000
namespace Go.Proofs
open Go.Shelf
def Tryz.lays169_ren : Go.Shelf.Ren := ⟨fun | 169 => 61 | n => n, fun | 70 => 73 | 9 => 9 | 0 => 0 | 72 => 75 | 37 => 55 | 127 => 91 | 3 => 3 | 5 => 5 | n => n, fun | n => n⟩
theorem Tryz.lays169 : Go.Proofs.Lays.n169 Tryz.prog Tryz.lays169_ren := {
  mixed := by kernel_rfl
  f169 := Tryz.func61.trans (congrArg some (by kernel_rfl))
  t0 := Tryz.underlying0
  a0 := Tryz.isAgg0
  z0 := Tryz.sizeOf0
  v0 := Tryz.zeroValue0
  t3 := Tryz.underlying3
  a3 := Tryz.isAgg3
  z3 := Tryz.sizeOf3
  v3 := Tryz.zeroValue3
  t9 := Tryz.underlying9
  a9 := Tryz.isAgg9
  z9 := Tryz.sizeOf9
  v9 := Tryz.zeroValue9
  t37 := Tryz.underlying55
  a37 := Tryz.isAgg55
  z37 := Tryz.sizeOf55
  v37 := Tryz.zeroValue55
  t70 := Tryz.underlying73
  a70 := Tryz.isAgg73
  z70 := Tryz.sizeOf73
  v70 := Tryz.zeroValue73
  t72 := Tryz.underlying75
  a72 := Tryz.isAgg75
  z72 := Tryz.sizeOf75
  v72 := Tryz.zeroValue75
  t127 := Tryz.underlying91
  a127 := Tryz.isAgg91
  z127 := Tryz.sizeOf91
  v127 := Tryz.zeroValue91 }
theorem Tryz.Builder_Extra_169 : Builder.Extra Tryz.prog Tryz.lays169_ren := {
  sizeBuilder := by kernel_rfl
  liesBuilder := by kernel_rfl
  t5 := Tryz.underlying5
  a5 := Tryz.isAgg5
  z5 := Tryz.sizeOf5
  v5 := Tryz.zeroValue5
  infoByte := by kernel_rfl
  cellsByte := by kernel_rfl
  sizeByte := by kernel_rfl
  neB5 := by decide }
def Tryz.lays156_ren : Go.Shelf.Ren := ⟨fun | 156 => 44 | 165 => 59 | 166 => 60 | 169 => 61 | 240 => 74 | 241 => 75 | 276 => 89 | 277 => 90 | n => n, fun | 31 => 36 | 9 => 9 | 3 => 3 | 4 => 4 | 0 => 0 | 20 => 20 | 72 => 75 | 76 => 77 | 70 => 73 | 37 => 55 | 75 => 69 | 127 => 91 | 164 => 108 | 5 => 5 | 80 => 79 | n => n, fun | n => n⟩
theorem Tryz.lays156 : Go.Proofs.Lays.n156 Tryz.prog Tryz.lays156_ren := {
  mixed := by kernel_rfl
  f156 := Tryz.func44.trans (congrArg some (by kernel_rfl))
  f165 := Tryz.func59.trans (congrArg some (by kernel_rfl))
  f166 := Tryz.func60.trans (congrArg some (by kernel_rfl))
  f169 := Tryz.func61.trans (congrArg some (by kernel_rfl))
  f240 := Tryz.func74.trans (congrArg some (by kernel_rfl))
  f241 := Tryz.func75.trans (congrArg some (by kernel_rfl))
  f276 := Tryz.func89.trans (congrArg some (by kernel_rfl))
  f277 := Tryz.func90.trans (congrArg some (by kernel_rfl))
  t0 := Tryz.underlying0
  a0 := Tryz.isAgg0
  z0 := Tryz.sizeOf0
  v0 := Tryz.zeroValue0
  t3 := Tryz.underlying3
  a3 := Tryz.isAgg3
  z3 := Tryz.sizeOf3
  v3 := Tryz.zeroValue3
  t4 := Tryz.underlying4
  a4 := Tryz.isAgg4
  z4 := Tryz.sizeOf4
  v4 := Tryz.zeroValue4
  t9 := Tryz.underlying9
  a9 := Tryz.isAgg9
  z9 := Tryz.sizeOf9
  v9 := Tryz.zeroValue9
  t20 := Tryz.underlying20
  a20 := Tryz.isAgg20
  z20 := Tryz.sizeOf20
  v20 := Tryz.zeroValue20
  t31 := Tryz.underlying36
  a31 := Tryz.isAgg36
  z31 := Tryz.sizeOf36
  v31 := Tryz.zeroValue36
  t37 := Tryz.underlying55
  a37 := Tryz.isAgg55
  z37 := Tryz.sizeOf55
  v37 := Tryz.zeroValue55
  t70 := Tryz.underlying73
  a70 := Tryz.isAgg73
  z70 := Tryz.sizeOf73
  v70 := Tryz.zeroValue73
  t72 := Tryz.underlying75
  a72 := Tryz.isAgg75
  z72 := Tryz.sizeOf75
  v72 := Tryz.zeroValue75
  t75 := Tryz.underlying69
  a75 := Tryz.isAgg69
  z75 := Tryz.sizeOf69
  v75 := Tryz.zeroValue69
  t76 := Tryz.underlying77
  a76 := Tryz.isAgg77
  z76 := Tryz.sizeOf77
  v76 := Tryz.zeroValue77
  t127 := Tryz.underlying91
  a127 := Tryz.isAgg91
  z127 := Tryz.sizeOf91
  v127 := Tryz.zeroValue91
  t164 := Tryz.underlying108
  a164 := Tryz.isAgg108
  z164 := Tryz.sizeOf108
  v164 := Tryz.zeroValue108 }
theorem Tryz.Builder_Extra_156 : Builder.Extra Tryz.prog Tryz.lays156_ren := {
  sizeBuilder := by kernel_rfl
  liesBuilder := by kernel_rfl
  t5 := Tryz.underlying5
  a5 := Tryz.isAgg5
  z5 := Tryz.sizeOf5
  v5 := Tryz.zeroValue5
  infoByte := by kernel_rfl
  cellsByte := by kernel_rfl
  sizeByte := by kernel_rfl
  neB5 := by decide }
open Go.RowKit in theorem Tryz.strings_Join_none (a : Option Addr) (c : Nat) (sep : ByteArray) (w : World) :
    Calls Tryz.prog 44 #[.slice a 0 c, .string sep] w fun e w' => e = .returned (.string ⟨#[]⟩) ∧ w' = w := Any.strings_Join_none Tryz.lays156 Tryz.Builder_Extra_156 a c sep w
open Go.RowKit in theorem Tryz.strings_Join (bk o c : Nat) (xs : List ByteArray) (sep : ByteArray) (w : World) (hcells : ∀ (j : Nat) x, xs[j]? = some x → w.cell? ⟨bk, o + j, none⟩ = some (.string x)) (hbk : bk < w.heap.size) (hN : xs.length ≤ 140737488355328) (hcap : xs.length ≤ c) (hlen : (Lib.join (xs.map (·.data.toList)) sep.data.toList).length ≤ 140737488355328) :
    Calls Tryz.prog 44 #[.slice (some ⟨bk, o, none⟩) xs.length c, .string sep] w fun e w' => e = .returned (.string ⟨(Lib.join (xs.map (·.data.toList)) sep.data.toList).toArray⟩) ∧ Below w.heap.size w w' := Any.strings_Join Tryz.lays156 Tryz.Builder_Extra_156 bk o c xs sep w hcells hbk hN hcap hlen
open Go.RowKit in theorem Tryz.Builder_String_any_k (B b : Nat) (l : List UInt8) (w : World) (h : Lib.IsBuilderF 75 5 B b (Lib.byteCells l) w) (hBw : B ≤ w.heap.size) :
    Calls Tryz.prog 61 #[.pointer (some ⟨b, 0, none⟩)] w fun e w' => e = .returned (.string ⟨l.toArray⟩) ∧ (Lib.IsBuilderF 75 5 B b (Lib.byteCells l) w' ∧ Below B w w' ∧ Lib.OthersKept 5 (some b) w w') := Any.Builder_String_any_k Tryz.lays169 Tryz.Builder_Extra_169 B b l w h hBw
def Tryz.laysM173_ren : Go.Shelf.Ren := ⟨fun | 173 => 54 | 246 => 67 | 283 => 77 | 284 => 78 | 285 => 79 | 286 => 80 | 129 => 92 | 317 => 91 | 318 => 93 | 319 => 94 | 320 => 95 | 337 => 101 | 338 => 102 | n => n, fun | 2 => 2 | 3 => 3 | 9 => 9 | 4 => 4 | 171 => 93 | 0 => 0 | 53 => 94 | 37 => 55 | 5 => 5 | 173 => 97 | 212 => 116 | 51 => 80 | 20 => 20 | 213 => 117 | 46 => 64 | 232 => 129 | 233 => 130 | n => n, fun | 17 => 3 | 18 => 6 | 19 => 7 | n => n⟩
theorem Tryz.laysM173 : Go.Proofs.LaysM.n173 Tryz.prog Tryz.laysM173_ren := {
  mixed := by kernel_rfl
  f129 := Tryz.func92.trans (congrArg some (by kernel_rfl))
  f173 := Tryz.func54.trans (congrArg some (by kernel_rfl))
  f246 := Tryz.func67.trans (congrArg some (by kernel_rfl))
  f283 := Tryz.func77.trans (congrArg some (by kernel_rfl))
  f284 := Tryz.func78.trans (congrArg some (by kernel_rfl))
  f285 := Tryz.func79.trans (congrArg some (by kernel_rfl))
  f286 := Tryz.func80.trans (congrArg some (by kernel_rfl))
  f317 := Tryz.func91.trans (congrArg some (by kernel_rfl))
  f318 := Tryz.func93.trans (congrArg some (by kernel_rfl))
  f319 := Tryz.func94.trans (congrArg some (by kernel_rfl))
  f320 := Tryz.func95.trans (congrArg some (by kernel_rfl))
  f337 := Tryz.func101.trans (congrArg some (by kernel_rfl))
  f338 := Tryz.func102.trans (congrArg some (by kernel_rfl))
  t0 := Tryz.underlying0
  a0 := Tryz.isAgg0
  z0 := Tryz.sizeOf0
  v0 := Tryz.zeroValue0
  t2 := Tryz.underlying2
  a2 := Tryz.isAgg2
  z2 := Tryz.sizeOf2
  v2 := Tryz.zeroValue2
  t3 := Tryz.underlying3
  a3 := Tryz.isAgg3
  z3 := Tryz.sizeOf3
  v3 := Tryz.zeroValue3
  t4 := Tryz.underlying4
  a4 := Tryz.isAgg4
  z4 := Tryz.sizeOf4
  v4 := Tryz.zeroValue4
  t5 := Tryz.underlying5
  a5 := Tryz.isAgg5
  z5 := Tryz.sizeOf5
  v5 := Tryz.zeroValue5
  t9 := Tryz.underlying9
  a9 := Tryz.isAgg9
  z9 := Tryz.sizeOf9
  v9 := Tryz.zeroValue9
  t20 := Tryz.underlying20
  a20 := Tryz.isAgg20
  z20 := Tryz.sizeOf20
  v20 := Tryz.zeroValue20
  t37 := Tryz.underlying55
  a37 := Tryz.isAgg55
  z37 := Tryz.sizeOf55
  v37 := Tryz.zeroValue55
  t46 := Tryz.underlying64
  a46 := Tryz.isAgg64
  z46 := Tryz.sizeOf64
  v46 := Tryz.zeroValue64
  t51 := Tryz.underlying80
  a51 := Tryz.isAgg80
  z51 := Tryz.sizeOf80
  v51 := Tryz.zeroValue80
  t53 := Tryz.underlying94
  a53 := Tryz.isAgg94
  z53 := Tryz.sizeOf94
  v53 := Tryz.zeroValue94
  t171 := Tryz.underlying93
  a171 := Tryz.isAgg93
  z171 := Tryz.sizeOf93
  v171 := Tryz.zeroValue93
  t173 := Tryz.underlying97
  a173 := Tryz.isAgg97
  z173 := Tryz.sizeOf97
  v173 := Tryz.zeroValue97
  t212 := Tryz.underlying116
  a212 := Tryz.isAgg116
  z212 := Tryz.sizeOf116
  v212 := Tryz.zeroValue116
  t213 := Tryz.underlying117
  a213 := Tryz.isAgg117
  z213 := Tryz.sizeOf117
  t232 := Tryz.underlying129
  a232 := Tryz.isAgg129
  z232 := Tryz.sizeOf129
  v232 := Tryz.zeroValue129
  t233 := Tryz.underlying130
  a233 := Tryz.isAgg130
  z233 := Tryz.sizeOf130
  v233 := Tryz.zeroValue130
  g17 := by kernel_rfl
  g18 := by kernel_rfl
  g19 := by kernel_rfl
  i0 := by kernel_rfl
  i2 := by kernel_rfl
  i3 := by kernel_rfl
  i4 := by kernel_rfl
  i5 := by kernel_rfl
  i9 := by kernel_rfl
  i20 := by kernel_rfl
  i37 := by kernel_rfl
  i46 := by kernel_rfl
  i51 := by kernel_rfl
  i53 := by kernel_rfl
  i171 := by kernel_rfl
  i173 := by kernel_rfl
  i212 := by kernel_rfl
  i232 := by kernel_rfl
  i233 := by kernel_rfl
  m17 := by kernel_rfl
  m18 := by kernel_rfl
  m19 := by kernel_rfl }
open Go.RowKit Go.Sort Go.Lib in theorem Tryz.strconv_FormatInt_10 (n : Int) (h0 : -9223372036854775808 ≤ n) (h1 : n ≤ 9223372036854775807) (w : World) (htab : Lib.TabIs Tryz.prog w "internal/strconv.uint64pow10" .u64 Lib.pow10Tab) :
    Calls Tryz.prog 54 #[.int .i64 n, .int .i64 10] w fun e w' => e = .returned (.string ⟨(Lib.itoa n).toArray⟩) ∧ ∃ k os, w' = grow (w.drewN k) os := Any.strconv_FormatInt_10 Tryz.laysM173 n h0 h1 w htab
def Tryz.laysC174_ren : Go.Shelf.Ren := ⟨fun | 174 => 57 | 247 => 72 | 245 => 73 | 287 => 84 | 279 => 85 | 280 => 86 | 281 => 87 | 282 => 88 | 321 => 96 | 322 => 97 | 316 => 98 | 171 => 100 | 205 => 99 | 243 => 103 | 246 => 67 | 283 => 77 | 284 => 78 | 285 => 79 | 286 => 80 | 129 => 92 | 317 => 91 | 318 => 93 | 319 => 94 | 320 => 95 | 337 => 101 | 338 => 102 | n => n, fun | 9 => 9 | 3 => 3 | 2 => 2 | 75 => 69 | 85 => 70 | 4 => 4 | 167 => 102 | 5 => 5 | 53 => 94 | 175 => 103 | 46 => 64 | 168 => 105 | 37 => 55 | 0 => 0 | 210 => 123 | 21 => 21 | 127 => 91 | 145 => 128 | 143 => 126 | 171 => 93 | 173 => 97 | 212 => 116 | 51 => 80 | 20 => 20 | 213 => 117 | 232 => 129 | 233 => 130 | 80 => 79 | n => n, fun | 15 => 4 | 16 => 5 | 17 => 3 | 18 => 6 | 19 => 7 | n => n⟩
theorem Tryz.laysC174 : Go.Proofs.LaysC.n174 Tryz.prog Tryz.laysC174_ren := {
  mixed := by kernel_rfl
  f129 := Tryz.func92.trans (congrArg some (by kernel_rfl))
  f171 := Tryz.func100.trans (congrArg some (by kernel_rfl))
  f174 := Tryz.func57.trans (congrArg some (by kernel_rfl))
  f205 := Tryz.func99.trans (congrArg some (by kernel_rfl))
  f243 := Tryz.func103.trans (congrArg some (by kernel_rfl))
  f245 := Tryz.func73.trans (congrArg some (by kernel_rfl))
  f246 := Tryz.func67.trans (congrArg some (by kernel_rfl))
  f247 := Tryz.func72.trans (congrArg some (by kernel_rfl))
  f279 := Tryz.func85.trans (congrArg some (by kernel_rfl))
  f280 := Tryz.func86.trans (congrArg some (by kernel_rfl))
  f281 := Tryz.func87.trans (congrArg some (by kernel_rfl))
  f282 := Tryz.func88.trans (congrArg some (by kernel_rfl))
  f283 := Tryz.func77.trans (congrArg some (by kernel_rfl))
  f284 := Tryz.func78.trans (congrArg some (by kernel_rfl))
  f285 := Tryz.func79.trans (congrArg some (by kernel_rfl))
  f286 := Tryz.func80.trans (congrArg some (by kernel_rfl))
  f287 := Tryz.func84.trans (congrArg some (by kernel_rfl))
  f316 := Tryz.func98.trans (congrArg some (by kernel_rfl))
  f317 := Tryz.func91.trans (congrArg some (by kernel_rfl))
  f318 := Tryz.func93.trans (congrArg some (by kernel_rfl))
  f319 := Tryz.func94.trans (congrArg some (by kernel_rfl))
  f320 := Tryz.func95.trans (congrArg some (by kernel_rfl))
  f321 := Tryz.func96.trans (congrArg some (by kernel_rfl))
  f322 := Tryz.func97.trans (congrArg some (by kernel_rfl))
  f337 := Tryz.func101.trans (congrArg some (by kernel_rfl))
  f338 := Tryz.func102.trans (congrArg some (by kernel_rfl))
  t0 := Tryz.underlying0
  a0 := Tryz.isAgg0
  z0 := Tryz.sizeOf0
  v0 := Tryz.zeroValue0
  t2 := Tryz.underlying2
  a2 := Tryz.isAgg2
  z2 := Tryz.sizeOf2
  v2 := Tryz.zeroValue2
  t3 := Tryz.underlying3
  a3 := Tryz.isAgg3
  z3 := Tryz.sizeOf3
  v3 := Tryz.zeroValue3
  t4 := Tryz.underlying4
  a4 := Tryz.isAgg4
  z4 := Tryz.sizeOf4
  v4 := Tryz.zeroValue4
  t5 := Tryz.underlying5
  a5 := Tryz.isAgg5
  z5 := Tryz.sizeOf5
  v5 := Tryz.zeroValue5
  t9 := Tryz.underlying9
  a9 := Tryz.isAgg9
  z9 := Tryz.sizeOf9
  v9 := Tryz.zeroValue9
  t20 := Tryz.underlying20
  a20 := Tryz.isAgg20
  z20 := Tryz.sizeOf20
  v20 := Tryz.zeroValue20
  t21 := Tryz.underlying21
  a21 := Tryz.isAgg21
  z21 := Tryz.sizeOf21
  v21 := Tryz.zeroValue21
  t37 := Tryz.underlying55
  a37 := Tryz.isAgg55
  z37 := Tryz.sizeOf55
  v37 := Tryz.zeroValue55
  t46 := Tryz.underlying64
  a46 := Tryz.isAgg64
  z46 := Tryz.sizeOf64
  v46 := Tryz.zeroValue64
  t51 := Tryz.underlying80
  a51 := Tryz.isAgg80
  z51 := Tryz.sizeOf80
  v51 := Tryz.zeroValue80
  t53 := Tryz.underlying94
  a53 := Tryz.isAgg94
  z53 := Tryz.sizeOf94
  v53 := Tryz.zeroValue94
  t75 := Tryz.underlying69
  a75 := Tryz.isAgg69
  z75 := Tryz.sizeOf69
  v75 := Tryz.zeroValue69
  t85 := Tryz.underlying70
  a85 := Tryz.isAgg70
  z85 := Tryz.sizeOf70
  v85 := Tryz.zeroValue70
  t127 := Tryz.underlying91
  a127 := Tryz.isAgg91
  z127 := Tryz.sizeOf91
  v127 := Tryz.zeroValue91
  t143 := Tryz.underlying126
  a143 := Tryz.isAgg126
  z143 := Tryz.sizeOf126
  v143 := Tryz.zeroValue126
  t145 := Tryz.underlying128
  a145 := Tryz.isAgg128
  z145 := Tryz.sizeOf128
  v145 := Tryz.zeroValue128
  t167 := Tryz.underlying102
  a167 := Tryz.isAgg102
  z167 := Tryz.sizeOf102
  v167 := Tryz.zeroValue102
  t168 := Tryz.underlying105
  a168 := Tryz.isAgg105
  z168 := Tryz.sizeOf105
  v168 := Tryz.zeroValue105
  t171 := Tryz.underlying93
  a171 := Tryz.isAgg93
  z171 := Tryz.sizeOf93
  v171 := Tryz.zeroValue93
  t173 := Tryz.underlying97
  a173 := Tryz.isAgg97
  z173 := Tryz.sizeOf97
  v173 := Tryz.zeroValue97
  t175 := Tryz.underlying103
  a175 := Tryz.isAgg103
  z175 := Tryz.sizeOf103
  v175 := Tryz.zeroValue103
  t210 := Tryz.underlying123
  a210 := Tryz.isAgg123
  z210 := Tryz.sizeOf123
  v210 := Tryz.zeroValue123
  t212 := Tryz.underlying116
  a212 := Tryz.isAgg116
  z212 := Tryz.sizeOf116
  v212 := Tryz.zeroValue116
  t213 := Tryz.underlying117
  a213 := Tryz.isAgg117
  z213 := Tryz.sizeOf117
  t232 := Tryz.underlying129
  a232 := Tryz.isAgg129
  z232 := Tryz.sizeOf129
  v232 := Tryz.zeroValue129
  t233 := Tryz.underlying130
  a233 := Tryz.isAgg130
  z233 := Tryz.sizeOf130
  v233 := Tryz.zeroValue130
  g15 := by kernel_rfl
  g16 := by kernel_rfl
  g17 := by kernel_rfl
  g18 := by kernel_rfl
  g19 := by kernel_rfl
  t80 := Tryz.underlying79
  a80 := Tryz.isAgg79
  z80 := Tryz.sizeOf79
  v80 := Tryz.zeroValue79
  i0 := by kernel_rfl
  i2 := by kernel_rfl
  i3 := by kernel_rfl
  i4 := by kernel_rfl
  i5 := by kernel_rfl
  i9 := by kernel_rfl
  i20 := by kernel_rfl
  i21 := by kernel_rfl
  i37 := by kernel_rfl
  i46 := by kernel_rfl
  i51 := by kernel_rfl
  i53 := by kernel_rfl
  i75 := by kernel_rfl
  i80 := by kernel_rfl
  i85 := by kernel_rfl
  i127 := by kernel_rfl
  i143 := by kernel_rfl
  i145 := by kernel_rfl
  i167 := by kernel_rfl
  i168 := by kernel_rfl
  i171 := by kernel_rfl
  i173 := by kernel_rfl
  i175 := by kernel_rfl
  i210 := by kernel_rfl
  i212 := by kernel_rfl
  i232 := by kernel_rfl
  i233 := by kernel_rfl
  m15 := by kernel_rfl
  m16 := by kernel_rfl
  m17 := by kernel_rfl
  m18 := by kernel_rfl
  m19 := by kernel_rfl
  c0 := by kernel_rfl
  c2 := by kernel_rfl
  c3 := by kernel_rfl
  c4 := by kernel_rfl
  c5 := by kernel_rfl
  c9 := by kernel_rfl
  c20 := by kernel_rfl
  c21 := by kernel_rfl
  c37 := by kernel_rfl
  c46 := by kernel_rfl
  c51 := by kernel_rfl
  c53 := by kernel_rfl
  c75 := by kernel_rfl
  c80 := by kernel_rfl
  c85 := by kernel_rfl
  c127 := by kernel_rfl
  c143 := by kernel_rfl
  c145 := by kernel_rfl
  c167 := by kernel_rfl
  c168 := by kernel_rfl
  c171 := by kernel_rfl
  c173 := by kernel_rfl
  c175 := by kernel_rfl
  c210 := by kernel_rfl
  c212 := by kernel_rfl
  c213 := by kernel_rfl
  c232 := by kernel_rfl
  c233 := by kernel_rfl }
open Go.RowKit in theorem Tryz.strconv_ParseInt_10_at64_ok (s : ByteArray) (hmax : s.size ≤ 9223372036854775806) (v : Int) (h : Lib.parseIntB 64 s.data.toList = .ok v) (w : World) :
    Calls Tryz.prog 57 #[.string s, .int .i64 10, .int .i64 64] w fun e w' => e = .returned (.tuple #[.int .i64 v, .nilIface]) ∧ (w' = w ∨ ∃ t, w' = Lib.bytesWorld w 5 t) := Any.strconv_ParseInt_10_at64_ok Tryz.laysC174 s hmax v h w
open Go.RowKit in theorem Tryz.strconv_ParseInt_10_at64_syntax (s : ByteArray) (hlim : s.size ≤ 281474976710656) (h : Lib.parseIntB 64 s.data.toList = .syntax) (ev : Value) (w : World) (hv : w.cell? ⟨4, 0, none⟩ = some ev) (hev : ev = .nilIface ∨ ∃ te pe, ev = .iface te pe) :
    Calls Tryz.prog 57 #[.string s, .int .i64 10, .int .i64 64] w fun e w' => ∃ N, e = .returned (.tuple #[.int .i64 (0), .iface 105 (.pointer (some ⟨N, 0, none⟩))]) ∧ w.heap.size ≤ N ∧ w'.heap[N]? = some (.cells #[.string ⟨#[80, 97, 114, 115, 101, 73, 110, 116]⟩, .string s, ev] 123 (0, 0)) ∧ Below w.heap.size w w' := Any.strconv_ParseInt_10_at64_syntax Tryz.laysC174 s hlim h ev w hv hev
open Go.RowKit in theorem Tryz.strconv_ParseInt_10_at64_range (s : ByteArray) (hlim : s.size ≤ 281474976710656) (h : Lib.parseIntB 64 s.data.toList = .range) (ev : Value) (w : World) (hv : w.cell? ⟨5, 0, none⟩ = some ev) (hev : ev = .nilIface ∨ ∃ te pe, ev = .iface te pe) :
    Calls Tryz.prog 57 #[.string s, .int .i64 10, .int .i64 64] w fun e w' => ∃ N, e = .returned (.tuple #[.int .i64 (Lib.intSat 64 s.data.toList), .iface 105 (.pointer (some ⟨N, 0, none⟩))]) ∧ w.heap.size ≤ N ∧ w'.heap[N]? = some (.cells #[.string ⟨#[80, 97, 114, 115, 101, 73, 110, 116]⟩, .string s, ev] 123 (0, 0)) ∧ Below w.heap.size w w' := Any.strconv_ParseInt_10_at64_range Tryz.laysC174 s hlim h ev w hv hev
def Tryz.lays145_ren : Go.Shelf.Ren := ⟨fun | 145 => 8 | 220 => 16 | 219 => 30 | 217 => 47 | 225 => 48 | 224 => 49 | 267 => 50 | 266 => 62 | 314 => 63 | n => n, fun | 9 => 9 | 4 => 4 | 59 => 28 | 3 => 3 | 5 => 5 | 46 => 64 | 146 => 81 | 51 => 80 | n => n, fun | 1 => 0 | n => n⟩
theorem Tryz.lays145 : Go.Proofs.Lays.n145 Tryz.prog Tryz.lays145_ren := {
  mixed := by kernel_rfl
  f145 := Tryz.func8.trans (congrArg some (by kernel_rfl))
  f217 := Tryz.func47.trans (congrArg some (by kernel_rfl))
  f219 := Tryz.func30.trans (congrArg some (by kernel_rfl))
  f220 := Tryz.func16.trans (congrArg some (by kernel_rfl))
  f224 := Tryz.func49.trans (congrArg some (by kernel_rfl))
  f225 := Tryz.func48.trans (congrArg some (by kernel_rfl))
  f266 := Tryz.func62.trans (congrArg some (by kernel_rfl))
  f267 := Tryz.func50.trans (congrArg some (by kernel_rfl))
  f314 := Tryz.func63.trans (congrArg some (by kernel_rfl))
  t3 := Tryz.underlying3
  a3 := Tryz.isAgg3
  z3 := Tryz.sizeOf3
  v3 := Tryz.zeroValue3
  t4 := Tryz.underlying4
  a4 := Tryz.isAgg4
  z4 := Tryz.sizeOf4
  v4 := Tryz.zeroValue4
  t5 := Tryz.underlying5
  a5 := Tryz.isAgg5
  z5 := Tryz.sizeOf5
  v5 := Tryz.zeroValue5
  t9 := Tryz.underlying9
  a9 := Tryz.isAgg9
  z9 := Tryz.sizeOf9
  v9 := Tryz.zeroValue9
  t46 := Tryz.underlying64
  a46 := Tryz.isAgg64
  z46 := Tryz.sizeOf64
  v46 := Tryz.zeroValue64
  t51 := Tryz.underlying80
  a51 := Tryz.isAgg80
  z51 := Tryz.sizeOf80
  v51 := Tryz.zeroValue80
  t59 := Tryz.underlying28
  a59 := Tryz.isAgg28
  z59 := Tryz.sizeOf28
  v59 := Tryz.zeroValue28
  t146 := Tryz.underlying81
  a146 := Tryz.isAgg81
  z146 := Tryz.sizeOf81
  v146 := Tryz.zeroValue81
  g1 := by kernel_rfl }
open Go.RowKit Go.Lib in theorem Tryz.strings_Cut (s sep : ByteArray) (m : Int) (w : World) (hs : s.size < 4294967281) (hm : w.cell? ⟨0, 0, none⟩ = some (.int .i64 m)) :
    Calls Tryz.prog 8 #[.string s, .string sep] w fun e w' => e = .returned (.tuple #[.string ⟨(Lib.cut s.data.toList sep.data.toList).1.toArray⟩, .string ⟨(Lib.cut s.data.toList sep.data.toList).2.1.toArray⟩, .bool (Lib.cut s.data.toList sep.data.toList).2.2]) ∧ ∃ n, w' = w.drewN n := Any.strings_Cut Tryz.lays145 s sep m w hs hm
def Tryz.lays99_ren : Go.Shelf.Ren := ⟨fun | 99 => 69 | 206 => 83 | n => n, fun | 9 => 9 | 4 => 4 | 3 => 3 | n => n, fun | n => n⟩
theorem Tryz.lays99 : Go.Proofs.Lays.n99 Tryz.prog Tryz.lays99_ren := {
  mixed := by kernel_rfl
  f99 := Tryz.func69.trans (congrArg some (by kernel_rfl))
  f206 := Tryz.func83.trans (congrArg some (by kernel_rfl))
  t3 := Tryz.underlying3
  a3 := Tryz.isAgg3
  z3 := Tryz.sizeOf3
  v3 := Tryz.zeroValue3
  t4 := Tryz.underlying4
  a4 := Tryz.isAgg4
  z4 := Tryz.sizeOf4
  v4 := Tryz.zeroValue4
  t9 := Tryz.underlying9
  a9 := Tryz.isAgg9
  z9 := Tryz.sizeOf9
  v9 := Tryz.zeroValue9 }
open Go.RowKit Go.Lib in theorem Tryz.strings_HasPrefix (s p : ByteArray) (w : World) :
    Calls Tryz.prog 69 #[.string s, .string p] w fun e w' => e = .returned (.bool (Lib.hasPrefix s.data.toList p.data.toList)) ∧ w' = w := Any.strings_HasPrefix Tryz.lays99 s p w
def Tryz.lays101_ren : Go.Shelf.Ren := ⟨fun | 101 => 56 | 208 => 71 | 206 => 83 | n => n, fun | 9 => 9 | 4 => 4 | 3 => 3 | n => n, fun | n => n⟩
theorem Tryz.lays101 : Go.Proofs.Lays.n101 Tryz.prog Tryz.lays101_ren := {
  mixed := by kernel_rfl
  f101 := Tryz.func56.trans (congrArg some (by kernel_rfl))
  f206 := Tryz.func83.trans (congrArg some (by kernel_rfl))
  f208 := Tryz.func71.trans (congrArg some (by kernel_rfl))
  t3 := Tryz.underlying3
  a3 := Tryz.isAgg3
  z3 := Tryz.sizeOf3
  v3 := Tryz.zeroValue3
  t4 := Tryz.underlying4
  a4 := Tryz.isAgg4
  z4 := Tryz.sizeOf4
  v4 := Tryz.zeroValue4
  t9 := Tryz.underlying9
  a9 := Tryz.isAgg9
  z9 := Tryz.sizeOf9
  v9 := Tryz.zeroValue9 }
open Go.RowKit Go.Lib in theorem Tryz.strings_TrimPrefix (s p : ByteArray) (w : World) :
    Calls Tryz.prog 56 #[.string s, .string p] w fun e w' => e = .returned (.string ⟨(Lib.trimPrefix s.data.toList p.data.toList).toArray⟩) ∧ w' = w := Any.strings_TrimPrefix Tryz.lays101 s p w
def Tryz.lays146_ren : Go.Shelf.Ren := ⟨fun | 146 => 17 | 221 => 31 | 268 => 51 | 138 => 52 | 143 => 53 | 195 => 64 | 197 => 65 | 218 => 66 | 219 => 30 | 260 => 76 | 217 => 47 | 225 => 48 | 224 => 49 | 267 => 50 | 266 => 62 | 314 => 63 | n => n, fun | 9 => 9 | 31 => 36 | 3 => 3 | 4 => 4 | 0 => 0 | 105 => 84 | 21 => 21 | 5 => 5 | 46 => 64 | 119 => 111 | 139 => 114 | 138 => 113 | 146 => 81 | 51 => 80 | n => n, fun | 1 => 0 | 3 => 1 | 4 => 2 | n => n⟩
theorem Tryz.lays146 : Go.Proofs.Lays.n146 Tryz.prog Tryz.lays146_ren := {
  mixed := by kernel_rfl
  f138 := Tryz.func52.trans (congrArg some (by kernel_rfl))
  f143 := Tryz.func53.trans (congrArg some (by kernel_rfl))
  f146 := Tryz.func17.trans (congrArg some (by kernel_rfl))
  f195 := Tryz.func64.trans (congrArg some (by kernel_rfl))
  f197 := Tryz.func65.trans (congrArg some (by kernel_rfl))
  f217 := Tryz.func47.trans (congrArg some (by kernel_rfl))
  f218 := Tryz.func66.trans (congrArg some (by kernel_rfl))
  f219 := Tryz.func30.trans (congrArg some (by kernel_rfl))
  f221 := Tryz.func31.trans (congrArg some (by kernel_rfl))
  f224 := Tryz.func49.trans (congrArg some (by kernel_rfl))
  f225 := Tryz.func48.trans (congrArg some (by kernel_rfl))
  f260 := Tryz.func76.trans (congrArg some (by kernel_rfl))
  f266 := Tryz.func62.trans (congrArg some (by kernel_rfl))
  f267 := Tryz.func50.trans (congrArg some (by kernel_rfl))
  f268 := Tryz.func51.trans (congrArg some (by kernel_rfl))
  f314 := Tryz.func63.trans (congrArg some (by kernel_rfl))
  t0 := Tryz.underlying0
  a0 := Tryz.isAgg0
  z0 := Tryz.sizeOf0
  v0 := Tryz.zeroValue0
  t3 := Tryz.underlying3
  a3 := Tryz.isAgg3
  z3 := Tryz.sizeOf3
  v3 := Tryz.zeroValue3
  t4 := Tryz.underlying4
  a4 := Tryz.isAgg4
  z4 := Tryz.sizeOf4
  v4 := Tryz.zeroValue4
  t5 := Tryz.underlying5
  a5 := Tryz.isAgg5
  z5 := Tryz.sizeOf5
  v5 := Tryz.zeroValue5
  t9 := Tryz.underlying9
  a9 := Tryz.isAgg9
  z9 := Tryz.sizeOf9
  v9 := Tryz.zeroValue9
  t21 := Tryz.underlying21
  a21 := Tryz.isAgg21
  z21 := Tryz.sizeOf21
  v21 := Tryz.zeroValue21
  t31 := Tryz.underlying36
  a31 := Tryz.isAgg36
  z31 := Tryz.sizeOf36
  v31 := Tryz.zeroValue36
  t46 := Tryz.underlying64
  a46 := Tryz.isAgg64
  z46 := Tryz.sizeOf64
  v46 := Tryz.zeroValue64
  t51 := Tryz.underlying80
  a51 := Tryz.isAgg80
  z51 := Tryz.sizeOf80
  v51 := Tryz.zeroValue80
  t105 := Tryz.underlying84
  a105 := Tryz.isAgg84
  z105 := Tryz.sizeOf84
  v105 := Tryz.zeroValue84
  t119 := Tryz.underlying111
  a119 := Tryz.isAgg111
  z119 := Tryz.sizeOf111
  t138 := Tryz.underlying113
  a138 := Tryz.isAgg113
  z138 := Tryz.sizeOf113
  v138 := Tryz.zeroValue113
  t139 := Tryz.underlying114
  a139 := Tryz.isAgg114
  z139 := Tryz.sizeOf114
  v139 := Tryz.zeroValue114
  t146 := Tryz.underlying81
  a146 := Tryz.isAgg81
  z146 := Tryz.sizeOf81
  v146 := Tryz.zeroValue81
  g1 := by kernel_rfl
  g3 := by kernel_rfl
  g4 := by kernel_rfl }
open Go.RowKit Go.Lib in theorem Tryz.strings_Split (s sep : ByteArray) (m : Int) (w : World) (hs : s.size < 4294967281) (hm : w.cell? ⟨0, 0, none⟩ = some (.int .i64 m)) (h1 : 1 ≤ sep.size) :
    Calls Tryz.prog 17 #[.string s, .string sep] w fun e w' =>
      e = .returned (.slice (some ⟨w.heap.size, 0, none⟩) (Lib.countB s sep + 1) (Lib.countB s sep + 1)) ∧ w' = w.alloc (.cells ((Lib.splitB sep 0 (Lib.countB s sep) s).map Value.string).toArray 9) := Any.strings_Split Tryz.lays146 (by kernel_rfl) s sep m w hs hm h1
def Tryz.lays105_ren : Go.Shelf.Ren := ⟨fun | 105 => 55 | 212 => 68 | 99 => 69 | 165 => 59 | 166 => 60 | 170 => 70 | 169 => 61 | 263 => 81 | 264 => 82 | 206 => 83 | 240 => 74 | 241 => 75 | 276 => 89 | 277 => 90 | n => n, fun | 9 => 9 | 3 => 3 | 4 => 4 | 20 => 20 | 0 => 0 | 46 => 64 | 109 => 86 | 5 => 5 | 72 => 75 | 76 => 77 | 51 => 80 | 146 => 81 | 53 => 94 | 148 => 100 | 70 => 73 | 37 => 55 | 75 => 69 | 127 => 91 | 164 => 108 | 80 => 79 | n => n, fun | n => n⟩
theorem Tryz.lays105 : Go.Proofs.Lays.n105 Tryz.prog Tryz.lays105_ren := {
  mixed := by kernel_rfl
  f99 := Tryz.func69.trans (congrArg some (by kernel_rfl))
  f105 := Tryz.func55.trans (congrArg some (by kernel_rfl))
  f165 := Tryz.func59.trans (congrArg some (by kernel_rfl))
  f166 := Tryz.func60.trans (congrArg some (by kernel_rfl))
  f169 := Tryz.func61.trans (congrArg some (by kernel_rfl))
  f170 := Tryz.func70.trans (congrArg some (by kernel_rfl))
  f206 := Tryz.func83.trans (congrArg some (by kernel_rfl))
  f212 := Tryz.func68.trans (congrArg some (by kernel_rfl))
  f240 := Tryz.func74.trans (congrArg some (by kernel_rfl))
  f241 := Tryz.func75.trans (congrArg some (by kernel_rfl))
  f263 := Tryz.func81.trans (congrArg some (by kernel_rfl))
  f264 := Tryz.func82.trans (congrArg some (by kernel_rfl))
  f276 := Tryz.func89.trans (congrArg some (by kernel_rfl))
  f277 := Tryz.func90.trans (congrArg some (by kernel_rfl))
  t0 := Tryz.underlying0
  a0 := Tryz.isAgg0
  z0 := Tryz.sizeOf0
  v0 := Tryz.zeroValue0
  t3 := Tryz.underlying3
  a3 := Tryz.isAgg3
  z3 := Tryz.sizeOf3
  v3 := Tryz.zeroValue3
  t4 := Tryz.underlying4
  a4 := Tryz.isAgg4
  z4 := Tryz.sizeOf4
  v4 := Tryz.zeroValue4
  t5 := Tryz.underlying5
  a5 := Tryz.isAgg5
  z5 := Tryz.sizeOf5
  v5 := Tryz.zeroValue5
  t9 := Tryz.underlying9
  a9 := Tryz.isAgg9
  z9 := Tryz.sizeOf9
  v9 := Tryz.zeroValue9
  t20 := Tryz.underlying20
  a20 := Tryz.isAgg20
  z20 := Tryz.sizeOf20
  v20 := Tryz.zeroValue20
  t37 := Tryz.underlying55
  a37 := Tryz.isAgg55
  z37 := Tryz.sizeOf55
  v37 := Tryz.zeroValue55
  t46 := Tryz.underlying64
  a46 := Tryz.isAgg64
  z46 := Tryz.sizeOf64
  v46 := Tryz.zeroValue64
  t51 := Tryz.underlying80
  a51 := Tryz.isAgg80
  z51 := Tryz.sizeOf80
  v51 := Tryz.zeroValue80
  t53 := Tryz.underlying94
  a53 := Tryz.isAgg94
  z53 := Tryz.sizeOf94
  v53 := Tryz.zeroValue94
  t70 := Tryz.underlying73
  a70 := Tryz.isAgg73
  z70 := Tryz.sizeOf73
  v70 := Tryz.zeroValue73
  t72 := Tryz.underlying75
  a72 := Tryz.isAgg75
  z72 := Tryz.sizeOf75
  v72 := Tryz.zeroValue75
  t75 := Tryz.underlying69
  a75 := Tryz.isAgg69
  z75 := Tryz.sizeOf69
  v75 := Tryz.zeroValue69
  t76 := Tryz.underlying77
  a76 := Tryz.isAgg77
  z76 := Tryz.sizeOf77
  v76 := Tryz.zeroValue77
  t109 := Tryz.underlying86
  a109 := Tryz.isAgg86
  z109 := Tryz.sizeOf86
  v109 := Tryz.zeroValue86
  t127 := Tryz.underlying91
  a127 := Tryz.isAgg91
  z127 := Tryz.sizeOf91
  v127 := Tryz.zeroValue91
  t146 := Tryz.underlying81
  a146 := Tryz.isAgg81
  z146 := Tryz.sizeOf81
  v146 := Tryz.zeroValue81
  t148 := Tryz.underlying100
  a148 := Tryz.isAgg100
  z148 := Tryz.sizeOf100
  v148 := Tryz.zeroValue100
  t164 := Tryz.underlying108
  a164 := Tryz.isAgg108
  z164 := Tryz.sizeOf108
  v164 := Tryz.zeroValue108 }
theorem Tryz.Builder_Extra_105 : Builder.Extra Tryz.prog Tryz.lays105_ren := {
  sizeBuilder := by kernel_rfl
  liesBuilder := by kernel_rfl
  t5 := Tryz.underlying5
  a5 := Tryz.isAgg5
  z5 := Tryz.sizeOf5
  v5 := Tryz.zeroValue5
  infoByte := by kernel_rfl
  cellsByte := by kernel_rfl
  sizeByte := by kernel_rfl
  neB5 := by decide }
open Go.RowKit Go.Lib in theorem Tryz.strings_Repeat (s : ByteArray) (c : Nat) (w : World) (hc : c ≤ 9223372036854775807) (hlen : s.size * c ≤ 140737488355328) :
    Calls Tryz.prog 55 #[.string s, .int .i64 c] w fun e w' => e = .returned (.string ⟨(Lib.repeatL s.data.toList c).toArray⟩) ∧ Below w.heap.size w w' := Any.strings_Repeat Tryz.lays105 Tryz.Builder_Extra_105 s c w hc hlen
end Go.Proofs

/- Function 17 (strings.Split): its contract, off what is known of the library. -/
set_option linter.unusedVariables false
set_option linter.unusedSimpArgs false
set_option maxRecDepth 100000
namespace Go.Proofs.YthjgopkjdnhliaaGreatDoor
open Go Go.Am Go.Proofs

def sig17 : List AT := [AT.v Ty.str, AT.v Ty.str]
def g17_0 (x0 x1 : ByteArray) : List ByteArray := Lib.splitB x1 0 (Lib.countB x0 x1) x0
def P17 (x0 x1 : ByteArray) : Prop := x0.size < 4294967281 ∧ 1 ≤ x1.size
def S17 : Am.Spec := { sig := sig17, pre := fun ⟨x0, x1, _⟩ => P17 x0 x1, res := fun ⟨x0, x1, _⟩ => [⟨Ty.sl Ty.str, g17_0 x0 x1⟩] }

theorem con17 : Contract Tryz.prog 17 S17 := by
  rintro w ⟨x0, x1, u⟩ vs bss hgo hp ⟨v0, s0, b0, bs0, rfl, rfl, ⟨rfl, rfl, _⟩, v1, s1, b1, bs1, rfl, rfl, ⟨rfl, rfl, _⟩, rfl, rfl⟩ hn
  obtain ⟨hs, h1⟩ : x0.size < 4294967281 ∧ 1 ≤ x1.size := hp
  obtain ⟨m, hm⟩ := maxLenG hgo.inv
  refine (Tryz.strings_Split x0 x1 m w hs hm h1).mono ?_
  rintro e w' ⟨rfl, rfl⟩
  have hlen : (g17_0 x0 x1).length = Lib.countB x0 x1 + 1 := Lib.splitB_all x1 h1 0 _ _ rfl
  have hle := Lib.countB_le x1 h1 x0.size x0 (Nat.le_refl _)
  have hparts : ∀ y ∈ g17_0 x0 x1, y.size ≤ maxLen := fun y hy => by
    have := splitB_part x1 0 _ _ y hy
    unfold maxLen; omega
  have e1 : ∀ xs : List ByteArray, fcs .str xs = xs.map Value.string := by
    intro xs
    induction xs with
    | nil => rfl
    | cons a r ih => unfold fcs at ih ⊢; rw [List.map_cons, List.flatten_cons, ih]; rfl
  have ho : OwnC (w.alloc (.cells ((g17_0 x0 x1).map Value.string).toArray 9)) (.sl .str) (g17_0 x0 x1) [.slice (some ⟨w.heap.size, 0, none⟩) (Lib.countB x0 x1 + 1) (Lib.countB x0 x1 + 1)] [w.heap.size] :=
    own_flat_mk rfl hparts hlen.symm (Nat.le_of_eq hlen) (by unfold maxLen; omega) (by rw [List.size_toArray, List.length_map, hlen]; simp [Ty.size]) (heap_new w _) (freeS_zero _ _) (fun j u hj => by
      rw [e1] at hj
      rw [Nat.zero_add, ← Array.getElem?_toList]
      exact hj)
  refine ⟨[_], [], [[w.heap.size]], rfl, (Kept.refl _ _).alloc _, ⟨_, _, _, _, _, rfl, rfl, ho, rfl, rfl, rfl⟩, ⟨rfl, rfl⟩, by simp, fun b hb hg => ?_⟩
  simp at hb
  have := hg.1
  omega

end Go.Proofs.YthjgopkjdnhliaaGreatDoor

/- Function 57 (strconv.ParseInt): its contract, off what is known of the library. -/
set_option linter.unusedVariables false
set_option linter.unusedSimpArgs false
set_option maxRecDepth 100000
namespace Go.Proofs.YthjgopkjdnhliaaGreatDoor
open Go Go.Am Go.Proofs

/-- What ParseInt(s, 10, 64) gives. -/
theorem parseOk57 (s : ByteArray) (hs : s.size ≤ 281474976710656) (v : Int) (h : Lib.parseIntB 64 s.data.toList = .ok v) (W : World) :
    Calls Tryz.prog 57 #[.string s, .int .i64 10, .int .i64 64] W fun e w' => e = .returned (.tuple #[.int .i64 v, .nilIface]) ∧ Go.RowKit.Below W.heap.size W w' := by
  refine (Tryz.strconv_ParseInt_10_at64_ok s (by omega) v h W).mono ?_
  rintro e w' ⟨rfl, hw⟩
  refine ⟨rfl, ?_⟩
  rcases hw with rfl | ⟨t, rfl⟩
  · exact Go.RowKit.Below.refl _ _
  · exact Lib.bytesWorld_below _ _ _

theorem parseNo57 (s : ByteArray) (hs : s.size ≤ 281474976710656) (h : ∀ v, Lib.parseIntB 64 s.data.toList ≠ .ok v) (W : World) (hg : GInv W) :
    Calls Tryz.prog 57 #[.string s, .int .i64 10, .int .i64 64] W fun e w' => ∃ n t N, e = .returned (.tuple #[.int .i64 n, .iface t (.pointer (some ⟨N, 0, none⟩))]) ∧ Go.RowKit.Below W.heap.size W w' := by
  obtain ⟨es, hes, hes2⟩ := errSyntaxG hg
  obtain ⟨er, her, her2⟩ := errRangeG hg
  rcases hp : Lib.parseIntB 64 s.data.toList with v | _ | _
  · exact absurd hp (h v)
  · refine (Tryz.strconv_ParseInt_10_at64_syntax s hs hp es W hes hes2).mono ?_
    rintro e w' ⟨N, rfl, _, _, hb⟩
    exact ⟨_, _, _, rfl, hb⟩
  · refine (Tryz.strconv_ParseInt_10_at64_range s hs hp er W her her2).mono ?_
    rintro e w' ⟨N, rfl, _, _, hb⟩
    exact ⟨_, _, _, rfl, hb⟩

end Go.Proofs.YthjgopkjdnhliaaGreatDoor

/- Function 56 (strings.TrimPrefix): its contract, off what is known of the library. -/
set_option linter.unusedVariables false
set_option linter.unusedSimpArgs false
set_option maxRecDepth 100000
namespace Go.Proofs.YthjgopkjdnhliaaGreatDoor
open Go Go.Am Go.Proofs
def sig56 : List AT := [AT.v Ty.str, AT.v Ty.str]
def g56_0 (x0 x1 : ByteArray) : ByteArray := ⟨(Lib.trimPrefix x0.data.toList x1.data.toList).toArray⟩
def P56 (x0 x1 : ByteArray) : Prop := True
def S56 : Am.Spec := { sig := sig56, pre := fun ⟨x0, x1, _⟩ => P56 x0 x1, res := fun ⟨x0, x1, _⟩ => [⟨Ty.str, g56_0 x0 x1⟩] }
theorem con56 : Contract Tryz.prog 56 S56 := contract_flat rfl fun w ⟨x0, x1, _⟩ vs bss hg hp hw ha => by
  obtain ⟨v0, s0, _, _, rfl, _, ⟨_, rfl, _⟩, v1, s1, _, _, rfl, _, ⟨_, rfl, _⟩, rfl, _⟩ := ha
  have hi : x0.size ≤ maxLen := hw.1
  refine ⟨fun d hd => ?_, ?_⟩
  · rw [List.mem_singleton.1 hd]
    refine ⟨rfl, ?_⟩
    show (List.toArray _).size ≤ maxLen
    rw [List.size_toArray]
    have e : x0.data.toList.length = x0.size := rfl
    unfold Lib.trimPrefix
    split
    · rw [List.length_drop]; omega
    · omega
  · refine (Tryz.strings_TrimPrefix x0 x1 w).mono ?_
    rintro e w' ⟨rfl, rfl⟩
    exact ⟨rfl, Kept.refl _ _⟩

end Go.Proofs.YthjgopkjdnhliaaGreatDoor

/- Function 54 (strconv.FormatInt): its contract, off what is known of the library. -/
set_option linter.unusedVariables false
set_option linter.unusedSimpArgs false
set_option maxRecDepth 100000
namespace Go.Proofs.YthjgopkjdnhliaaGreatDoor
open Go Go.Am Go.Proofs

def sig54 : List AT := [AT.v (Ty.int .i64), AT.v (Ty.int .i64)]
def g54_0 (x0 x1 : Int) : ByteArray := numB x0
def P54 (x0 x1 : Int) : Prop := x1 = 10
def S54 : Am.Spec := { sig := sig54, pre := fun ⟨x0, x1, _⟩ => P54 x0 x1, res := fun ⟨x0, x1, _⟩ => [⟨Ty.str, g54_0 x0 x1⟩] }
theorem con54 : Contract Tryz.prog 54 S54 := contract_flat rfl fun w ⟨x0, x1, _⟩ vs bss hg hp hw ha => by
  obtain ⟨v0, s0, _, _, rfl, _, ⟨_, rfl, hi⟩, v1, s1, _, _, rfl, _, ⟨_, rfl, _⟩, rfl, _⟩ := ha
  obtain rfl : x1 = 10 := hp
  have hi : InR .i64 x0 := hi
  rw [i64_iff] at hi
  refine ⟨fun d hd => ?_, ?_⟩
  · rw [List.mem_singleton.1 hd]
    refine ⟨rfl, ?_⟩
    show (numB x0).size ≤ maxLen
    have := numB_size x0 hi.1 hi.2
    unfold maxLen; omega
  · refine (Tryz.strconv_FormatInt_10 x0 hi.1 hi.2 w (pow10G hg)).mono ?_
    rintro e w' ⟨rfl, n, os, rfl⟩
    exact ⟨rfl, kept_grow _ _ _⟩

end Go.Proofs.YthjgopkjdnhliaaGreatDoor

/- Function 37 (impl.Decimal): its runs between cut points. Written by a program of this repo (gen). -/
set_option linter.unusedVariables false
set_option linter.unusedSimpArgs false
set_option maxRecDepth 100000
namespace Go.Proofs.YthjgopkjdnhliaaGreatDoor
open Go Go.Am Go.Proofs
def ext37 : Ext := [(54, S54)]
theorem call37_54 : Callable Tryz.prog 54 := ⟨Tryz.f54, Tryz.func54, by kernel_rfl, by kernel_rfl⟩
theorem ext37Ok : ExtOk Tryz.prog ext37 := ⟨⟨call37_54, con54⟩, trivial⟩
/-! Function 37. -/
noncomputable def b37 : Code := bodyOf Tryz.f37
theorem hb37 : Tryz.f37.body = some b37 := by kernel_rfl
def sig37 : List AT := [AT.v (Ty.int IntKind.i64)]
def tys37 : List Ty := [Ty.str]
def P37 (x0 : Int) : Prop := ((P54 x0 10) ∧ True)
def g37_0 (x0 : Int) : ByteArray := g54_0 x0 10
theorem p37_0 (x0 : Int) : runF tab ext37 false 5 [] 2000 [] tys37 Tryz.f37.results [] [.code b37] (entE 0 0 sig37 (x0, ())) (entL sig37 (x0, ())) = some ([Dyn.mk Ty.str (g54_0 x0 10)], [], [P54 x0 10]) := by kernel_rfl
theorem at37 (x0 : Int) (h : P37 x0) (w0 : World) (O : List Nat) (q : Nat → Value) : AtV Tryz.prog 37 (PostR [⟨Ty.str, g37_0 x0⟩] [] [] q w0 O) 5 w0 O q [] [.code b37] (entE 0 0 sig37 (x0, ())) (entL sig37 (x0, ())) := by
  unfold P37 at h
  unfold g37_0
  obtain ⟨s0, h⟩ := h
  exact AtV.fin Tryz.func37 tabOk ext37Ok mixed (p37_0 x0) ⟨s0, trivial⟩

def S37 : Am.Spec := { sig := sig37, pre := fun ⟨x0, _⟩ => P37 x0, res := fun ⟨x0, _⟩ => [⟨Ty.str, g37_0 x0⟩] }
theorem con37 : Contract Tryz.prog 37 S37 := contract_of Tryz.func37 hb37 (Nat.le_of_ble_eq_true (by kernel_rfl)) (fun ⟨x0, _⟩ h _ w0 O q => at37 x0 h w0 O q)


end Go.Proofs.YthjgopkjdnhliaaGreatDoor

/- Function 39 (impl.ReadDecimal): its contract; by the kit's walk, the callees by their contracts. -/
set_option linter.unusedVariables false
set_option linter.unusedSimpArgs false
set_option maxRecDepth 100000
namespace Go.Proofs.YthjgopkjdnhliaaGreatDoor
open Go Go.Am Go.Proofs Go.RowKit

theorem dec39 (W : World) (n : Int) (hi : InR .i64 n) (hgo : GOk W []) :
    Calls Tryz.prog 37 #[.int .i64 n] W fun e w' => e = .returned (.string (numB n)) ∧ Below W.heap.size W w' := by
  have h := con37 W (n, ()) [.int .i64 n] [[]] hgo ⟨rfl, trivial⟩ ⟨_, [], [], [], rfl, rfl, ⟨rfl, rfl, hi⟩, rfl, rfl⟩ (by simp)
  refine h.mono ?_
  rintro e w' ⟨rs, ubs, rbs, rfl, hk, ⟨u, s, b1, bs1, cs, rfl, rfl, ho, hv, rfl, rfl⟩, _⟩
  obtain ⟨ho, _⟩ := ho
  have hv : cs = [u] := hv
  rw [ho] at hv
  cases hv
  exact ⟨rfl, hk.below⟩

theorem trim39 (W : World) (s d : ByteArray) (h : g56_0 s ⟨#[45]⟩ = d) : Calls Tryz.prog 56 #[.string s, .string ⟨#[45]⟩] W fun e w' => e = .returned (.string d) ∧ w' = W := by
  rw [← h]
  exact Tryz.strings_TrimPrefix s ⟨#[45]⟩ W

theorem gok39 {w W : World} (h : GOk w []) (hb : Below w.heap.size w W) : GOk W [] where
  inv := h.inv.keep fun b _ hs => hb.5 b hs
  size := Nat.le_trans h.size hb.4
  out := h.out

theorem range39 {l : List UInt8} {v : Int} (h : Lib.parseIntB 64 l = .ok v) : InR .i64 v := by
  unfold Lib.parseIntB at h
  split at h
  · cases h
  · simp only at h
    split at h
    · cases h
    · cases h
    · split at h
      · cases h
      · split at h
        · cases h
        · rename_i u _ h1 h2
          have e1 : (2 : Nat) ^ (64 - 1) = 9223372036854775808 := by decide
          rw [e1] at h1 h2
          rw [i64_iff]
          split at h
          · cases h; rename_i hn; have : ¬ 9223372036854775808 < u := fun hh => h2 ⟨hn, hh⟩; omega
          · cases h; rename_i hn; have : ¬ 9223372036854775808 ≤ u := fun hh => h1 ⟨hn, hh⟩; omega

def long39 (s : ByteArray) : Bool := decide ((g56_0 s ⟨#[45]⟩).size < 1) || decide (18 < (g56_0 s ⟨#[45]⟩).size)
def rd39 (s : ByteArray) : Option Int := if long39 s = true then none else match Lib.parseIntB 64 s.data.toList with
  | .ok v => if numB v = s then some v else none
  | _ => none

set_option maxHeartbeats 4000000 in
theorem walkShort39 (w : World) (s d : ByteArray) (HD : Aside (g56_0 s ⟨#[45]⟩ = d)) (h1 : (d.size : Int) < 1) :
    Calls Tryz.prog 39 #[.string s] w fun e w' => e = .returned (.tuple #[.int .i64 0, .bool false]) ∧ Below w.heap.size w w' := by
  have mixed := mixed
  go_enter Tryz.func39, Tryz.ntmps39
  go_wp2_with (go_at_call 56; refine (trim39 _ s d HD.out).mono ?_; rintro e w1 ⟨rfl, rfl⟩)
  go_ret2
  exact ⟨rfl, Below.refl _ _⟩

set_option maxHeartbeats 4000000 in
theorem walkLong39 (w : World) (s d : ByteArray) (HD : Aside (g56_0 s ⟨#[45]⟩ = d)) (h1 : ¬ (d.size : Int) < 1) (h2 : (d.size : Int) > 18) :
    Calls Tryz.prog 39 #[.string s] w fun e w' => e = .returned (.tuple #[.int .i64 0, .bool false]) ∧ Below w.heap.size w w' := by
  have mixed := mixed
  go_enter Tryz.func39, Tryz.ntmps39
  go_wp2_with (go_at_call 56; refine (trim39 _ s d HD.out).mono ?_; rintro e w1 ⟨rfl, rfl⟩)
  go_ret2
  exact ⟨rfl, Below.refl _ _⟩

set_option maxHeartbeats 4000000 in
theorem walkEq39 (w : World) (s d : ByteArray) (hs : s.size ≤ 281474976710656) (hgo : GOk w []) (HD : Aside (g56_0 s ⟨#[45]⟩ = d)) (h1 : ¬ (d.size : Int) < 1) (h2 : ¬ (d.size : Int) > 18) (v : Int) (HP : Aside (Lib.parseIntB 64 s.data.toList = .ok v)) (HE : Aside (numB v = s)) :
    Calls Tryz.prog 39 #[.string s] w fun e w' => e = .returned (.tuple #[.int .i64 v, .bool true]) ∧ Below w.heap.size w w' := by
  have mixed := mixed
  go_enter Tryz.func39, Tryz.ntmps39
  go_wp2_with (go_at_call 56; refine (trim39 _ s d HD.out).mono ?_; rintro e w1 ⟨rfl, rfl⟩)
  have HR : Aside (InR .i64 v) := range39 HP.out
  go_wp2_with (go_at_call 57; refine (parseOk57 s hs v HP.out _).mono ?_)
  rintro e w2 ⟨rfl, b2⟩
  go_wp2_with (go_at_call 37; refine (dec39 _ v HR.out (gok39 hgo b2)).mono ?_)
  rintro e w3 ⟨rfl, b3⟩
  rw [HE.out]
  go_wp2
  go_ret2
  exact ⟨rfl, b2.trans (b3.mono b2.size)⟩

set_option maxHeartbeats 4000000 in
theorem walkNe39 (w : World) (s d : ByteArray) (hs : s.size ≤ 281474976710656) (hgo : GOk w []) (HD : Aside (g56_0 s ⟨#[45]⟩ = d)) (h1 : ¬ (d.size : Int) < 1) (h2 : ¬ (d.size : Int) > 18) (v : Int) (HP : Aside (Lib.parseIntB 64 s.data.toList = .ok v)) (HE : Aside (¬ numB v = s)) :
    Calls Tryz.prog 39 #[.string s] w fun e w' => e = .returned (.tuple #[.int .i64 0, .bool false]) ∧ Below w.heap.size w w' := by
  have mixed := mixed
  go_enter Tryz.func39, Tryz.ntmps39
  go_wp2_with (go_at_call 56; refine (trim39 _ s d HD.out).mono ?_; rintro e w1 ⟨rfl, rfl⟩)
  have HR : Aside (InR .i64 v) := range39 HP.out
  go_wp2_with (go_at_call 57; refine (parseOk57 s hs v HP.out _).mono ?_)
  rintro e w2 ⟨rfl, b2⟩
  go_wp2_with (go_at_call 37; refine (dec39 _ v HR.out (gok39 hgo b2)).mono ?_)
  rintro e w3 ⟨rfl, b3⟩
  have he' : ((numB v).toList == s.toList) = false := by
    rw [Bool.eq_false_iff]; exact fun hh => HE.out ((bytes_eq _ _).1 hh)
  go_wp2
  go_ret2
  exact ⟨rfl, b2.trans (b3.mono b2.size)⟩

set_option maxHeartbeats 4000000 in
theorem walkNo39 (w : World) (s d : ByteArray) (hs : s.size ≤ 281474976710656) (hgo : GOk w []) (HD : Aside (g56_0 s ⟨#[45]⟩ = d)) (h1 : ¬ (d.size : Int) < 1) (h2 : ¬ (d.size : Int) > 18) (HP : Aside (∀ v, Lib.parseIntB 64 s.data.toList ≠ .ok v)) :
    Calls Tryz.prog 39 #[.string s] w fun e w' => e = .returned (.tuple #[.int .i64 0, .bool false]) ∧ Below w.heap.size w w' := by
  have mixed := mixed
  go_enter Tryz.func39, Tryz.ntmps39
  go_wp2_with (go_at_call 56; refine (trim39 _ s d HD.out).mono ?_; rintro e w1 ⟨rfl, rfl⟩)
  go_wp2_with (go_at_call 57; refine (parseNo57 s hs HP.out _ hgo.inv).mono ?_)
  rintro e w2 ⟨n, t, N, rfl, b2⟩
  go_wp2
  go_ret2
  exact ⟨rfl, b2⟩

def sig39 : List AT := [AT.v .str]
def g39_0 (x0 : ByteArray) : Int := (rd39 x0).getD 0
def g39_1 (x0 : ByteArray) : Bool := (rd39 x0).isSome
def P39 (x0 : ByteArray) : Prop := x0.size ≤ 281474976710656
def S39 : Am.Spec := { sig := sig39, pre := fun ⟨x0, _⟩ => P39 x0, res := fun ⟨x0, _⟩ => [⟨.int .i64, g39_0 x0⟩, ⟨.bool, g39_1 x0⟩] }

theorem con39 : Contract Tryz.prog 39 S39 := contract_flat rfl fun w ⟨x0, _⟩ vs bss hg hp hw ha => by
  obtain ⟨v0, s0, _, _, rfl, _, ⟨_, rfl, _⟩, rfl, _⟩ := ha
  have hs : x0.size ≤ 281474976710656 := hp
  have hgo : GOk w [] := ⟨hg, hg.size, fun b hb => by cases hb⟩
  refine ⟨fun d hd => ?_, ?_⟩
  · simp only [List.mem_cons, List.mem_nil_iff, or_false] at hd
    rcases hd with rfl | rfl
    · refine ⟨rfl, ?_⟩
      show InR .i64 ((rd39 x0).getD 0)
      have z : InR .i64 0 := by rw [i64_iff]; omega
      unfold rd39
      split
      · exact z
      · split
        · rename_i v h
          split
          · exact range39 h
          · exact z
        · exact z
    · exact ⟨rfl, trivial⟩
  · show Calls Tryz.prog 39 #[.string x0] w fun e w' => e = .returned (.tuple #[.int .i64 ((rd39 x0).getD 0), .bool (rd39 x0).isSome]) ∧ Kept [] w w'
    have hd : Aside (g56_0 x0 ⟨#[45]⟩ = g56_0 x0 ⟨#[45]⟩) := rfl
    unfold rd39 long39
    by_cases h1 : (g56_0 x0 ⟨#[45]⟩).size < 1
    · rw [if_pos (by simp [h1])]
      refine (walkShort39 w x0 _ hd (by omega)).mono ?_
      rintro e w' ⟨rfl, hb⟩
      exact ⟨rfl, Kept.of_below hb⟩
    · by_cases h2 : 18 < (g56_0 x0 ⟨#[45]⟩).size
      · rw [if_pos (by simp [h2])]
        refine (walkLong39 w x0 _ hd (by omega) (by omega)).mono ?_
        rintro e w' ⟨rfl, hb⟩
        exact ⟨rfl, Kept.of_below hb⟩
      · rw [if_neg (by simp [h1, h2])]
        by_cases hok : ∃ v, Lib.parseIntB 64 x0.data.toList = .ok v
        · obtain ⟨v, hv⟩ := hok
          rw [hv]
          by_cases he : numB v = x0
          · simp only [if_pos he]
            refine (walkEq39 w x0 _ hs hgo hd (by omega) (by omega) v hv he).mono ?_
            rintro e w' ⟨rfl, hb⟩
            exact ⟨rfl, Kept.of_below hb⟩
          · simp only [if_neg he]
            refine (walkNe39 w x0 _ hs hgo hd (by omega) (by omega) v hv he).mono ?_
            rintro e w' ⟨rfl, hb⟩
            exact ⟨rfl, Kept.of_below hb⟩
        · have hno : ∀ v, Lib.parseIntB 64 x0.data.toList ≠ .ok v := fun v hv => hok ⟨v, hv⟩
          have e : (match Lib.parseIntB 64 x0.data.toList with
            | .ok v => if numB v = x0 then some v else none
            | _ => none : Option Int) = none := by
            split
            · rename_i v hv; exact absurd hv (hno v)
            · rfl
          rw [e]
          refine (walkNo39 w x0 _ hs hgo hd (by omega) (by omega) hno).mono ?_
          rintro e w' ⟨rfl, hb⟩
          exact ⟨rfl, Kept.of_below hb⟩
end Go.Proofs.YthjgopkjdnhliaaGreatDoor

/- Function 44 (strings.Join): its contract, off what is known of the library. -/
set_option linter.unusedVariables false
set_option linter.unusedSimpArgs false
set_option maxRecDepth 100000
namespace Go.Proofs.YthjgopkjdnhliaaGreatDoor
open Go Go.Am Go.Proofs

def sig44 : List AT := [AT.v (Ty.sl Ty.str), AT.v Ty.str]
def g44_0 (x0 : List ByteArray) (x1 : ByteArray) : ByteArray := ⟨(Lib.join (x0.map fun x => x.data.toList) x1.data.toList).toArray⟩
def P44 (x0 : List ByteArray) (x1 : ByteArray) : Prop := x0.length ≤ 1048576 ∧ (Lib.join (x0.map fun x => x.data.toList) x1.data.toList).length ≤ 140737488355328
def S44 : Am.Spec := { sig := sig44, pre := fun ⟨x0, x1, _⟩ => P44 x0 x1, res := fun ⟨x0, x1, _⟩ => [⟨Ty.str, g44_0 x0 x1⟩] }
theorem con44 : Contract Tryz.prog 44 S44 := contract_flat rfl fun w ⟨x0, x1, _⟩ vs bss hg hp hw ha => by
  obtain ⟨v0, s0, _, _, rfl, _, ⟨_, ho⟩, v1, s1, _, _, rfl, _, ⟨_, rfl, _⟩, rfl, _⟩ := ha
  obtain ⟨h0, h1⟩ : x0.length ≤ 1048576 ∧ (Lib.join (x0.map fun x => x.data.toList) x1.data.toList).length ≤ 140737488355328 := hp
  refine ⟨fun d hd => ?_, ?_⟩
  · rw [List.mem_singleton.1 hd]
    refine ⟨rfl, ?_⟩
    show (List.toArray _).size ≤ maxLen
    rw [List.size_toArray]; exact Nat.le_trans h1 (by decide)
  · obtain ⟨_, _, hcase⟩ := slAt_flat (t := .str) rfl ho
    rcases hcase with ⟨ad, rfl, rfl⟩ | ⟨b', off, cap, rfl, h2, h3, hG, hcells⟩
    · refine (Tryz.strings_Join_none ad 0 x1 w).mono ?_
      rintro e w' ⟨rfl, rfl⟩
      exact ⟨rfl, Kept.refl _ _⟩
    · refine (Tryz.strings_Join b' off cap x0 x1 w (fun j x hx => ?_) hG.1 (by omega) h2 h1).mono ?_
      · refine hcells j _ ?_
        have e : fcs .str x0 = x0.map Value.string := by
          have : ∀ xs : List ByteArray, fcs .str xs = xs.map Value.string := by
            intro xs
            induction xs with
            | nil => rfl
            | cons a r ih => unfold fcs at ih ⊢; rw [List.map_cons, List.flatten_cons, ih]; rfl
          exact this x0
        rw [e, List.getElem?_map, hx]
        rfl
      · rintro e w' ⟨rfl, hb⟩
        exact ⟨rfl, Kept.of_below hb⟩

end Go.Proofs.YthjgopkjdnhliaaGreatDoor

/- Function 43 (impl.isValue): its runs between cut points. Written by a program of this repo (gen). -/
set_option linter.unusedVariables false
set_option linter.unusedSimpArgs false
set_option maxRecDepth 100000
namespace Go.Proofs.YthjgopkjdnhliaaGreatDoor
open Go Go.Am Go.Proofs
def ext43 : Ext := [(32, S32)]
theorem call43_32 : Callable Tryz.prog 32 := ⟨Tryz.f32, Tryz.func32, by kernel_rfl, by kernel_rfl⟩
theorem ext43Ok : ExtOk Tryz.prog ext43 := ⟨⟨call43_32, con32⟩, trivial⟩
/-! Function 43. -/
noncomputable def b43 : Code := bodyOf Tryz.f43
theorem hb43 : Tryz.f43.body = some b43 := by kernel_rfl
def sig43 : List AT := [AT.v (Ty.int IntKind.i64)]
def tys43 : List Ty := [Ty.bool]
def P43 (x0 : Int) : Prop := True
def g43_0 (x0 : Int) : Bool := g32_0 x0 (-1000000000000) 1000000000000
theorem p43_0 (x0 : Int) : runF tab ext43 false 5 [] 2000 [] tys43 Tryz.f43.results [] [.code b43] (entE 0 0 sig43 (x0, ())) (entL sig43 (x0, ())) = some ([Dyn.mk Ty.bool (g32_0 x0 (-1000000000000) 1000000000000)], [], [True]) := by kernel_rfl
theorem at43 (x0 : Int) (h : P43 x0) (w0 : World) (O : List Nat) (q : Nat → Value) : AtV Tryz.prog 43 (PostR [⟨Ty.bool, g43_0 x0⟩] [] [] q w0 O) 5 w0 O q [] [.code b43] (entE 0 0 sig43 (x0, ())) (entL sig43 (x0, ())) := by
  unfold P43 at h
  unfold g43_0
  exact AtV.fin Tryz.func43 tabOk ext43Ok mixed (p43_0 x0) ⟨trivial, trivial⟩

def S43 : Am.Spec := { sig := sig43, pre := fun ⟨x0, _⟩ => P43 x0, res := fun ⟨x0, _⟩ => [⟨Ty.bool, g43_0 x0⟩] }
theorem con43 : Contract Tryz.prog 43 S43 := contract_of Tryz.func43 hb43 (Nat.le_of_ble_eq_true (by kernel_rfl)) (fun ⟨x0, _⟩ h _ w0 O q => at43 x0 h w0 O q)


end Go.Proofs.YthjgopkjdnhliaaGreatDoor

/- Function 42 (impl.ListText$1): its runs between cut points. Written by a program of this repo (gen). -/
set_option linter.unusedVariables false
set_option linter.unusedSimpArgs false
set_option maxRecDepth 100000
namespace Go.Proofs.YthjgopkjdnhliaaGreatDoor
open Go Go.Am Go.Proofs
def ext42 : Ext := [(43, S43)]
theorem call42_43 : Callable Tryz.prog 43 := ⟨Tryz.f43, Tryz.func43, by kernel_rfl, by kernel_rfl⟩
theorem ext42Ok : ExtOk Tryz.prog ext42 := ⟨⟨call42_43, con43⟩, trivial⟩
/-! Function 42. -/
noncomputable def b42 : Code := bodyOf Tryz.f42
theorem hb42 : Tryz.f42.body = some b42 := by kernel_rfl
def sig42 : List AT := [AT.v (Ty.int IntKind.i64)]
def tys42 : List Ty := [Ty.bool]
def P42 (x0 : Int) : Prop := True
def g42_0 (x0 : Int) : Bool := !g43_0 x0
theorem p42_0 (x0 : Int) : runF tab ext42 false 6 [] 2000 [] tys42 Tryz.f42.results [] [.code b42] (entE 0 0 sig42 (x0, ())) (entL sig42 (x0, ())) = some ([Dyn.mk Ty.bool !g43_0 x0], [], [True]) := by kernel_rfl
theorem at42 (x0 : Int) (h : P42 x0) (w0 : World) (O : List Nat) (q : Nat → Value) : AtV Tryz.prog 42 (PostR [⟨Ty.bool, g42_0 x0⟩] [] [] q w0 O) 6 w0 O q [] [.code b42] (entE 0 0 sig42 (x0, ())) (entL sig42 (x0, ())) := by
  unfold P42 at h
  unfold g42_0
  exact AtV.fin Tryz.func42 tabOk ext42Ok mixed (p42_0 x0) ⟨trivial, trivial⟩

def S42 : Am.Spec := { sig := sig42, pre := fun ⟨x0, _⟩ => P42 x0, res := fun ⟨x0, _⟩ => [⟨Ty.bool, g42_0 x0⟩] }
theorem con42 : Contract Tryz.prog 42 S42 := contract_of Tryz.func42 hb42 (Nat.le_of_ble_eq_true (by kernel_rfl)) (fun ⟨x0, _⟩ h _ w0 O q => at42 x0 h w0 O q)


end Go.Proofs.YthjgopkjdnhliaaGreatDoor

/- Function 58 (slices.IndexFunc[[]int64,int64]): its runs between cut points. Written by a program of this repo (gen). -/
set_option linter.unusedVariables false
set_option linter.unusedSimpArgs false
set_option maxRecDepth 100000
namespace Go.Proofs.YthjgopkjdnhliaaGreatDoor
open Go Go.Am Go.Proofs
def ext58c42 : Ext := [(42, S42)]
theorem call58c42_42 : Callable Tryz.prog 42 := ⟨Tryz.f42, Tryz.func42, by kernel_rfl, by kernel_rfl⟩
theorem ext58c42Ok : ExtOk Tryz.prog ext58c42 := ⟨⟨call58c42_42, con42⟩, trivial⟩
/-! Function 58c42. -/
noncomputable def b58c42 : Code := bodyOf Tryz.f58
theorem hb58c42 : Tryz.f58.body = some b58c42 := by kernel_rfl
def sig58c42 : List AT := [AT.v (Ty.sl (Ty.int IntKind.i64)), AT.fn 42 []]
def tys58c42 : List Ty := [Ty.int IntKind.i64]
def E58c42_2 (v8 : Int) (x0 : List Int) : Env := [(0, PV.a (Atom.sl (Ty.int IntKind.i64) x0)), (1, PV.fn 42 []), (7, PV.a (Atom.val (Value.int IntKind.i64 (↑(List.length x0) : Int)))), (8, PV.a (Atom.val (Value.int IntKind.i64 v8)))]
def L58c42_2 (v8 : Int) (x0 : List Int) : Heap := []
mutual
def R58c42 : Nat → List Int → List Dyn → Prop
  | 0, _, _ => False
  | n + 1, x0, ds => (R58c42_2 n (0) (x0) ds)
def R58c42_2 : Nat → Int → List Int → List Dyn → Prop
  | 0, _, _, _ => False
  | n + 1, v8, x0, ds => (if (Decidable.decide (v8 < (↑(List.length x0) : Int))) = true then ((0 ≤ v8) ∧ (v8 < (↑(List.length x0) : Int)) ∧ (if (g42_0 (List.getD x0 (Int.toNat v8) 0)) = true then (ds = [Dyn.mk (Ty.int IntKind.i64) v8]) else ((InR IntKind.i64 (v8 + 1)) ∧ (R58c42_2 n (v8 + 1) (x0) ds)))) else (ds = [Dyn.mk (Ty.int IntKind.i64) (-1)]))
end
theorem p58c42_0 (x0 : List Int) : Am.runN tab ext58c42 false 19 [] 2000 [] [] [0, 1, 7, 8] [] [] [.code b58c42] (entE 0 0 sig58c42 (x0, (), ())) (entL sig58c42 (x0, (), ())) = some (cutAt b58c42 2, E58c42_2 (0) (x0), L58c42_2 (0) (x0), []) := by kernel_rfl
theorem p58c42_1 (v8 : Int) (x0 : List Int) : runF tab ext58c42 false 19 [] 2000 [] tys58c42 Tryz.f58.results [true, true] (cutAt b58c42 2) (E58c42_2 v8 x0) (L58c42_2 v8 x0) = some ([Dyn.mk (Ty.int IntKind.i64) v8], [], [Decidable.decide (v8 < (↑(List.length x0) : Int)) = Bool.true, 0 ≤ v8, v8 < (↑(List.length x0) : Int), True, g42_0 (List.getD x0 (Int.toNat v8) 0) = Bool.true]) := by kernel_rfl
theorem p58c42_2 (v8 : Int) (x0 : List Int) : Am.runN tab ext58c42 false 19 [] 2000 [] [] [0, 1, 7, 8] [] [true, false] (cutAt b58c42 2) (E58c42_2 v8 x0) (L58c42_2 v8 x0) = some (cutAt b58c42 2, E58c42_2 (v8 + 1) (x0), L58c42_2 (v8 + 1) (x0), [Decidable.decide (v8 < (↑(List.length x0) : Int)) = Bool.true, 0 ≤ v8, v8 < (↑(List.length x0) : Int), True, g42_0 (List.getD x0 (Int.toNat v8) 0) = Bool.false, InR IntKind.i64 (v8 + 1)]) := by kernel_rfl
theorem p58c42_3 (v8 : Int) (x0 : List Int) : runF tab ext58c42 false 19 [] 2000 [] tys58c42 Tryz.f58.results [false] (cutAt b58c42 2) (E58c42_2 v8 x0) (L58c42_2 v8 x0) = some ([Dyn.mk (Ty.int IntKind.i64) (-1)], [], [Decidable.decide (v8 < (↑(List.length x0) : Int)) = Bool.false]) := by kernel_rfl
theorem snd58c42 : ∀ n, (∀ (x0 : List Int) ds, R58c42 n x0 ds → ∀ w0 O q, AtV Tryz.prog 58 (PostR ds [] [] q w0 O) 19 w0 O q [] [.code b58c42] (entE 0 0 sig58c42 (x0, (), ())) (entL sig58c42 (x0, (), ()))) ∧ (∀ (v8 : Int) (x0 : List Int) ds, R58c42_2 n v8 x0 ds → ∀ w0 O q, AtV Tryz.prog 58 (PostR ds [] [] q w0 O) 19 w0 O q [] (cutAt b58c42 2) (E58c42_2 v8 x0) (L58c42_2 v8 x0)) := by
  intro n
  induction n with
  | zero => exact ⟨fun _ _ h => by simp only [R58c42] at h, fun _ _ _ h => by simp only [R58c42_2] at h⟩
  | succ n ih =>
  obtain ⟨ih, ih2⟩ := ih
  refine ⟨?_, ?_⟩
  · intro x0 ds h w0 O q
    rw [R58c42] at h
    exact AtV.runN tabOk ext58c42Ok mixed (p58c42_0 x0) trivial (ih2 _ _ _ h w0 O q)

  · intro v8 x0 ds h w0 O q
    rw [R58c42_2] at h
    by_cases b0 : (Decidable.decide (v8 < (↑(List.length x0) : Int))) = true
    · rw [if_pos b0] at h
      obtain ⟨s0, s1, h⟩ := h
      by_cases b1 : (g42_0 (List.getD x0 (Int.toNat v8) 0)) = true
      · rw [if_pos b1] at h
        subst h
        exact AtV.fin Tryz.func58 tabOk ext58c42Ok mixed (p58c42_1 v8 x0) ⟨b0, s0, s1, trivial, b1, trivial⟩
      · rw [if_neg b1] at h
        replace b1 := Bool.eq_false_iff.2 b1
        obtain ⟨s2, h⟩ := h
        exact AtV.runN tabOk ext58c42Ok mixed (p58c42_2 v8 x0) ⟨b0, s0, s1, trivial, b1, s2, trivial⟩ (ih2 _ _ _ h w0 O q)
    · rw [if_neg b0] at h
      replace b0 := Bool.eq_false_iff.2 b0
      subst h
      exact AtV.fin Tryz.func58 tabOk ext58c42Ok mixed (p58c42_3 v8 x0) ⟨b0, trivial⟩



def g58c42_0 (x0 : List (Int)) : Int := idx (x0.findIdx? g42_0)
def P58c42 (x0 : List (Int)) : Prop := True

theorem top58c42 (x0 : List (Int)) (hm : x0.length ≤ maxLen) : R58c42 (x0.length + 1 + 1) x0 [⟨.int .i64, g58c42_0 x0⟩] := by
  rw [R58c42]
  have key := loop_find x0 (0 : Int) g42_0 [(⟨.int .i64, -1⟩ : Dyn)] (fun k => [⟨.int .i64, k⟩]) (fun n i ds => R58c42_2 n i x0 ds) (fun n => ?_) (fun n i hi hok ds hr => ?_) (fun n i hi hok => ?_)
  · unfold g58c42_0
    cases h : x0.findIdx? g42_0 <;> rw [h] at key <;> exact key
  · rw [R58c42_2, if_neg (by simp)]
  · rw [R58c42_2, if_pos (by simp; omega)]
    simp only [Int.toNat_natCast]
    refine ⟨by omega, by omega, ?_⟩
    rw [if_neg (by rw [hok]; simp)]
    exact ⟨inR_up hm hi, hr⟩
  · rw [R58c42_2, if_pos (by simp; omega)]
    simp only [Int.toNat_natCast]
    refine ⟨by omega, by omega, ?_⟩
    rw [if_pos hok] <;> trivial

def S58c42 : Am.Spec := { sig := sig58c42, pre := fun ⟨x0, _⟩ => P58c42 x0, res := fun ⟨x0, _⟩ => [⟨Ty.int .i64, g58c42_0 x0⟩] }
theorem con58c42 : Contract Tryz.prog 58 S58c42 := contract_of Tryz.func58 hb58c42 (Nat.le_of_ble_eq_true (by kernel_rfl)) (fun ⟨x0, _⟩ h hwf w0 O q =>
  (snd58c42 _).1 x0 _ (top58c42 x0 hwf.1.1) w0 O q)

theorem any58c42 (x0 : List (Int)) : decide (g58c42_0 x0 ≥ 0) = x0.any g42_0 := by
  have := findIdx_any g42_0 x0
  unfold g58c42_0
  cases h : x0.any g42_0 with
  | true => rw [h] at this; simpa using this
  | false => rw [h] at this; simpa using this

end Go.Proofs.YthjgopkjdnhliaaGreatDoor

/- Function 41 (slices.ContainsFunc[[]int64,int64]): its runs between cut points. Written by a program of this repo (gen). -/
set_option linter.unusedVariables false
set_option linter.unusedSimpArgs false
set_option maxRecDepth 100000
namespace Go.Proofs.YthjgopkjdnhliaaGreatDoor
open Go Go.Am Go.Proofs
def ext41c42 : Ext := [(58, S58c42), (42, S42)]
theorem call41c42_58 : Callable Tryz.prog 58 := ⟨Tryz.f58, Tryz.func58, by kernel_rfl, by kernel_rfl⟩
theorem call41c42_42 : Callable Tryz.prog 42 := ⟨Tryz.f42, Tryz.func42, by kernel_rfl, by kernel_rfl⟩
theorem ext41c42Ok : ExtOk Tryz.prog ext41c42 := ⟨⟨call41c42_58, con58c42⟩, ⟨call41c42_42, con42⟩, trivial⟩
/-! Function 41c42. -/
noncomputable def b41c42 : Code := bodyOf Tryz.f41
theorem hb41c42 : Tryz.f41.body = some b41c42 := by kernel_rfl
def sig41c42 : List AT := [AT.v (Ty.sl (Ty.int IntKind.i64)), AT.fn 42 []]
def tys41c42 : List Ty := [Ty.bool]
def P41c42 (x0 : List Int) : Prop := True
def g41c42_0 (x0 : List Int) : Bool := Decidable.decide (g58c42_0 x0 ≥ 0)
theorem p41c42_0 (x0 : List Int) : runF tab ext41c42 false 9 [] 2000 [] tys41c42 Tryz.f41.results [] [.code b41c42] (entE 0 0 sig41c42 (x0, (), ())) (entL sig41c42 (x0, (), ())) = some ([Dyn.mk Ty.bool (Decidable.decide (g58c42_0 x0 ≥ 0))], [], [True]) := by kernel_rfl
theorem at41c42 (x0 : List Int) (h : P41c42 x0) (w0 : World) (O : List Nat) (q : Nat → Value) : AtV Tryz.prog 41 (PostR [⟨Ty.bool, g41c42_0 x0⟩] [] [] q w0 O) 9 w0 O q [] [.code b41c42] (entE 0 0 sig41c42 (x0, (), ())) (entL sig41c42 (x0, (), ())) := by
  unfold P41c42 at h
  unfold g41c42_0
  exact AtV.fin Tryz.func41 tabOk ext41c42Ok mixed (p41c42_0 x0) ⟨trivial, trivial⟩

def S41c42 : Am.Spec := { sig := sig41c42, pre := fun ⟨x0, _⟩ => P41c42 x0, res := fun ⟨x0, _⟩ => [⟨Ty.bool, g41c42_0 x0⟩] }
theorem con41c42 : Contract Tryz.prog 41 S41c42 := contract_of Tryz.func41 hb41c42 (Nat.le_of_ble_eq_true (by kernel_rfl)) (fun ⟨x0, _⟩ h _ w0 O q => at41c42 x0 h w0 O q)


end Go.Proofs.YthjgopkjdnhliaaGreatDoor

/- Function 23 (impl.ListText): its runs between cut points. Written by a program of this repo (gen). -/
set_option linter.unusedVariables false
set_option linter.unusedSimpArgs false
set_option maxRecDepth 100000
namespace Go.Proofs.YthjgopkjdnhliaaGreatDoor
open Go Go.Am Go.Proofs
def ext23 : Ext := [(37, S37), (44, S44), (41, S41c42)]
theorem call23_37 : Callable Tryz.prog 37 := ⟨Tryz.f37, Tryz.func37, by kernel_rfl, by kernel_rfl⟩
theorem call23_44 : Callable Tryz.prog 44 := ⟨Tryz.f44, Tryz.func44, by kernel_rfl, by kernel_rfl⟩
theorem call23_41 : Callable Tryz.prog 41 := ⟨Tryz.f41, Tryz.func41, by kernel_rfl, by kernel_rfl⟩
theorem ext23Ok : ExtOk Tryz.prog ext23 := ⟨⟨call23_37, con37⟩, ⟨call23_44, con44⟩, ⟨call23_41, con41c42⟩, trivial⟩
/-! Function 23. -/
noncomputable def b23 : Code := bodyOf Tryz.f23
theorem hb23 : Tryz.f23.body = some b23 := by kernel_rfl
def sig23 : List AT := [AT.v (Ty.sl (Ty.int IntKind.i64))]
def tys23 : List Ty := [Ty.str]
def E23_7 (v18 : Int) (h0 : List ByteArray) (x0 : List Int) : Env := [(3, PV.a (Atom.osl 0 Option.none)), (16, PV.a (Atom.sl (Ty.int IntKind.i64) x0)), (17, PV.a (Atom.val (Value.int IntKind.i64 (↑(List.length x0) : Int)))), (18, PV.a (Atom.val (Value.int IntKind.i64 v18)))]
def L23_7 (v18 : Int) (h0 : List ByteArray) (x0 : List Int) : Heap := [Option.some (Arr.mk Ty.str h0 Bool.false)]
mutual
def R23 : Nat → List Int → List Dyn → Prop
  | 0, _, _ => False
  | n + 1, x0, ds => (if (Decidable.decide ((↑(List.length x0) : Int) > 64)) = true then (ds = [Dyn.mk Ty.str (ByteArray.mk #[])]) else (if (g41c42_0 x0) = true then (ds = [Dyn.mk Ty.str (ByteArray.mk #[])]) else (if ((↑(List.length x0) : Int) == 0) = true then (ds = [Dyn.mk Ty.str (ByteArray.mk #[45])]) else (R23_7 n (0) ([]) (x0) ds))))
def R23_7 : Nat → Int → List ByteArray → List Int → List Dyn → Prop
  | 0, _, _, _, _ => False
  | n + 1, v18, h0, x0, ds => (if (Decidable.decide (v18 < (↑(List.length x0) : Int))) = true then ((0 ≤ v18) ∧ (v18 < (↑(List.length x0) : Int)) ∧ ((P37 (List.getD x0 (Int.toNat v18) 0)) ∧ (((List.length h0 + 1) * 16 ≤ 140737488355328) ∧ ((InR IntKind.i64 (v18 + 1)) ∧ (R23_7 n (v18 + 1) (h0 ++ [g37_0 (List.getD x0 (Int.toNat v18) 0)]) (x0) ds))))) else ((P44 h0 (ByteArray.mk #[44])) ∧ (ds = [Dyn.mk Ty.str (g44_0 h0 (ByteArray.mk #[44]))])))
end
theorem p23_0 (x0 : List Int) : runF tab ext23 false 30 [] 2000 [] tys23 Tryz.f23.results [true, true] [.code b23] (entE 0 0 sig23 (x0, ())) (entL sig23 (x0, ())) = some ([Dyn.mk Ty.str (ByteArray.mk #[])], [], [Decidable.decide ((↑(List.length x0) : Int) > 64) = Bool.true, Bool.true = Bool.true]) := by kernel_rfl
theorem p23_1 (x0 : List Int) : runF tab ext23 false 30 [] 2000 [] tys23 Tryz.f23.results [false, true] [.code b23] (entE 0 0 sig23 (x0, ())) (entL sig23 (x0, ())) = some ([Dyn.mk Ty.str (ByteArray.mk #[])], [], [Decidable.decide ((↑(List.length x0) : Int) > 64) = Bool.false, True, g41c42_0 x0 = Bool.true]) := by kernel_rfl
theorem p23_2 (x0 : List Int) : runF tab ext23 false 30 [] 2000 [] tys23 Tryz.f23.results [false, false, true] [.code b23] (entE 0 0 sig23 (x0, ())) (entL sig23 (x0, ())) = some ([Dyn.mk Ty.str (ByteArray.mk #[45])], [], [Decidable.decide ((↑(List.length x0) : Int) > 64) = Bool.false, True, g41c42_0 x0 = Bool.false, ((↑(List.length x0) : Int) == 0) = Bool.true]) := by kernel_rfl
theorem p23_3 (x0 : List Int) : Am.runN tab ext23 false 30 [] 2000 [] [(3, Ty.str)] [3, 16, 17, 18] [0] [false, false, false] [.code b23] (entE 0 0 sig23 (x0, ())) (entL sig23 (x0, ())) = some (cutAt b23 7, E23_7 (0) ([]) (x0), L23_7 (0) ([]) (x0), [Decidable.decide ((↑(List.length x0) : Int) > 64) = Bool.false, True, g41c42_0 x0 = Bool.false, ((↑(List.length x0) : Int) == 0) = Bool.false]) := by kernel_rfl
theorem p23_4 (v18 : Int) (h0 : List ByteArray) (x0 : List Int) : Am.runN tab ext23 false 30 [] 2000 [] [(3, Ty.str)] [3, 16, 17, 18] [0] [true] (cutAt b23 7) (E23_7 v18 h0 x0) (L23_7 v18 h0 x0) = some (cutAt b23 7, E23_7 (v18 + 1) (h0 ++ [g37_0 (List.getD x0 (Int.toNat v18) 0)]) (x0), L23_7 (v18 + 1) (h0 ++ [g37_0 (List.getD x0 (Int.toNat v18) 0)]) (x0), [Decidable.decide (v18 < (↑(List.length x0) : Int)) = Bool.true, 0 ≤ v18, v18 < (↑(List.length x0) : Int), P37 (List.getD x0 (Int.toNat v18) 0), (List.length h0 + 1) * 16 ≤ 140737488355328, InR IntKind.i64 (v18 + 1)]) := by kernel_rfl
theorem p23_5 (v18 : Int) (h0 : List ByteArray) (x0 : List Int) : runF tab ext23 false 30 [] 2000 [] tys23 Tryz.f23.results [false] (cutAt b23 7) (E23_7 v18 h0 x0) (L23_7 v18 h0 x0) = some ([Dyn.mk Ty.str (g44_0 h0 (ByteArray.mk #[44]))], [], [Decidable.decide (v18 < (↑(List.length x0) : Int)) = Bool.false, P44 h0 (ByteArray.mk #[44])]) := by kernel_rfl
theorem snd23 : ∀ n, (∀ (x0 : List Int) ds, R23 n x0 ds → ∀ w0 O q, AtV Tryz.prog 23 (PostR ds [] [] q w0 O) 30 w0 O q [] [.code b23] (entE 0 0 sig23 (x0, ())) (entL sig23 (x0, ()))) ∧ (∀ (v18 : Int) (h0 : List ByteArray) (x0 : List Int) ds, R23_7 n v18 h0 x0 ds → ∀ w0 O q, AtV Tryz.prog 23 (PostR ds [] [] q w0 O) 30 w0 O q [] (cutAt b23 7) (E23_7 v18 h0 x0) (L23_7 v18 h0 x0)) := by
  intro n
  induction n with
  | zero => exact ⟨fun _ _ h => by simp only [R23] at h, fun _ _ _ _ h => by simp only [R23_7] at h⟩
  | succ n ih =>
  obtain ⟨ih, ih7⟩ := ih
  refine ⟨?_, ?_⟩
  · intro x0 ds h w0 O q
    rw [R23] at h
    by_cases b0 : (Decidable.decide ((↑(List.length x0) : Int) > 64)) = true
    · rw [if_pos b0] at h
      subst h
      exact AtV.fin Tryz.func23 tabOk ext23Ok mixed (p23_0 x0) ⟨b0, rfl, trivial⟩
    · rw [if_neg b0] at h
      replace b0 := Bool.eq_false_iff.2 b0
      by_cases b1 : (g41c42_0 x0) = true
      · rw [if_pos b1] at h
        subst h
        exact AtV.fin Tryz.func23 tabOk ext23Ok mixed (p23_1 x0) ⟨b0, trivial, b1, trivial⟩
      · rw [if_neg b1] at h
        replace b1 := Bool.eq_false_iff.2 b1
        by_cases b2 : ((↑(List.length x0) : Int) == 0) = true
        · rw [if_pos b2] at h
          subst h
          exact AtV.fin Tryz.func23 tabOk ext23Ok mixed (p23_2 x0) ⟨b0, trivial, b1, b2, trivial⟩
        · rw [if_neg b2] at h
          replace b2 := Bool.eq_false_iff.2 b2
          exact AtV.runN tabOk ext23Ok mixed (p23_3 x0) ⟨b0, trivial, b1, b2, trivial⟩ (ih7 _ _ _ _ h w0 O q)

  · intro v18 h0 x0 ds h w0 O q
    rw [R23_7] at h
    by_cases b0 : (Decidable.decide (v18 < (↑(List.length x0) : Int))) = true
    · rw [if_pos b0] at h
      obtain ⟨s0, s1, h⟩ := h
      obtain ⟨s2, h⟩ := h
      obtain ⟨s3, h⟩ := h
      obtain ⟨s4, h⟩ := h
      exact AtV.runN tabOk ext23Ok mixed (p23_4 v18 h0 x0) ⟨b0, s0, s1, s2, s3, s4, trivial⟩ (ih7 _ _ _ _ h w0 O q)
    · rw [if_neg b0] at h
      replace b0 := Bool.eq_false_iff.2 b0
      obtain ⟨s0, h⟩ := h
      subst h
      exact AtV.fin Tryz.func23 tabOk ext23Ok mixed (p23_5 v18 h0 x0) ⟨b0, s0, trivial⟩



def g23_0 (x0 : List Int) : ByteArray := if x0.length > 64 then ByteArray.mk #[] else if g41c42_0 x0 = true then ByteArray.mk #[] else if x0.length = 0 then ByteArray.mk #[45] else g44_0 (x0.map g37_0) (ByteArray.mk #[44])
def P23 (x0 : List Int) : Prop := True

theorem dsz23 (x : Int) (h : InR .i64 x) : (g37_0 x).size ≤ 21 := by
  rw [i64_iff] at h
  exact numB_size x (by omega) (by omega)

theorem pdec23 (x : Int) : P37 x := ⟨rfl, trivial⟩

theorem lens23 : ∀ (xs : List Int), (∀ x ∈ xs, InR .i64 x) → Lib.lens (xs.map fun x => (g37_0 x).data.toList) ≤ 21 * xs.length
  | [], _ => by simp [Lib.lens]
  | x :: r, h => by
    have ih := lens23 r fun y hy => h y (List.mem_cons_of_mem _ hy)
    have hx := dsz23 x (h x (List.mem_cons_self ..))
    have e : (g37_0 x).data.toList.length = (g37_0 x).size := rfl
    unfold Lib.lens at ih ⊢
    simp only [List.map_cons, List.sum_cons, List.length_cons, e] at ih ⊢
    omega

theorem join23 (xs : List Int) (hx : ∀ x ∈ xs, InR .i64 x) (hl : xs.length ≤ 64) : P44 (xs.map g37_0) (ByteArray.mk #[44]) := by
  refine ⟨by simp; omega, ?_⟩
  rw [List.map_map]
  cases xs with
  | nil => simp [Lib.join, List.intercalate]
  | cons x r =>
    have h := lens23 (x :: r) hx
    rw [List.map_cons] at h ⊢
    rw [Lib.join_length]
    have e : (ByteArray.mk #[44]).data.toList.length = 1 := rfl
    rw [e]
    simp only [List.length_map, List.length_cons] at *
    have h' : Lib.lens (((fun x : ByteArray => x.data.toList) ∘ g37_0) x :: List.map ((fun x : ByteArray => x.data.toList) ∘ g37_0) r) ≤ 21 * (r.length + 1) := h
    omega

theorem top23 (x0 : List Int) (hx : ∀ x ∈ x0, InR .i64 x) : R23 (x0.length + 1 + 1) x0 [⟨.str, g23_0 x0⟩] := by
  rw [R23]
  unfold g23_0
  by_cases h1 : x0.length > 64
  · rw [if_pos (by simp; omega), if_pos h1]
  · rw [if_neg (by simp; omega), if_neg h1]
    by_cases h2 : g41c42_0 x0 = true
    · rw [if_pos h2, if_pos h2]
    · rw [if_neg h2, if_neg h2]
      by_cases h0 : x0.length = 0
      · rw [if_pos (by simp [h0]), if_pos h0]
      · rw [if_neg (by simp only [beq_iff_eq]; omega), if_neg h0]
        have hm : x0.length ≤ maxLen := by unfold maxLen; omega
        have key := loop_fold (b := []) x0 0 (fun (h : List ByteArray) b => h ++ [g37_0 b]) (fun h => [(⟨.str, g44_0 h (ByteArray.mk #[44])⟩ : Dyn)]) (fun i h => h.length ≤ i ∧ h = (x0.take i).map g37_0) (fun n i h ds => R23_7 n i h x0 ds) (by simp) (fun n h hb => ?_) (fun n i h hi hl => ⟨⟨len_up hl.1, ?_⟩, fun ds hr => ?_⟩)
        · rw [foldl_snoc] at key
          simpa using key
        · show R23_7 (n + 1) x0.length h x0 _
          rw [R23_7, if_neg (by simp)]
          refine ⟨?_, rfl⟩
          rw [hb.2, List.take_length]
          exact join23 x0 hx (by omega)
        · rw [hl.2, List.take_add_one, getD_of_lt x0 i 0 hi]
          simp
        · obtain ⟨hl, _⟩ := hl
          rw [R23_7, if_pos (by simp; omega)]
          simp only [Int.toNat_natCast]
          exact ⟨by omega, by omega, pdec23 _, by omega, inR_up hm hi, hr⟩

def S23 : Am.Spec := { sig := sig23, pre := fun ⟨x0, _⟩ => P23 x0, res := fun ⟨x0, _⟩ => [⟨Ty.str, g23_0 x0⟩] }
theorem con23 : Contract Tryz.prog 23 S23 := contract_of Tryz.func23 hb23 (Nat.le_of_ble_eq_true (by kernel_rfl)) (fun ⟨x0, _⟩ h hwf w0 O q =>
  (snd23 _).1 x0 _ (top23 x0 hwf.1.2) w0 O q)

end Go.Proofs.YthjgopkjdnhliaaGreatDoor

/- Function 21 (impl.ReadList): its runs between cut points. Written by a program of this repo (gen). -/
set_option linter.unusedVariables false
set_option linter.unusedSimpArgs false
set_option maxRecDepth 100000
namespace Go.Proofs.YthjgopkjdnhliaaGreatDoor
open Go Go.Am Go.Proofs
def ext21 : Ext := [(17, S17), (39, S39), (23, S23)]
theorem call21_17 : Callable Tryz.prog 17 := ⟨Tryz.f17, Tryz.func17, by kernel_rfl, by kernel_rfl⟩
theorem call21_39 : Callable Tryz.prog 39 := ⟨Tryz.f39, Tryz.func39, by kernel_rfl, by kernel_rfl⟩
theorem call21_23 : Callable Tryz.prog 23 := ⟨Tryz.f23, Tryz.func23, by kernel_rfl, by kernel_rfl⟩
theorem ext21Ok : ExtOk Tryz.prog ext21 := ⟨⟨call21_17, con17⟩, ⟨call21_39, con39⟩, ⟨call21_23, con23⟩, trivial⟩
/-! Function 21. -/
noncomputable def b21 : Code := bodyOf Tryz.f21
theorem hb21 : Tryz.f21.body = some b21 := by kernel_rfl
def sig21 : List AT := [AT.v (Ty.str)]
def tys21 : List Ty := [Ty.sl (Ty.int IntKind.i64), Ty.bool]
def E21_5 (v14 : Int) (h0 : List Int) (x0 : ByteArray) : Env := [(0, PV.a (Atom.val (Value.string x0))), (4, PV.a (Atom.osl 0 Option.none)), (12, PV.a (Atom.osl 1 Option.none)), (13, PV.a (Atom.val (Value.int IntKind.i64 (↑(List.length (g17_0 x0 (ByteArray.mk #[44]))) : Int)))), (14, PV.a (Atom.val (Value.int IntKind.i64 v14)))]
def L21_5 (v14 : Int) (h0 : List Int) (x0 : ByteArray) : Heap := [Option.some (Arr.mk (Ty.int IntKind.i64) h0 Bool.false), Option.some (Arr.mk Ty.str (g17_0 x0 (ByteArray.mk #[44])) Bool.false)]
mutual
def R21 : Nat → ByteArray → List Dyn → Prop
  | 0, _, _ => False
  | n + 1, x0, ds => (if (ByteArray.toList x0 == ByteArray.toList (ByteArray.mk #[45])) = true then (ds = [Dyn.mk (Ty.sl (Ty.int IntKind.i64)) [], Dyn.mk Ty.bool Bool.true]) else ((P17 x0 (ByteArray.mk #[44])) ∧ (R21_5 n (0) ([]) (x0) ds)))
def R21_5 : Nat → Int → List Int → ByteArray → List Dyn → Prop
  | 0, _, _, _, _ => False
  | n + 1, v14, h0, x0, ds => (if (Decidable.decide (v14 < (↑(List.length (g17_0 x0 (ByteArray.mk #[44]))) : Int))) = true then ((0 ≤ v14) ∧ (v14 < (↑(List.length (g17_0 x0 (ByteArray.mk #[44]))) : Int)) ∧ ((P39 (List.getD (g17_0 x0 (ByteArray.mk #[44])) (Int.toNat v14) ByteArray.empty)) ∧ (((List.length h0 + 1) * 8 ≤ 140737488355328) ∧ ((InR IntKind.i64 (v14 + 1)) ∧ (R21_5 n (v14 + 1) (h0 ++ [g39_0 (List.getD (g17_0 x0 (ByteArray.mk #[44])) (Int.toNat v14) ByteArray.empty)]) (x0) ds))))) else (if (!ByteArray.toList (g23_0 h0) == ByteArray.toList x0) = true then (ds = [Dyn.mk (Ty.sl (Ty.int IntKind.i64)) [], Dyn.mk Ty.bool Bool.false]) else (ds = [Dyn.mk (Ty.sl (Ty.int IntKind.i64)) h0, Dyn.mk Ty.bool Bool.true])))
end
theorem p21_0 (x0 : ByteArray) : runF tab ext21 false 33 [] 2000 [] tys21 Tryz.f21.results [true] [.code b21] (entE 0 0 sig21 (x0, ())) (entL sig21 (x0, ())) = some ([Dyn.mk (Ty.sl (Ty.int IntKind.i64)) [], Dyn.mk Ty.bool Bool.true], [], [(ByteArray.toList x0 == ByteArray.toList (ByteArray.mk #[45])) = Bool.true]) := by kernel_rfl
theorem p21_1 (x0 : ByteArray) : Am.runN tab ext21 false 33 [] 2000 [] [(4, Ty.int IntKind.i64)] [0, 4, 12, 13, 14] [1, 0] [false] [.code b21] (entE 0 0 sig21 (x0, ())) (entL sig21 (x0, ())) = some (cutAt b21 5, E21_5 (0) ([]) (x0), L21_5 (0) ([]) (x0), [(ByteArray.toList x0 == ByteArray.toList (ByteArray.mk #[45])) = Bool.false, P17 x0 (ByteArray.mk #[44])]) := by kernel_rfl
theorem p21_2 (v14 : Int) (h0 : List Int) (x0 : ByteArray) : Am.runN tab ext21 false 33 [] 2000 [] [(4, Ty.int IntKind.i64)] [0, 4, 12, 13, 14] [0, 1] [true] (cutAt b21 5) (E21_5 v14 h0 x0) (L21_5 v14 h0 x0) = some (cutAt b21 5, E21_5 (v14 + 1) (h0 ++ [g39_0 (List.getD (g17_0 x0 (ByteArray.mk #[44])) (Int.toNat v14) ByteArray.empty)]) (x0), L21_5 (v14 + 1) (h0 ++ [g39_0 (List.getD (g17_0 x0 (ByteArray.mk #[44])) (Int.toNat v14) ByteArray.empty)]) (x0), [Decidable.decide (v14 < (↑(List.length (g17_0 x0 (ByteArray.mk #[44]))) : Int)) = Bool.true, 0 ≤ v14, v14 < (↑(List.length (g17_0 x0 (ByteArray.mk #[44]))) : Int), P39 (List.getD (g17_0 x0 (ByteArray.mk #[44])) (Int.toNat v14) ByteArray.empty), (List.length h0 + 1) * 8 ≤ 140737488355328, InR IntKind.i64 (v14 + 1)]) := by kernel_rfl
theorem p21_3 (v14 : Int) (h0 : List Int) (x0 : ByteArray) : runF tab ext21 false 33 [] 2000 [] tys21 Tryz.f21.results [false, true] (cutAt b21 5) (E21_5 v14 h0 x0) (L21_5 v14 h0 x0) = some ([Dyn.mk (Ty.sl (Ty.int IntKind.i64)) [], Dyn.mk Ty.bool Bool.false], [], [Decidable.decide (v14 < (↑(List.length (g17_0 x0 (ByteArray.mk #[44]))) : Int)) = Bool.false, True, (!ByteArray.toList (g23_0 h0) == ByteArray.toList x0) = Bool.true]) := by kernel_rfl
theorem p21_4 (v14 : Int) (h0 : List Int) (x0 : ByteArray) : runF tab ext21 false 33 [] 2000 [] tys21 Tryz.f21.results [false, false] (cutAt b21 5) (E21_5 v14 h0 x0) (L21_5 v14 h0 x0) = some ([Dyn.mk (Ty.sl (Ty.int IntKind.i64)) h0, Dyn.mk Ty.bool Bool.true], [], [Decidable.decide (v14 < (↑(List.length (g17_0 x0 (ByteArray.mk #[44]))) : Int)) = Bool.false, True, (!ByteArray.toList (g23_0 h0) == ByteArray.toList x0) = Bool.false]) := by kernel_rfl
theorem snd21 : ∀ n, (∀ (x0 : ByteArray) ds, R21 n x0 ds → ∀ w0 O q, AtV Tryz.prog 21 (PostR ds [] [] q w0 O) 33 w0 O q [] [.code b21] (entE 0 0 sig21 (x0, ())) (entL sig21 (x0, ()))) ∧ (∀ (v14 : Int) (h0 : List Int) (x0 : ByteArray) ds, R21_5 n v14 h0 x0 ds → ∀ w0 O q, AtV Tryz.prog 21 (PostR ds [] [] q w0 O) 33 w0 O q [] (cutAt b21 5) (E21_5 v14 h0 x0) (L21_5 v14 h0 x0)) := by
  intro n
  induction n with
  | zero => exact ⟨fun _ _ h => by simp only [R21] at h, fun _ _ _ _ h => by simp only [R21_5] at h⟩
  | succ n ih =>
  obtain ⟨ih, ih5⟩ := ih
  refine ⟨?_, ?_⟩
  · intro x0 ds h w0 O q
    rw [R21] at h
    by_cases b0 : (ByteArray.toList x0 == ByteArray.toList (ByteArray.mk #[45])) = true
    · rw [if_pos b0] at h
      subst h
      exact AtV.fin Tryz.func21 tabOk ext21Ok mixed (p21_0 x0) ⟨b0, trivial⟩
    · rw [if_neg b0] at h
      replace b0 := Bool.eq_false_iff.2 b0
      obtain ⟨s0, h⟩ := h
      exact AtV.runN tabOk ext21Ok mixed (p21_1 x0) ⟨b0, s0, trivial⟩ (ih5 _ _ _ _ h w0 O q)

  · intro v14 h0 x0 ds h w0 O q
    rw [R21_5] at h
    by_cases b0 : (Decidable.decide (v14 < (↑(List.length (g17_0 x0 (ByteArray.mk #[44]))) : Int))) = true
    · rw [if_pos b0] at h
      obtain ⟨s0, s1, h⟩ := h
      obtain ⟨s2, h⟩ := h
      obtain ⟨s3, h⟩ := h
      obtain ⟨s4, h⟩ := h
      exact AtV.runN tabOk ext21Ok mixed (p21_2 v14 h0 x0) ⟨b0, s0, s1, s2, s3, s4, trivial⟩ (ih5 _ _ _ _ h w0 O q)
    · rw [if_neg b0] at h
      replace b0 := Bool.eq_false_iff.2 b0
      by_cases b1 : (!ByteArray.toList (g23_0 h0) == ByteArray.toList x0) = true
      · rw [if_pos b1] at h
        subst h
        exact AtV.fin Tryz.func21 tabOk ext21Ok mixed (p21_3 v14 h0 x0) ⟨b0, trivial, b1, trivial⟩
      · rw [if_neg b1] at h
        replace b1 := Bool.eq_false_iff.2 b1
        subst h
        exact AtV.fin Tryz.func21 tabOk ext21Ok mixed (p21_4 v14 h0 x0) ⟨b0, trivial, b1, trivial⟩



def ws21 (x0 : ByteArray) : List ByteArray := g17_0 x0 (ByteArray.mk #[44])
def nums21 (x0 : ByteArray) : List Int := (ws21 x0).map g39_0
def all21 (x0 : ByteArray) : Option (List Int) := if x0 = ByteArray.mk #[45] then some [] else if g23_0 (nums21 x0) = x0 then some (nums21 x0) else none
def g21_0 (x0 : ByteArray) : List Int := (all21 x0).getD []
def g21_1 (x0 : ByteArray) : Bool := (all21 x0).isSome
def P21 (x0 : ByteArray) : Prop := x0.size ≤ 1048576

theorem wl21 (x0 : ByteArray) (hp : P21 x0) : (ws21 x0).length ≤ 1048577 := by
  have hl := Lib.splitB_all (ByteArray.mk #[44]) (Nat.le_refl 1) 0 (Lib.countB x0 (ByteArray.mk #[44])) x0 rfl
  have hc := Lib.countB_le (ByteArray.mk #[44]) (Nat.le_refl 1) x0.size x0 (Nat.le_refl _)
  have hp : x0.size ≤ 1048576 := hp
  have : (ws21 x0).length = Lib.countB x0 (ByteArray.mk #[44]) + 1 := hl
  omega

theorem wz21 (x0 : ByteArray) (hp : P21 x0) : ∀ w ∈ ws21 x0, w.size ≤ 1048576 := fun w hw => by
  have hp : x0.size ≤ 1048576 := hp
  have := splitB_part (ByteArray.mk #[44]) 0 _ _ w hw
  omega

theorem top21 (x0 : ByteArray) (hp : P21 x0) : ∃ n, R21 n x0 [⟨.sl (.int .i64), g21_0 x0⟩, ⟨.bool, g21_1 x0⟩] := by
  have ew : g17_0 x0 (ByteArray.mk #[44]) = ws21 x0 := rfl
  have hp' : x0.size ≤ 1048576 := hp
  have hl := wl21 x0 hp
  have hz := wz21 x0 hp
  refine ⟨((ws21 x0).length + 1) + 1, ?_⟩
  rw [R21]
  unfold g21_0 g21_1 all21
  by_cases h0 : x0 = ByteArray.mk #[45]
  · rw [if_pos ((bytes_eq _ _).2 h0), if_pos h0]; rfl
  · rw [if_neg (fun h => h0 ((bytes_eq _ _).1 h)), if_neg h0]
    refine ⟨⟨by omega, Nat.le_refl 1⟩, ?_⟩
    have hm : (ws21 x0).length ≤ maxLen := by unfold maxLen; omega
    have key := loop_fold (b := []) (ws21 x0) ByteArray.empty (fun (h : List Int) b => h ++ [g39_0 b]) (fun h => if g23_0 h = x0 then [(⟨.sl (.int .i64), h⟩ : Dyn), ⟨.bool, true⟩] else [⟨.sl (.int .i64), []⟩, ⟨.bool, false⟩]) (fun i h => h.length ≤ i) (fun n i h ds => R21_5 n i h x0 ds) (by simp) (fun n h hb => ?_) (fun n i h hi hl => ⟨len_up hl, fun ds hr => ?_⟩)
    · rw [foldl_snoc] at key
      have e : [] ++ (ws21 x0).map g39_0 = nums21 x0 := by simp [nums21]
      simp only [e] at key
      by_cases ht : g23_0 (nums21 x0) = x0
      · rw [if_pos ht] at key ⊢; exact key
      · rw [if_neg ht] at key ⊢; exact key
    · show R21_5 (n + 1) (ws21 x0).length h x0 _
      rw [R21_5, ew, if_neg (by simp)]
      by_cases ht : g23_0 h = x0
      · rw [if_neg (by rw [(bytes_eq _ _).2 ht]; simp), if_pos ht]
      · rw [if_pos (by rw [Bool.not_eq_true', Bool.eq_false_iff]; exact fun hh => ht ((bytes_eq _ _).1 hh)), if_neg ht]
    · show R21_5 (n + 1) (i : Int) h x0 ds
      rw [R21_5, ew, if_pos (by simp only [decide_eq_true_eq]; omega)]
      simp only [Int.toNat_natCast]
      have hw := hz _ (mem_getD (ws21 x0) i ByteArray.empty hi)
      exact ⟨by omega, by omega, (show ((ws21 x0).getD i ByteArray.empty).size ≤ 281474976710656 from by omega), by omega, inR_up hm hi, hr⟩

def S21 : Am.Spec := { sig := sig21, pre := fun ⟨x0, _⟩ => P21 x0, res := fun ⟨x0, _⟩ => [⟨.sl (.int .i64), g21_0 x0⟩, ⟨.bool, g21_1 x0⟩] }
theorem con21 : Contract Tryz.prog 21 S21 := contract_of Tryz.func21 hb21 (Nat.le_of_ble_eq_true (by kernel_rfl)) (fun ⟨x0, _⟩ h hwf w0 O q => by
  obtain ⟨n, hn⟩ := top21 x0 h
  exact (snd21 n).1 x0 _ hn w0 O q)

end Go.Proofs.YthjgopkjdnhliaaGreatDoor

/- Function 33 (impl.monthLength): its runs between cut points. Written by a program of this repo (gen). -/
set_option linter.unusedVariables false
set_option linter.unusedSimpArgs false
set_option maxRecDepth 100000
namespace Go.Proofs.YthjgopkjdnhliaaGreatDoor
open Go Go.Am Go.Proofs
def ext33 : Ext := []
theorem ext33Ok : ExtOk Tryz.prog ext33 := trivial
/-! Function 33. -/
noncomputable def b33 : Code := bodyOf Tryz.f33
theorem hb33 : Tryz.f33.body = some b33 := by kernel_rfl
def sig33 : List AT := [AT.v (Ty.int IntKind.i64), AT.v (Ty.int IntKind.i64)]
def tys33 : List Ty := [Ty.int IntKind.i64]
def P33 (x0 : Int) (x1 : Int) : Prop := (if (x1 == 2) = true then ((InR IntKind.i64 (Int.tmod x0 4)) ∧ True) else True)
def g33_0 (x0 : Int) (x1 : Int) : Int := (if (x1 == 2) = true then (if (Int.tmod x0 4 == 0) = true then 29 else 28) else (if (x1 == 4) = true then 30 else (if (x1 == 6) = true then 30 else (if (x1 == 9) = true then 30 else (if (x1 == 11) = true then 30 else 31)))))
theorem p33_0 (x0 : Int) (x1 : Int) : runF tab ext33 false 16 [] 2000 [] tys33 Tryz.f33.results [true, true] [.code b33] (entE 0 0 sig33 (x0, x1, ())) (entL sig33 (x0, x1, ())) = some ([Dyn.mk (Ty.int IntKind.i64) 29], [], [(x1 == 2) = Bool.true, (4 : Int) ≠ (0 : Int), InR IntKind.i64 (Int.tmod x0 4), (Int.tmod x0 4 == 0) = Bool.true]) := by kernel_rfl
theorem p33_1 (x0 : Int) (x1 : Int) : runF tab ext33 false 16 [] 2000 [] tys33 Tryz.f33.results [true, false] [.code b33] (entE 0 0 sig33 (x0, x1, ())) (entL sig33 (x0, x1, ())) = some ([Dyn.mk (Ty.int IntKind.i64) 28], [], [(x1 == 2) = Bool.true, (4 : Int) ≠ (0 : Int), InR IntKind.i64 (Int.tmod x0 4), (Int.tmod x0 4 == 0) = Bool.false]) := by kernel_rfl
theorem p33_2 (x0 : Int) (x1 : Int) : runF tab ext33 false 16 [] 2000 [] tys33 Tryz.f33.results [false, true] [.code b33] (entE 0 0 sig33 (x0, x1, ())) (entL sig33 (x0, x1, ())) = some ([Dyn.mk (Ty.int IntKind.i64) 30], [], [(x1 == 2) = Bool.false, (x1 == 4) = Bool.true]) := by kernel_rfl
theorem p33_3 (x0 : Int) (x1 : Int) : runF tab ext33 false 16 [] 2000 [] tys33 Tryz.f33.results [false, false, true] [.code b33] (entE 0 0 sig33 (x0, x1, ())) (entL sig33 (x0, x1, ())) = some ([Dyn.mk (Ty.int IntKind.i64) 30], [], [(x1 == 2) = Bool.false, (x1 == 4) = Bool.false, (x1 == 6) = Bool.true]) := by kernel_rfl
theorem p33_4 (x0 : Int) (x1 : Int) : runF tab ext33 false 16 [] 2000 [] tys33 Tryz.f33.results [false, false, false, true] [.code b33] (entE 0 0 sig33 (x0, x1, ())) (entL sig33 (x0, x1, ())) = some ([Dyn.mk (Ty.int IntKind.i64) 30], [], [(x1 == 2) = Bool.false, (x1 == 4) = Bool.false, (x1 == 6) = Bool.false, (x1 == 9) = Bool.true]) := by kernel_rfl
theorem p33_5 (x0 : Int) (x1 : Int) : runF tab ext33 false 16 [] 2000 [] tys33 Tryz.f33.results [false, false, false, false, true] [.code b33] (entE 0 0 sig33 (x0, x1, ())) (entL sig33 (x0, x1, ())) = some ([Dyn.mk (Ty.int IntKind.i64) 30], [], [(x1 == 2) = Bool.false, (x1 == 4) = Bool.false, (x1 == 6) = Bool.false, (x1 == 9) = Bool.false, (x1 == 11) = Bool.true]) := by kernel_rfl
theorem p33_6 (x0 : Int) (x1 : Int) : runF tab ext33 false 16 [] 2000 [] tys33 Tryz.f33.results [false, false, false, false, false] [.code b33] (entE 0 0 sig33 (x0, x1, ())) (entL sig33 (x0, x1, ())) = some ([Dyn.mk (Ty.int IntKind.i64) 31], [], [(x1 == 2) = Bool.false, (x1 == 4) = Bool.false, (x1 == 6) = Bool.false, (x1 == 9) = Bool.false, (x1 == 11) = Bool.false]) := by kernel_rfl
theorem at33 (x0 : Int) (x1 : Int) (h : P33 x0 x1) (w0 : World) (O : List Nat) (q : Nat → Value) : AtV Tryz.prog 33 (PostR [⟨Ty.int IntKind.i64, g33_0 x0 x1⟩] [] [] q w0 O) 16 w0 O q [] [.code b33] (entE 0 0 sig33 (x0, x1, ())) (entL sig33 (x0, x1, ())) := by
  unfold P33 at h
  unfold g33_0
  by_cases b0 : (x1 == 2) = true
  · try simp only [if_pos b0] at h ⊢
    obtain ⟨s0, h⟩ := h
    by_cases b1 : (Int.tmod x0 4 == 0) = true
    · try simp only [if_pos b1] at h ⊢
      exact AtV.fin Tryz.func33 tabOk ext33Ok mixed (p33_0 x0 x1) ⟨b0, (by decide), s0, b1, trivial⟩
    · try simp only [if_neg b1] at h ⊢
      replace b1 := Bool.eq_false_iff.2 b1
      exact AtV.fin Tryz.func33 tabOk ext33Ok mixed (p33_1 x0 x1) ⟨b0, (by decide), s0, b1, trivial⟩
  · try simp only [if_neg b0] at h ⊢
    replace b0 := Bool.eq_false_iff.2 b0
    by_cases b1 : (x1 == 4) = true
    · try simp only [if_pos b1] at h ⊢
      exact AtV.fin Tryz.func33 tabOk ext33Ok mixed (p33_2 x0 x1) ⟨b0, b1, trivial⟩
    · try simp only [if_neg b1] at h ⊢
      replace b1 := Bool.eq_false_iff.2 b1
      by_cases b2 : (x1 == 6) = true
      · try simp only [if_pos b2] at h ⊢
        exact AtV.fin Tryz.func33 tabOk ext33Ok mixed (p33_3 x0 x1) ⟨b0, b1, b2, trivial⟩
      · try simp only [if_neg b2] at h ⊢
        replace b2 := Bool.eq_false_iff.2 b2
        by_cases b3 : (x1 == 9) = true
        · try simp only [if_pos b3] at h ⊢
          exact AtV.fin Tryz.func33 tabOk ext33Ok mixed (p33_4 x0 x1) ⟨b0, b1, b2, b3, trivial⟩
        · try simp only [if_neg b3] at h ⊢
          replace b3 := Bool.eq_false_iff.2 b3
          by_cases b4 : (x1 == 11) = true
          · try simp only [if_pos b4] at h ⊢
            exact AtV.fin Tryz.func33 tabOk ext33Ok mixed (p33_5 x0 x1) ⟨b0, b1, b2, b3, b4, trivial⟩
          · try simp only [if_neg b4] at h ⊢
            replace b4 := Bool.eq_false_iff.2 b4
            exact AtV.fin Tryz.func33 tabOk ext33Ok mixed (p33_6 x0 x1) ⟨b0, b1, b2, b3, b4, trivial⟩

def S33 : Am.Spec := { sig := sig33, pre := fun ⟨x0, x1, _⟩ => P33 x0 x1, res := fun ⟨x0, x1, _⟩ => [⟨Ty.int IntKind.i64, g33_0 x0 x1⟩] }
theorem con33 : Contract Tryz.prog 33 S33 := contract_of Tryz.func33 hb33 (Nat.le_of_ble_eq_true (by kernel_rfl)) (fun ⟨x0, x1, _⟩ h _ w0 O q => at33 x0 x1 h w0 O q)


end Go.Proofs.YthjgopkjdnhliaaGreatDoor

/- Function 34 (impl.dayOf): its runs between cut points. Written by a program of this repo (gen). -/
set_option linter.unusedVariables false
set_option linter.unusedSimpArgs false
set_option maxRecDepth 100000
namespace Go.Proofs.YthjgopkjdnhliaaGreatDoor
open Go Go.Am Go.Proofs
def ext34 : Ext := [(33, S33)]
theorem call34_33 : Callable Tryz.prog 33 := ⟨Tryz.f33, Tryz.func33, by kernel_rfl, by kernel_rfl⟩
theorem ext34Ok : ExtOk Tryz.prog ext34 := ⟨⟨call34_33, con33⟩, trivial⟩
/-! Function 34. -/
noncomputable def b34 : Code := bodyOf Tryz.f34
theorem hb34 : Tryz.f34.body = some b34 := by kernel_rfl
def sig34 : List AT := [AT.v (Ty.int IntKind.i64), AT.v (Ty.int IntKind.i64), AT.v (Ty.int IntKind.i64)]
def tys34 : List Ty := [Ty.int IntKind.i64]
def E34_3 (v7 : Int) (v8 : Int) (x0 : Int) (x1 : Int) : Env := [(0, PV.a (Atom.val (Value.int IntKind.i64 x0))), (1, PV.a (Atom.val (Value.int IntKind.i64 x1))), (7, PV.a (Atom.val (Value.int IntKind.i64 v7))), (8, PV.a (Atom.val (Value.int IntKind.i64 v8)))]
def L34_3 (v7 : Int) (v8 : Int) (x0 : Int) (x1 : Int) : Heap := []
mutual
def R34 : Nat → Int → Int → Int → List Dyn → Prop
  | 0, _, _, _, _ => False
  | n + 1, x0, x1, x2, ds => ((InR IntKind.i64 (x0 - 2000)) ∧ ((InR IntKind.i64 ((x0 - 2000) * 365)) ∧ ((InR IntKind.i64 (x0 - 1997)) ∧ ((InR IntKind.i64 (Int.tdiv (x0 - 1997) 4)) ∧ ((InR IntKind.i64 ((x0 - 2000) * 365 + Int.tdiv (x0 - 1997) 4)) ∧ ((InR IntKind.i64 ((x0 - 2000) * 365 + Int.tdiv (x0 - 1997) 4 + x2)) ∧ ((InR IntKind.i64 ((x0 - 2000) * 365 + Int.tdiv (x0 - 1997) 4 + x2 - 1)) ∧ (R34_3 n ((x0 - 2000) * 365 + Int.tdiv (x0 - 1997) 4 + x2 - 1) (1) (x0) (x1) ds))))))))
def R34_3 : Nat → Int → Int → Int → Int → List Dyn → Prop
  | 0, _, _, _, _, _ => False
  | n + 1, v7, v8, x0, x1, ds => (if (Decidable.decide (v8 < x1)) = true then ((P33 x0 v8) ∧ ((InR IntKind.i64 (v7 + g33_0 x0 v8)) ∧ ((InR IntKind.i64 (v8 + 1)) ∧ (R34_3 n (v7 + g33_0 x0 v8) (v8 + 1) (x0) (x1) ds)))) else (ds = [Dyn.mk (Ty.int IntKind.i64) v7]))
end
theorem p34_0 (x0 : Int) (x1 : Int) (x2 : Int) : Am.runN tab ext34 false 30 [] 2000 [] [] [0, 1, 7, 8] [] [] [.code b34] (entE 0 0 sig34 (x0, x1, x2, ())) (entL sig34 (x0, x1, x2, ())) = some (cutAt b34 3, E34_3 ((x0 - 2000) * 365 + Int.tdiv (x0 - 1997) 4 + x2 - 1) (1) (x0) (x1), L34_3 ((x0 - 2000) * 365 + Int.tdiv (x0 - 1997) 4 + x2 - 1) (1) (x0) (x1), [InR IntKind.i64 (x0 - 2000), InR IntKind.i64 ((x0 - 2000) * 365), InR IntKind.i64 (x0 - 1997), (4 : Int) ≠ (0 : Int), InR IntKind.i64 (Int.tdiv (x0 - 1997) 4), InR IntKind.i64 ((x0 - 2000) * 365 + Int.tdiv (x0 - 1997) 4), InR IntKind.i64 ((x0 - 2000) * 365 + Int.tdiv (x0 - 1997) 4 + x2), InR IntKind.i64 ((x0 - 2000) * 365 + Int.tdiv (x0 - 1997) 4 + x2 - 1)]) := by kernel_rfl
theorem p34_1 (v7 : Int) (v8 : Int) (x0 : Int) (x1 : Int) : Am.runN tab ext34 false 30 [] 2000 [] [] [0, 1, 7, 8] [] [true] (cutAt b34 3) (E34_3 v7 v8 x0 x1) (L34_3 v7 v8 x0 x1) = some (cutAt b34 3, E34_3 (v7 + g33_0 x0 v8) (v8 + 1) (x0) (x1), L34_3 (v7 + g33_0 x0 v8) (v8 + 1) (x0) (x1), [Decidable.decide (v8 < x1) = Bool.true, P33 x0 v8, InR IntKind.i64 (v7 + g33_0 x0 v8), InR IntKind.i64 (v8 + 1)]) := by kernel_rfl
theorem p34_2 (v7 : Int) (v8 : Int) (x0 : Int) (x1 : Int) : runF tab ext34 false 30 [] 2000 [] tys34 Tryz.f34.results [false] (cutAt b34 3) (E34_3 v7 v8 x0 x1) (L34_3 v7 v8 x0 x1) = some ([Dyn.mk (Ty.int IntKind.i64) v7], [], [Decidable.decide (v8 < x1) = Bool.false]) := by kernel_rfl
theorem snd34 : ∀ n, (∀ (x0 : Int) (x1 : Int) (x2 : Int) ds, R34 n x0 x1 x2 ds → ∀ w0 O q, AtV Tryz.prog 34 (PostR ds [] [] q w0 O) 30 w0 O q [] [.code b34] (entE 0 0 sig34 (x0, x1, x2, ())) (entL sig34 (x0, x1, x2, ()))) ∧ (∀ (v7 : Int) (v8 : Int) (x0 : Int) (x1 : Int) ds, R34_3 n v7 v8 x0 x1 ds → ∀ w0 O q, AtV Tryz.prog 34 (PostR ds [] [] q w0 O) 30 w0 O q [] (cutAt b34 3) (E34_3 v7 v8 x0 x1) (L34_3 v7 v8 x0 x1)) := by
  intro n
  induction n with
  | zero => exact ⟨fun _ _ _ _ h => by simp only [R34] at h, fun _ _ _ _ _ h => by simp only [R34_3] at h⟩
  | succ n ih =>
  obtain ⟨ih, ih3⟩ := ih
  refine ⟨?_, ?_⟩
  · intro x0 x1 x2 ds h w0 O q
    rw [R34] at h
    obtain ⟨s0, h⟩ := h
    obtain ⟨s1, h⟩ := h
    obtain ⟨s2, h⟩ := h
    obtain ⟨s3, h⟩ := h
    obtain ⟨s4, h⟩ := h
    obtain ⟨s5, h⟩ := h
    obtain ⟨s6, h⟩ := h
    exact AtV.runN tabOk ext34Ok mixed (p34_0 x0 x1 x2) ⟨s0, s1, s2, (by decide), s3, s4, s5, s6, trivial⟩ (ih3 _ _ _ _ _ h w0 O q)

  · intro v7 v8 x0 x1 ds h w0 O q
    rw [R34_3] at h
    by_cases b0 : (Decidable.decide (v8 < x1)) = true
    · rw [if_pos b0] at h
      obtain ⟨s0, h⟩ := h
      obtain ⟨s1, h⟩ := h
      obtain ⟨s2, h⟩ := h
      exact AtV.runN tabOk ext34Ok mixed (p34_1 v7 v8 x0 x1) ⟨b0, s0, s1, s2, trivial⟩ (ih3 _ _ _ _ _ h w0 O q)
    · rw [if_neg b0] at h
      replace b0 := Bool.eq_false_iff.2 b0
      subst h
      exact AtV.fin Tryz.func34 tabOk ext34Ok mixed (p34_2 v7 v8 x0 x1) ⟨b0, trivial⟩



def ms34 (y : Int) : Nat → Int
  | 0 => 0
  | k + 1 => ms34 y k + g33_0 y ((k : Int) + 1)
def bs34 (y d : Int) : Int := (y - 2000) * 365 + Int.tdiv (y - 1997) 4 + d - 1
def g34_0 (x0 x1 x2 : Int) : Int := bs34 x0 x2 + ms34 x0 (x1 - 1).toNat
def P34 (x0 x1 x2 : Int) : Prop := (2000 ≤ x0 ∧ x0 ≤ 2099) ∧ (1 ≤ x1 ∧ x1 ≤ 12) ∧ (1 ≤ x2 ∧ x2 ≤ 31)

theorem len34 {y m : Int} (hy : 2000 ≤ y ∧ y ≤ 2099) : P33 y m ∧ 28 ≤ g33_0 y m ∧ g33_0 y m ≤ 31 := by
  have e : Int.tmod y 4 = y % 4 := Int.tmod_eq_emod_of_nonneg (by omega)
  unfold P33 g33_0
  rw [e]
  have hi : InR .i64 (y % 4) := by rw [i64_iff]; omega
  refine ⟨?_, ?_, ?_⟩
  · split
    · exact ⟨hi, trivial⟩
    · trivial
  · repeat' split
    all_goals omega
  · repeat' split
    all_goals omega

theorem msb34 {y : Int} (hy : 2000 ≤ y ∧ y ≤ 2099) : ∀ k, 0 ≤ ms34 y k ∧ ms34 y k ≤ 31 * k
  | 0 => by simp [ms34]
  | k + 1 => by
    have := msb34 hy k
    have := len34 hy (m := (k : Int) + 1)
    simp only [ms34]
    omega

theorem runM34 {y m : Int} (hy : 2000 ≤ y ∧ y ≤ 2099) (hm : 1 ≤ m ∧ m ≤ 12) (v : Int) (hv : 0 ≤ v ∧ v ≤ 1000000) : ∀ (k i : Nat), (i : Int) + k = m - 1 →
    R34_3 (k + 1) (v + ms34 y i) ((i : Int) + 1) y m [⟨.int .i64, v + ms34 y (m - 1).toNat⟩] := by
  intro k
  induction k with
  | zero =>
    intro i hi
    rw [R34_3, if_neg (by simp; omega), show (m - 1).toNat = i by omega]
  | succ k ih =>
    intro i hi
    obtain ⟨p, l1, l2⟩ := len34 hy (m := (i : Int) + 1)
    obtain ⟨b1, b2⟩ := msb34 hy i
    rw [R34_3, if_pos (by simp; omega)]
    have e1 : v + ms34 y i + g33_0 y ((i : Int) + 1) = v + ms34 y (i + 1) := by simp only [ms34]; omega
    have e2 : (i : Int) + 1 + 1 = ((i + 1 : Nat) : Int) + 1 := by omega
    refine ⟨p, by rw [i64_iff]; omega, by rw [i64_iff]; omega, ?_⟩
    rw [e1, e2]
    exact ih (i + 1) (by omega)

theorem top34 (x0 x1 x2 : Int) (h : P34 x0 x1 x2) : R34 ((x1 - 1).toNat + 1 + 1) x0 x1 x2 [⟨.int .i64, g34_0 x0 x1 x2⟩] := by
  obtain ⟨h0, h1, h2⟩ := h
  have e : Int.tdiv (x0 - 1997) 4 = (x0 - 1997) / 4 := Int.tdiv_eq_ediv_of_nonneg (by omega)
  rw [R34]
  have := runM34 h0 h1 (bs34 x0 x2) (by unfold bs34; rw [e]; omega) (x1 - 1).toNat 0 (by omega)
  refine ⟨by rw [i64_iff]; omega, by rw [i64_iff]; omega, by rw [i64_iff]; omega, by rw [i64_iff, e]; omega, by rw [i64_iff, e]; omega, by rw [i64_iff, e]; omega, by rw [i64_iff, e]; omega, ?_⟩
  simpa [ms34, g34_0, bs34] using this

def S34 : Am.Spec := { sig := sig34, pre := fun ⟨x0, x1, x2, _⟩ => P34 x0 x1 x2, res := fun ⟨x0, x1, x2, _⟩ => [⟨.int .i64, g34_0 x0 x1 x2⟩] }
theorem con34 : Contract Tryz.prog 34 S34 := contract_of Tryz.func34 hb34 (Nat.le_of_ble_eq_true (by kernel_rfl)) (fun ⟨x0, x1, x2, _⟩ h hwf w0 O q =>
  (snd34 _).1 x0 x1 x2 _ (top34 x0 x1 x2 h) w0 O q)

end Go.Proofs.YthjgopkjdnhliaaGreatDoor

/- Function 36 (impl.dateOf): its runs between cut points. Written by a program of this repo (gen). -/
set_option linter.unusedVariables false
set_option linter.unusedSimpArgs false
set_option maxRecDepth 100000
namespace Go.Proofs.YthjgopkjdnhliaaGreatDoor
open Go Go.Am Go.Proofs
def ext36 : Ext := [(34, S34)]
theorem call36_34 : Callable Tryz.prog 34 := ⟨Tryz.f34, Tryz.func34, by kernel_rfl, by kernel_rfl⟩
theorem ext36Ok : ExtOk Tryz.prog ext36 := ⟨⟨call36_34, con34⟩, trivial⟩
/-! Function 36. -/
noncomputable def b36 : Code := bodyOf Tryz.f36
theorem hb36 : Tryz.f36.body = some b36 := by kernel_rfl
def sig36 : List AT := [AT.v (Ty.int IntKind.i64)]
def tys36 : List Ty := [Ty.int IntKind.i64, Ty.int IntKind.i64, Ty.int IntKind.i64]
def E36_2 (v5 : Int) (x0 : Int) : Env := [(0, PV.a (Atom.val (Value.int IntKind.i64 x0))), (5, PV.a (Atom.val (Value.int IntKind.i64 v5))), (6, PV.a (Atom.val (Value.int IntKind.i64 1)))]
def L36_2 (v5 : Int) (x0 : Int) : Heap := []
def E36_4 (v6 : Int) (x0 : Int) (v5 : Int) : Env := [(0, PV.a (Atom.val (Value.int IntKind.i64 x0))), (5, PV.a (Atom.val (Value.int IntKind.i64 v5))), (6, PV.a (Atom.val (Value.int IntKind.i64 v6)))]
def L36_4 (v6 : Int) (x0 : Int) (v5 : Int) : Heap := []
mutual
def R36 : Nat → Int → List Dyn → Prop
  | 0, _, _ => False
  | n + 1, x0, ds => (R36_2 n (2000) (x0) ds)
def R36_2 : Nat → Int → Int → List Dyn → Prop
  | 0, _, _, _ => False
  | n + 1, v5, x0, ds => (if (Decidable.decide (v5 < 2099)) = true then ((InR IntKind.i64 (v5 + 1)) ∧ ((P34 (v5 + 1) 1 1) ∧ (if (Decidable.decide (g34_0 (v5 + 1) 1 1 ≤ x0)) = true then ((InR IntKind.i64 (v5 + 1)) ∧ (R36_2 n (v5 + 1) (x0) ds)) else (R36_4 n (1) (x0) (v5) ds)))) else (R36_4 n (1) (x0) (v5) ds))
def R36_4 : Nat → Int → Int → Int → List Dyn → Prop
  | 0, _, _, _, _ => False
  | n + 1, v6, x0, v5, ds => (if (Decidable.decide (v6 < 12)) = true then ((InR IntKind.i64 (v6 + 1)) ∧ ((P34 v5 (v6 + 1) 1) ∧ (if (Decidable.decide (g34_0 v5 (v6 + 1) 1 ≤ x0)) = true then ((InR IntKind.i64 (v6 + 1)) ∧ (R36_4 n (v6 + 1) (x0) (v5) ds)) else ((P34 v5 v6 1) ∧ ((InR IntKind.i64 (x0 - g34_0 v5 v6 1)) ∧ ((InR IntKind.i64 (x0 - g34_0 v5 v6 1 + 1)) ∧ (ds = [Dyn.mk (Ty.int IntKind.i64) v5, Dyn.mk (Ty.int IntKind.i64) v6, Dyn.mk (Ty.int IntKind.i64) (x0 - g34_0 v5 v6 1 + 1)]))))))) else ((P34 v5 v6 1) ∧ ((InR IntKind.i64 (x0 - g34_0 v5 v6 1)) ∧ ((InR IntKind.i64 (x0 - g34_0 v5 v6 1 + 1)) ∧ (ds = [Dyn.mk (Ty.int IntKind.i64) v5, Dyn.mk (Ty.int IntKind.i64) v6, Dyn.mk (Ty.int IntKind.i64) (x0 - g34_0 v5 v6 1 + 1)])))))
end
theorem p36_0 (x0 : Int) : Am.runN tab ext36 false 38 [] 2000 [] [] [0, 5, 6] [] [] [.code b36] (entE 0 0 sig36 (x0, ())) (entL sig36 (x0, ())) = some (cutAt b36 2, E36_2 (2000) (x0), L36_2 (2000) (x0), []) := by kernel_rfl
theorem p36_1 (v5 : Int) (x0 : Int) : Am.runN tab ext36 false 38 [] 2000 [] [] [0, 5, 6] [] [true, true] (cutAt b36 2) (E36_2 v5 x0) (L36_2 v5 x0) = some (cutAt b36 2, E36_2 (v5 + 1) (x0), L36_2 (v5 + 1) (x0), [Decidable.decide (v5 < 2099) = Bool.true, InR IntKind.i64 (v5 + 1), P34 (v5 + 1) 1 1, Decidable.decide (g34_0 (v5 + 1) 1 1 ≤ x0) = Bool.true, InR IntKind.i64 (v5 + 1)]) := by kernel_rfl
theorem p36_2 (v5 : Int) (x0 : Int) : Am.runN tab ext36 false 38 [] 2000 [] [] [0, 5, 6] [] [true, false] (cutAt b36 2) (E36_2 v5 x0) (L36_2 v5 x0) = some (cutAt b36 4, E36_4 (1) (x0) (v5), L36_4 (1) (x0) (v5), [Decidable.decide (v5 < 2099) = Bool.true, InR IntKind.i64 (v5 + 1), P34 (v5 + 1) 1 1, Decidable.decide (g34_0 (v5 + 1) 1 1 ≤ x0) = Bool.false]) := by kernel_rfl
theorem p36_3 (v5 : Int) (x0 : Int) : Am.runN tab ext36 false 38 [] 2000 [] [] [0, 5, 6] [] [false, false] (cutAt b36 2) (E36_2 v5 x0) (L36_2 v5 x0) = some (cutAt b36 4, E36_4 (1) (x0) (v5), L36_4 (1) (x0) (v5), [Decidable.decide (v5 < 2099) = Bool.false, Bool.false = Bool.false]) := by kernel_rfl
theorem p36_4 (v6 : Int) (x0 : Int) (v5 : Int) : Am.runN tab ext36 false 38 [] 2000 [] [] [0, 5, 6] [] [true, true] (cutAt b36 4) (E36_4 v6 x0 v5) (L36_4 v6 x0 v5) = some (cutAt b36 4, E36_4 (v6 + 1) (x0) (v5), L36_4 (v6 + 1) (x0) (v5), [Decidable.decide (v6 < 12) = Bool.true, InR IntKind.i64 (v6 + 1), P34 v5 (v6 + 1) 1, Decidable.decide (g34_0 v5 (v6 + 1) 1 ≤ x0) = Bool.true, InR IntKind.i64 (v6 + 1)]) := by kernel_rfl
theorem p36_5 (v6 : Int) (x0 : Int) (v5 : Int) : runF tab ext36 false 38 [] 2000 [] tys36 Tryz.f36.results [true, false] (cutAt b36 4) (E36_4 v6 x0 v5) (L36_4 v6 x0 v5) = some ([Dyn.mk (Ty.int IntKind.i64) v5, Dyn.mk (Ty.int IntKind.i64) v6, Dyn.mk (Ty.int IntKind.i64) (x0 - g34_0 v5 v6 1 + 1)], [], [Decidable.decide (v6 < 12) = Bool.true, InR IntKind.i64 (v6 + 1), P34 v5 (v6 + 1) 1, Decidable.decide (g34_0 v5 (v6 + 1) 1 ≤ x0) = Bool.false, P34 v5 v6 1, InR IntKind.i64 (x0 - g34_0 v5 v6 1), InR IntKind.i64 (x0 - g34_0 v5 v6 1 + 1)]) := by kernel_rfl
theorem p36_6 (v6 : Int) (x0 : Int) (v5 : Int) : runF tab ext36 false 38 [] 2000 [] tys36 Tryz.f36.results [false, false] (cutAt b36 4) (E36_4 v6 x0 v5) (L36_4 v6 x0 v5) = some ([Dyn.mk (Ty.int IntKind.i64) v5, Dyn.mk (Ty.int IntKind.i64) v6, Dyn.mk (Ty.int IntKind.i64) (x0 - g34_0 v5 v6 1 + 1)], [], [Decidable.decide (v6 < 12) = Bool.false, Bool.false = Bool.false, P34 v5 v6 1, InR IntKind.i64 (x0 - g34_0 v5 v6 1), InR IntKind.i64 (x0 - g34_0 v5 v6 1 + 1)]) := by kernel_rfl
theorem snd36 : ∀ n, (∀ (x0 : Int) ds, R36 n x0 ds → ∀ w0 O q, AtV Tryz.prog 36 (PostR ds [] [] q w0 O) 38 w0 O q [] [.code b36] (entE 0 0 sig36 (x0, ())) (entL sig36 (x0, ()))) ∧ (∀ (v5 : Int) (x0 : Int) ds, R36_2 n v5 x0 ds → ∀ w0 O q, AtV Tryz.prog 36 (PostR ds [] [] q w0 O) 38 w0 O q [] (cutAt b36 2) (E36_2 v5 x0) (L36_2 v5 x0)) ∧ (∀ (v6 : Int) (x0 : Int) (v5 : Int) ds, R36_4 n v6 x0 v5 ds → ∀ w0 O q, AtV Tryz.prog 36 (PostR ds [] [] q w0 O) 38 w0 O q [] (cutAt b36 4) (E36_4 v6 x0 v5) (L36_4 v6 x0 v5)) := by
  intro n
  induction n with
  | zero => exact ⟨fun _ _ h => by simp only [R36] at h, fun _ _ _ h => by simp only [R36_2] at h, fun _ _ _ _ h => by simp only [R36_4] at h⟩
  | succ n ih =>
  obtain ⟨ih, ih2, ih4⟩ := ih
  refine ⟨?_, ?_, ?_⟩
  · intro x0 ds h w0 O q
    rw [R36] at h
    exact AtV.runN tabOk ext36Ok mixed (p36_0 x0) trivial (ih2 _ _ _ h w0 O q)

  · intro v5 x0 ds h w0 O q
    rw [R36_2] at h
    by_cases b0 : (Decidable.decide (v5 < 2099)) = true
    · rw [if_pos b0] at h
      obtain ⟨s0, h⟩ := h
      obtain ⟨s1, h⟩ := h
      by_cases b1 : (Decidable.decide (g34_0 (v5 + 1) 1 1 ≤ x0)) = true
      · rw [if_pos b1] at h
        obtain ⟨s2, h⟩ := h
        exact AtV.runN tabOk ext36Ok mixed (p36_1 v5 x0) ⟨b0, s0, s1, b1, s2, trivial⟩ (ih2 _ _ _ h w0 O q)
      · rw [if_neg b1] at h
        replace b1 := Bool.eq_false_iff.2 b1
        exact AtV.runN tabOk ext36Ok mixed (p36_2 v5 x0) ⟨b0, s0, s1, b1, trivial⟩ (ih4 _ _ _ _ h w0 O q)
    · rw [if_neg b0] at h
      replace b0 := Bool.eq_false_iff.2 b0
      exact AtV.runN tabOk ext36Ok mixed (p36_3 v5 x0) ⟨b0, rfl, trivial⟩ (ih4 _ _ _ _ h w0 O q)

  · intro v6 x0 v5 ds h w0 O q
    rw [R36_4] at h
    by_cases b0 : (Decidable.decide (v6 < 12)) = true
    · rw [if_pos b0] at h
      obtain ⟨s0, h⟩ := h
      obtain ⟨s1, h⟩ := h
      by_cases b1 : (Decidable.decide (g34_0 v5 (v6 + 1) 1 ≤ x0)) = true
      · rw [if_pos b1] at h
        obtain ⟨s2, h⟩ := h
        exact AtV.runN tabOk ext36Ok mixed (p36_4 v6 x0 v5) ⟨b0, s0, s1, b1, s2, trivial⟩ (ih4 _ _ _ _ h w0 O q)
      · rw [if_neg b1] at h
        replace b1 := Bool.eq_false_iff.2 b1
        obtain ⟨s2, h⟩ := h
        obtain ⟨s3, h⟩ := h
        obtain ⟨s4, h⟩ := h
        subst h
        exact AtV.fin Tryz.func36 tabOk ext36Ok mixed (p36_5 v6 x0 v5) ⟨b0, s0, s1, b1, s2, s3, s4, trivial⟩
    · rw [if_neg b0] at h
      replace b0 := Bool.eq_false_iff.2 b0
      obtain ⟨s0, h⟩ := h
      obtain ⟨s1, h⟩ := h
      obtain ⟨s2, h⟩ := h
      subst h
      exact AtV.fin Tryz.func36 tabOk ext36Ok mixed (p36_6 v6 x0 v5) ⟨b0, rfl, s0, s1, s2, trivial⟩



def yr36 (day : Int) : Nat → Int → Int
  | 0, y => y
  | k + 1, y => if g34_0 (y + 1) 1 1 ≤ day then yr36 day k (y + 1) else y
def mo36 (day y : Int) : Nat → Int → Int
  | 0, m => m
  | k + 1, m => if g34_0 y (m + 1) 1 ≤ day then mo36 day y k (m + 1) else m
def g36_0 (x0 : Int) : Int := yr36 x0 99 2000
def g36_1 (x0 : Int) : Int := mo36 x0 (g36_0 x0) 11 1
def g36_2 (x0 : Int) : Int := x0 - g34_0 (g36_0 x0) (g36_1 x0) 1 + 1
def P36 (x0 : Int) : Prop := 0 ≤ x0 ∧ x0 ≤ 1000000

theorem day36 {y m : Int} (hy : 2000 ≤ y ∧ y ≤ 2099) (hm : 1 ≤ m ∧ m ≤ 12) : P34 y m 1 ∧ 0 ≤ g34_0 y m 1 ∧ g34_0 y m 1 ≤ 1000000 := by
  have e : Int.tdiv (y - 1997) 4 = (y - 1997) / 4 := Int.tdiv_eq_ediv_of_nonneg (by omega)
  have := msb34 hy (m - 1).toNat
  refine ⟨⟨hy, hm, by omega⟩, ?_, ?_⟩ <;> unfold g34_0 bs34 <;> rw [e] <;> omega

theorem runM36 {y day : Int} (hy : 2000 ≤ y ∧ y ≤ 2099) (hd : 0 ≤ day ∧ day ≤ 1000000) (e : Nat) : ∀ (k : Nat) (m : Int), m + k = 12 → 1 ≤ m →
    R36_4 (k + 1 + e) m day y [⟨.int .i64, y⟩, ⟨.int .i64, mo36 day y k m⟩, ⟨.int .i64, day - g34_0 y (mo36 day y k m) 1 + 1⟩] := by
  intro k
  induction k with
  | zero =>
    intro m hm h1
    obtain ⟨p, b1, b2⟩ := day36 hy (m := m) (by omega)
    rw [show 0 + 1 + e = e + 1 by omega, R36_4, if_neg (by simp; omega)]
    exact ⟨p, by rw [i64_iff]; omega, by rw [i64_iff]; omega, rfl⟩
  | succ k ih =>
    intro m hm h1
    obtain ⟨p, b1, b2⟩ := day36 hy (m := m) (by omega)
    obtain ⟨q, c1, c2⟩ := day36 hy (m := m + 1) (by omega)
    rw [show k + 1 + 1 + e = (k + 1 + e) + 1 by omega, R36_4, if_pos (by simp; omega)]
    refine ⟨by rw [i64_iff]; omega, q, ?_⟩
    unfold mo36
    by_cases hc : g34_0 y (m + 1) 1 ≤ day
    · rw [if_pos (by simpa using hc), if_pos hc]
      exact ⟨by rw [i64_iff]; omega, ih (m + 1) (by omega) (by omega)⟩
    · rw [if_neg (by simpa using hc), if_neg hc]
      exact ⟨p, by rw [i64_iff]; omega, by rw [i64_iff]; omega, rfl⟩

theorem runY36 {day : Int} (hd : 0 ≤ day ∧ day ≤ 1000000) : ∀ (k : Nat) (y : Int), y + k = 2099 → 2000 ≤ y →
    R36_2 (k + 1 + 12) y day [⟨.int .i64, yr36 day k y⟩, ⟨.int .i64, mo36 day (yr36 day k y) 11 1⟩, ⟨.int .i64, day - g34_0 (yr36 day k y) (mo36 day (yr36 day k y) 11 1) 1 + 1⟩] := by
  intro k
  induction k with
  | zero =>
    intro y hy h1
    rw [show 0 + 1 + 12 = (11 + 1 + 0) + 1 by omega, R36_2, if_neg (by simp; omega)]
    exact runM36 (by omega) hd 0 11 1 (by omega) (by omega)
  | succ k ih =>
    intro y hy h1
    obtain ⟨q, c1, c2⟩ := day36 (y := y + 1) (m := 1) (by omega) (by omega)
    rw [show k + 1 + 1 + 12 = (k + 1 + 12) + 1 by omega, R36_2, if_pos (by simp; omega)]
    refine ⟨by rw [i64_iff]; omega, q, ?_⟩
    unfold yr36
    by_cases hc : g34_0 (y + 1) 1 1 ≤ day
    · rw [if_pos (by simpa using hc), if_pos hc]
      exact ⟨by rw [i64_iff]; omega, ih (y + 1) (by omega) (by omega)⟩
    · rw [if_neg (by simpa using hc), if_neg hc, show k + 1 + 12 = 11 + 1 + (k + 1) by omega]
      exact runM36 (by omega) hd (k + 1) 11 1 (by omega) (by omega)

theorem top36 (x0 : Int) (h : P36 x0) : R36 (99 + 1 + 12 + 1) x0 [⟨.int .i64, g36_0 x0⟩, ⟨.int .i64, g36_1 x0⟩, ⟨.int .i64, g36_2 x0⟩] := by
  rw [R36]
  exact runY36 h 99 2000 (by omega) (by omega)

def S36 : Am.Spec := { sig := sig36, pre := fun ⟨x0, _⟩ => P36 x0, res := fun ⟨x0, _⟩ => [⟨.int .i64, g36_0 x0⟩, ⟨.int .i64, g36_1 x0⟩, ⟨.int .i64, g36_2 x0⟩] }
theorem con36 : Contract Tryz.prog 36 S36 := contract_of Tryz.func36 hb36 (Nat.le_of_ble_eq_true (by kernel_rfl)) (fun ⟨x0, _⟩ h hwf w0 O q =>
  (snd36 _).1 x0 _ (top36 x0 h) w0 O q)

end Go.Proofs.YthjgopkjdnhliaaGreatDoor

/- Function 55 (strings.Repeat): its contract, off what is known of the library. -/
set_option linter.unusedVariables false
set_option linter.unusedSimpArgs false
set_option maxRecDepth 100000
namespace Go.Proofs.YthjgopkjdnhliaaGreatDoor
open Go Go.Am Go.Proofs

def sig55 : List AT := [AT.v Ty.str, AT.v (Ty.int .i64)]
def g55_0 (x0 : ByteArray) (x1 : Int) : ByteArray := ⟨(Lib.repeatL x0.data.toList x1.toNat).toArray⟩
def P55 (x0 : ByteArray) (x1 : Int) : Prop := 0 ≤ x1 ∧ (x0.size : Int) * x1 ≤ 140737488355328
def S55 : Am.Spec := { sig := sig55, pre := fun ⟨x0, x1, _⟩ => P55 x0 x1, res := fun ⟨x0, x1, _⟩ => [⟨Ty.str, g55_0 x0 x1⟩] }
theorem con55 : Contract Tryz.prog 55 S55 := contract_flat rfl fun w ⟨x0, x1, _⟩ vs bss hg hp hw ha => by
  obtain ⟨v0, s0, _, _, rfl, _, ⟨_, rfl, _⟩, v1, s1, _, _, rfl, _, ⟨_, rfl, _⟩, rfl, _⟩ := ha
  obtain ⟨h0, h1⟩ := hp
  obtain ⟨c, rfl⟩ : ∃ c : Nat, x1 = (c : Int) := Int.eq_ofNat_of_zero_le h0
  have hi : InR .i64 (c : Int) := hw.2.1
  rw [i64_iff] at hi
  have hm : x0.size * c ≤ 140737488355328 := by
    have : ((x0.size * c : Nat) : Int) = (x0.size : Int) * (c : Int) := Int.natCast_mul _ _
    omega
  refine ⟨fun d hd => ?_, ?_⟩
  · rw [List.mem_singleton.1 hd]
    refine ⟨rfl, ?_⟩
    show (ByteArray.mk (Lib.repeatL x0.data.toList c).toArray).size ≤ maxLen
    have : (ByteArray.mk (Lib.repeatL x0.data.toList c).toArray).size = c * x0.data.toList.length := by
      show (Lib.repeatL x0.data.toList c).toArray.size = _
      rw [List.size_toArray, Lib.repeatL_length]
    rw [this, Nat.mul_comm]
    have e : x0.data.toList.length = x0.size := rfl
    rw [e]
    unfold maxLen
    omega
  · refine (Tryz.strings_Repeat x0 c w (by omega) hm).mono ?_
    rintro e w' ⟨rfl, hb⟩
    exact ⟨rfl, Kept.of_below hb⟩

end Go.Proofs.YthjgopkjdnhliaaGreatDoor

/- Function 38 (impl.padded): its runs between cut points. Written by a program of this repo (gen). -/
set_option linter.unusedVariables false
set_option linter.unusedSimpArgs false
set_option maxRecDepth 100000
namespace Go.Proofs.YthjgopkjdnhliaaGreatDoor
open Go Go.Am Go.Proofs
def ext38 : Ext := [(37, S37), (55, S55)]
theorem call38_37 : Callable Tryz.prog 37 := ⟨Tryz.f37, Tryz.func37, by kernel_rfl, by kernel_rfl⟩
theorem call38_55 : Callable Tryz.prog 55 := ⟨Tryz.f55, Tryz.func55, by kernel_rfl, by kernel_rfl⟩
theorem ext38Ok : ExtOk Tryz.prog ext38 := ⟨⟨call38_37, con37⟩, ⟨call38_55, con55⟩, trivial⟩
/-! Function 38. -/
noncomputable def b38 : Code := bodyOf Tryz.f38
theorem hb38 : Tryz.f38.body = some b38 := by kernel_rfl
def sig38 : List AT := [AT.v (Ty.int IntKind.i64), AT.v (Ty.int IntKind.i64)]
def tys38 : List Ty := [Ty.str]
def P38 (x0 : Int) (x1 : Int) : Prop := ((P37 x0) ∧ ((InR IntKind.i64 (x1 - (↑(ByteArray.size (g37_0 x0)) : Int))) ∧ ((P55 (ByteArray.mk #[48]) (if 0 < x1 - (↑(ByteArray.size (g37_0 x0)) : Int) then x1 - (↑(ByteArray.size (g37_0 x0)) : Int) else 0)) ∧ ((ByteArray.size (g55_0 (ByteArray.mk #[48]) (if 0 < x1 - (↑(ByteArray.size (g37_0 x0)) : Int) then x1 - (↑(ByteArray.size (g37_0 x0)) : Int) else 0)) + ByteArray.size (g37_0 x0) ≤ 9223372036854775807) ∧ True))))
def g38_0 (x0 : Int) (x1 : Int) : ByteArray := g55_0 (ByteArray.mk #[48]) (if 0 < x1 - (↑(ByteArray.size (g37_0 x0)) : Int) then x1 - (↑(ByteArray.size (g37_0 x0)) : Int) else 0) ++ g37_0 x0
theorem p38_0 (x0 : Int) (x1 : Int) : runF tab ext38 false 16 [] 2000 [] tys38 Tryz.f38.results [] [.code b38] (entE 0 0 sig38 (x0, x1, ())) (entL sig38 (x0, x1, ())) = some ([Dyn.mk Ty.str (g55_0 (ByteArray.mk #[48]) (if 0 < x1 - (↑(ByteArray.size (g37_0 x0)) : Int) then x1 - (↑(ByteArray.size (g37_0 x0)) : Int) else 0) ++ g37_0 x0)], [], [P37 x0, InR IntKind.i64 (x1 - (↑(ByteArray.size (g37_0 x0)) : Int)), P55 (ByteArray.mk #[48]) (if 0 < x1 - (↑(ByteArray.size (g37_0 x0)) : Int) then x1 - (↑(ByteArray.size (g37_0 x0)) : Int) else 0), ByteArray.size (g55_0 (ByteArray.mk #[48]) (if 0 < x1 - (↑(ByteArray.size (g37_0 x0)) : Int) then x1 - (↑(ByteArray.size (g37_0 x0)) : Int) else 0)) + ByteArray.size (g37_0 x0) ≤ 9223372036854775807]) := by kernel_rfl
theorem at38 (x0 : Int) (x1 : Int) (h : P38 x0 x1) (w0 : World) (O : List Nat) (q : Nat → Value) : AtV Tryz.prog 38 (PostR [⟨Ty.str, g38_0 x0 x1⟩] [] [] q w0 O) 16 w0 O q [] [.code b38] (entE 0 0 sig38 (x0, x1, ())) (entL sig38 (x0, x1, ())) := by
  unfold P38 at h
  unfold g38_0
  obtain ⟨s0, h⟩ := h
  obtain ⟨s1, h⟩ := h
  obtain ⟨s2, h⟩ := h
  obtain ⟨s3, h⟩ := h
  exact AtV.fin Tryz.func38 tabOk ext38Ok mixed (p38_0 x0 x1) ⟨s0, s1, s2, s3, trivial⟩

def S38 : Am.Spec := { sig := sig38, pre := fun ⟨x0, x1, _⟩ => P38 x0 x1, res := fun ⟨x0, x1, _⟩ => [⟨Ty.str, g38_0 x0 x1⟩] }
theorem con38 : Contract Tryz.prog 38 S38 := contract_of Tryz.func38 hb38 (Nat.le_of_ble_eq_true (by kernel_rfl)) (fun ⟨x0, x1, _⟩ h _ w0 O q => at38 x0 x1 h w0 O q)


end Go.Proofs.YthjgopkjdnhliaaGreatDoor

/- Function 20 (impl.DateText): its runs between cut points. Written by a program of this repo (gen). -/
set_option linter.unusedVariables false
set_option linter.unusedSimpArgs false
set_option maxRecDepth 100000
namespace Go.Proofs.YthjgopkjdnhliaaGreatDoor
open Go Go.Am Go.Proofs
def ext20 : Ext := [(35, S35), (36, S36), (37, S37), (38, S38)]
theorem call20_35 : Callable Tryz.prog 35 := ⟨Tryz.f35, Tryz.func35, by kernel_rfl, by kernel_rfl⟩
theorem call20_36 : Callable Tryz.prog 36 := ⟨Tryz.f36, Tryz.func36, by kernel_rfl, by kernel_rfl⟩
theorem call20_37 : Callable Tryz.prog 37 := ⟨Tryz.f37, Tryz.func37, by kernel_rfl, by kernel_rfl⟩
theorem call20_38 : Callable Tryz.prog 38 := ⟨Tryz.f38, Tryz.func38, by kernel_rfl, by kernel_rfl⟩
theorem ext20Ok : ExtOk Tryz.prog ext20 := ⟨⟨call20_35, con35⟩, ⟨call20_36, con36⟩, ⟨call20_37, con37⟩, ⟨call20_38, con38⟩, trivial⟩
/-! Function 20. -/
noncomputable def b20 : Code := bodyOf Tryz.f20
theorem hb20 : Tryz.f20.body = some b20 := by kernel_rfl
def sig20 : List AT := [AT.v (Ty.int IntKind.i64)]
def tys20 : List Ty := [Ty.str]
def P20 (x0 : Int) : Prop := (if (!g35_0 x0) = true then True else ((P36 x0) ∧ ((P37 (g36_0 x0)) ∧ ((ByteArray.size (g37_0 (g36_0 x0)) + 1 ≤ 9223372036854775807) ∧ ((P38 (g36_1 x0) 2) ∧ ((ByteArray.size (g37_0 (g36_0 x0) ++ ByteArray.mk #[45]) + ByteArray.size (g38_0 (g36_1 x0) 2) ≤ 9223372036854775807) ∧ ((ByteArray.size (g37_0 (g36_0 x0) ++ ByteArray.mk #[45] ++ g38_0 (g36_1 x0) 2) + 1 ≤ 9223372036854775807) ∧ ((P38 (g36_2 x0) 2) ∧ ((ByteArray.size (g37_0 (g36_0 x0) ++ ByteArray.mk #[45] ++ g38_0 (g36_1 x0) 2 ++ ByteArray.mk #[45]) + ByteArray.size (g38_0 (g36_2 x0) 2) ≤ 9223372036854775807) ∧ True)))))))))
def g20_0 (x0 : Int) : ByteArray := (if (!g35_0 x0) = true then ByteArray.mk #[] else g37_0 (g36_0 x0) ++ ByteArray.mk #[45] ++ g38_0 (g36_1 x0) 2 ++ ByteArray.mk #[45] ++ g38_0 (g36_2 x0) 2)
theorem p20_0 (x0 : Int) : runF tab ext20 false 25 [] 2000 [] tys20 Tryz.f20.results [true] [.code b20] (entE 0 0 sig20 (x0, ())) (entL sig20 (x0, ())) = some ([Dyn.mk Ty.str (ByteArray.mk #[])], [], [True, (!g35_0 x0) = Bool.true]) := by kernel_rfl
theorem p20_1 (x0 : Int) : runF tab ext20 false 25 [] 2000 [] tys20 Tryz.f20.results [false] [.code b20] (entE 0 0 sig20 (x0, ())) (entL sig20 (x0, ())) = some ([Dyn.mk Ty.str (g37_0 (g36_0 x0) ++ ByteArray.mk #[45] ++ g38_0 (g36_1 x0) 2 ++ ByteArray.mk #[45] ++ g38_0 (g36_2 x0) 2)], [], [True, (!g35_0 x0) = Bool.false, P36 x0, P37 (g36_0 x0), ByteArray.size (g37_0 (g36_0 x0)) + 1 ≤ 9223372036854775807, P38 (g36_1 x0) 2, ByteArray.size (g37_0 (g36_0 x0) ++ ByteArray.mk #[45]) + ByteArray.size (g38_0 (g36_1 x0) 2) ≤ 9223372036854775807, ByteArray.size (g37_0 (g36_0 x0) ++ ByteArray.mk #[45] ++ g38_0 (g36_1 x0) 2) + 1 ≤ 9223372036854775807, P38 (g36_2 x0) 2, ByteArray.size (g37_0 (g36_0 x0) ++ ByteArray.mk #[45] ++ g38_0 (g36_1 x0) 2 ++ ByteArray.mk #[45]) + ByteArray.size (g38_0 (g36_2 x0) 2) ≤ 9223372036854775807]) := by kernel_rfl
theorem at20 (x0 : Int) (h : P20 x0) (w0 : World) (O : List Nat) (q : Nat → Value) : AtV Tryz.prog 20 (PostR [⟨Ty.str, g20_0 x0⟩] [] [] q w0 O) 25 w0 O q [] [.code b20] (entE 0 0 sig20 (x0, ())) (entL sig20 (x0, ())) := by
  unfold P20 at h
  unfold g20_0
  by_cases b0 : (!g35_0 x0) = true
  · try simp only [if_pos b0] at h ⊢
    exact AtV.fin Tryz.func20 tabOk ext20Ok mixed (p20_0 x0) ⟨trivial, b0, trivial⟩
  · try simp only [if_neg b0] at h ⊢
    replace b0 := Bool.eq_false_iff.2 b0
    obtain ⟨s0, h⟩ := h
    obtain ⟨s1, h⟩ := h
    obtain ⟨s2, h⟩ := h
    obtain ⟨s3, h⟩ := h
    obtain ⟨s4, h⟩ := h
    obtain ⟨s5, h⟩ := h
    obtain ⟨s6, h⟩ := h
    obtain ⟨s7, h⟩ := h
    exact AtV.fin Tryz.func20 tabOk ext20Ok mixed (p20_1 x0) ⟨trivial, b0, s0, s1, s2, s3, s4, s5, s6, s7, trivial⟩

def S20 : Am.Spec := { sig := sig20, pre := fun ⟨x0, _⟩ => P20 x0, res := fun ⟨x0, _⟩ => [⟨Ty.str, g20_0 x0⟩] }
theorem con20 : Contract Tryz.prog 20 S20 := contract_of Tryz.func20 hb20 (Nat.le_of_ble_eq_true (by kernel_rfl)) (fun ⟨x0, _⟩ h _ w0 O q => at20 x0 h w0 O q)


end Go.Proofs.YthjgopkjdnhliaaGreatDoor

/- Function 11 (impl.TestText): its runs between cut points. Written by a program of this repo (gen). -/
set_option linter.unusedVariables false
set_option linter.unusedSimpArgs false
set_option maxRecDepth 100000
namespace Go.Proofs.YthjgopkjdnhliaaGreatDoor
open Go Go.Am Go.Proofs
def ext11 : Ext := [(22, S22), (20, S20), (23, S23)]
theorem call11_22 : Callable Tryz.prog 22 := ⟨Tryz.f22, Tryz.func22, by kernel_rfl, by kernel_rfl⟩
theorem call11_20 : Callable Tryz.prog 20 := ⟨Tryz.f20, Tryz.func20, by kernel_rfl, by kernel_rfl⟩
theorem call11_23 : Callable Tryz.prog 23 := ⟨Tryz.f23, Tryz.func23, by kernel_rfl, by kernel_rfl⟩
theorem ext11Ok : ExtOk Tryz.prog ext11 := ⟨⟨call11_22, con22⟩, ⟨call11_20, con20⟩, ⟨call11_23, con23⟩, trivial⟩
/-! Function 11. -/
noncomputable def b11 : Code := bodyOf Tryz.f11
theorem hb11 : Tryz.f11.body = some b11 := by kernel_rfl
def sig11 : List AT := [AT.v (Ty.cons (Ty.int IntKind.i64) (Ty.cons (Ty.int IntKind.i64) (Ty.cons (Ty.int IntKind.i64) Ty.unit)))]
def tys11 : List Ty := [Ty.str]
def P11 (x0 : Int × Int × Int × Unit) : Prop := (if (!g22_0 x0) = true then True else ((P20 (Prod.fst x0)) ∧ ((ByteArray.size (g20_0 (Prod.fst x0)) + 1 ≤ 9223372036854775807) ∧ ((ByteArray.size (g20_0 (Prod.fst x0) ++ ByteArray.mk #[32]) + ByteArray.size (g23_0 [Prod.fst (Prod.snd x0), Prod.fst (Prod.snd (Prod.snd x0))]) ≤ 9223372036854775807) ∧ True))))
def g11_0 (x0 : Int × Int × Int × Unit) : ByteArray := (if (!g22_0 x0) = true then ByteArray.mk #[] else g20_0 (Prod.fst x0) ++ ByteArray.mk #[32] ++ g23_0 [Prod.fst (Prod.snd x0), Prod.fst (Prod.snd (Prod.snd x0))])
theorem p11_0 (x0 : Int × Int × Int × Unit) : runF tab ext11 false 17 [] 2000 [] tys11 Tryz.f11.results [true] [.code b11] (entE 0 0 sig11 (x0, ())) (entL sig11 (x0, ())) = some ([Dyn.mk Ty.str (ByteArray.mk #[])], [], [True, (!g22_0 x0) = Bool.true]) := by kernel_rfl
theorem p11_1 (x0 : Int × Int × Int × Unit) : runF tab ext11 false 17 [] 2000 [] tys11 Tryz.f11.results [false] [.code b11] (entE 0 0 sig11 (x0, ())) (entL sig11 (x0, ())) = some ([Dyn.mk Ty.str (g20_0 (Prod.fst x0) ++ ByteArray.mk #[32] ++ g23_0 [Prod.fst (Prod.snd x0), Prod.fst (Prod.snd (Prod.snd x0))])], [], [True, (!g22_0 x0) = Bool.false, P20 (Prod.fst x0), ByteArray.size (g20_0 (Prod.fst x0)) + 1 ≤ 9223372036854775807, True, ByteArray.size (g20_0 (Prod.fst x0) ++ ByteArray.mk #[32]) + ByteArray.size (g23_0 [Prod.fst (Prod.snd x0), Prod.fst (Prod.snd (Prod.snd x0))]) ≤ 9223372036854775807]) := by kernel_rfl
theorem at11 (x0 : Int × Int × Int × Unit) (h : P11 x0) (w0 : World) (O : List Nat) (q : Nat → Value) : AtV Tryz.prog 11 (PostR [⟨Ty.str, g11_0 x0⟩] [] [] q w0 O) 17 w0 O q [] [.code b11] (entE 0 0 sig11 (x0, ())) (entL sig11 (x0, ())) := by
  unfold P11 at h
  unfold g11_0
  by_cases b0 : (!g22_0 x0) = true
  · try simp only [if_pos b0] at h ⊢
    exact AtV.fin Tryz.func11 tabOk ext11Ok mixed (p11_0 x0) ⟨trivial, b0, trivial⟩
  · try simp only [if_neg b0] at h ⊢
    replace b0 := Bool.eq_false_iff.2 b0
    obtain ⟨s0, h⟩ := h
    obtain ⟨s1, h⟩ := h
    obtain ⟨s2, h⟩ := h
    exact AtV.fin Tryz.func11 tabOk ext11Ok mixed (p11_1 x0) ⟨trivial, b0, s0, s1, trivial, s2, trivial⟩

def S11 : Am.Spec := { sig := sig11, pre := fun ⟨x0, _⟩ => P11 x0, res := fun ⟨x0, _⟩ => [⟨Ty.str, g11_0 x0⟩] }
theorem con11 : Contract Tryz.prog 11 S11 := contract_of Tryz.func11 hb11 (Nat.le_of_ble_eq_true (by kernel_rfl)) (fun ⟨x0, _⟩ h _ w0 O q => at11 x0 h w0 O q)


end Go.Proofs.YthjgopkjdnhliaaGreatDoor

/- Function 12 (spec.l01Split): its runs between cut points. Written by a program of this repo (gen). -/
set_option linter.unusedVariables false
set_option linter.unusedSimpArgs false
set_option maxRecDepth 100000
namespace Go.Proofs.YthjgopkjdnhliaaGreatDoor
open Go Go.Am Go.Proofs
def ext12 : Ext := []
theorem ext12Ok : ExtOk Tryz.prog ext12 := trivial
/-! Function 12. -/
noncomputable def b12 : Code := bodyOf Tryz.f12
theorem hb12 : Tryz.f12.body = some b12 := by kernel_rfl
def sig12 : List AT := [AT.v (Ty.str), AT.v (Ty.int IntKind.u8)]
def tys12 : List Ty := [Ty.sl Ty.str]
def E12_4 (v6 : Int) (v7 : Int) (h0 : List ByteArray) (x0 : ByteArray) (x1 : Int) : Env := [(0, PV.a (Atom.val (Value.string x0))), (1, PV.a (Atom.val (Value.int IntKind.u8 x1))), (5, PV.a (Atom.osl 0 Option.none)), (6, PV.a (Atom.val (Value.int IntKind.i64 v6))), (7, PV.a (Atom.val (Value.int IntKind.i64 v7)))]
def L12_4 (v6 : Int) (v7 : Int) (h0 : List ByteArray) (x0 : ByteArray) (x1 : Int) : Heap := [Option.some (Arr.mk Ty.str h0 Bool.false)]
mutual
def R12 : Nat → ByteArray → Int → List Dyn → Prop
  | 0, _, _, _ => False
  | n + 1, x0, x1, ds => (R12_4 n (0) (0) ([]) (x0) (x1) ds)
def R12_4 : Nat → Int → Int → List ByteArray → ByteArray → Int → List Dyn → Prop
  | 0, _, _, _, _, _, _ => False
  | n + 1, v6, v7, h0, x0, x1, ds => (if (Decidable.decide (v7 < (↑(ByteArray.size x0) : Int))) = true then ((0 ≤ v7) ∧ (v7 < (↑(ByteArray.size x0) : Int)) ∧ (if ((↑(UInt8.toNat (List.getD (Array.toList (ByteArray.data x0)) (Int.toNat v7) 0)) : Int) == x1) = true then ((0 ≤ v6) ∧ (v6 ≤ v7) ∧ (v7 ≤ (↑(ByteArray.size x0) : Int)) ∧ (((List.length h0 + 1) * 16 ≤ 140737488355328) ∧ ((InR IntKind.i64 (v7 + 1)) ∧ ((InR IntKind.i64 (v7 + 1)) ∧ (R12_4 n (v7 + 1) (v7 + 1) (h0 ++ [ByteArray.extract x0 (Int.toNat v6) (Int.toNat v7)]) (x0) (x1) ds))))) else ((InR IntKind.i64 (v7 + 1)) ∧ (R12_4 n (v6) (v7 + 1) (h0) (x0) (x1) ds)))) else ((0 ≤ v6) ∧ (v6 ≤ (↑(ByteArray.size x0) : Int)) ∧ (((List.length h0 + 1) * 16 ≤ 140737488355328) ∧ (ds = [Dyn.mk (Ty.sl Ty.str) (h0 ++ [ByteArray.extract x0 (Int.toNat v6) (Int.toNat (↑(ByteArray.size x0) : Int))])]))))
end
theorem p12_0 (x0 : ByteArray) (x1 : Int) : Am.runN tab ext12 false 35 [] 2000 [] [] [0, 1, 5, 6, 7] [0] [] [.code b12] (entE 0 0 sig12 (x0, x1, ())) (entL sig12 (x0, x1, ())) = some (cutAt b12 4, E12_4 (0) (0) ([]) (x0) (x1), L12_4 (0) (0) ([]) (x0) (x1), []) := by kernel_rfl
theorem p12_1 (v6 : Int) (v7 : Int) (h0 : List ByteArray) (x0 : ByteArray) (x1 : Int) : Am.runN tab ext12 false 35 [] 2000 [] [] [0, 1, 5, 6, 7] [0] [true, true] (cutAt b12 4) (E12_4 v6 v7 h0 x0 x1) (L12_4 v6 v7 h0 x0 x1) = some (cutAt b12 4, E12_4 (v7 + 1) (v7 + 1) (h0 ++ [ByteArray.extract x0 (Int.toNat v6) (Int.toNat v7)]) (x0) (x1), L12_4 (v7 + 1) (v7 + 1) (h0 ++ [ByteArray.extract x0 (Int.toNat v6) (Int.toNat v7)]) (x0) (x1), [Decidable.decide (v7 < (↑(ByteArray.size x0) : Int)) = Bool.true, 0 ≤ v7, v7 < (↑(ByteArray.size x0) : Int), ((↑(UInt8.toNat (List.getD (Array.toList (ByteArray.data x0)) (Int.toNat v7) 0)) : Int) == x1) = Bool.true, 0 ≤ v6, v6 ≤ v7, v7 ≤ (↑(ByteArray.size x0) : Int), (List.length h0 + 1) * 16 ≤ 140737488355328, InR IntKind.i64 (v7 + 1), InR IntKind.i64 (v7 + 1)]) := by kernel_rfl
theorem p12_2 (v6 : Int) (v7 : Int) (h0 : List ByteArray) (x0 : ByteArray) (x1 : Int) : Am.runN tab ext12 false 35 [] 2000 [] [] [0, 1, 5, 6, 7] [0] [true, false] (cutAt b12 4) (E12_4 v6 v7 h0 x0 x1) (L12_4 v6 v7 h0 x0 x1) = some (cutAt b12 4, E12_4 (v6) (v7 + 1) (h0) (x0) (x1), L12_4 (v6) (v7 + 1) (h0) (x0) (x1), [Decidable.decide (v7 < (↑(ByteArray.size x0) : Int)) = Bool.true, 0 ≤ v7, v7 < (↑(ByteArray.size x0) : Int), ((↑(UInt8.toNat (List.getD (Array.toList (ByteArray.data x0)) (Int.toNat v7) 0)) : Int) == x1) = Bool.false, InR IntKind.i64 (v7 + 1)]) := by kernel_rfl
theorem p12_3 (v6 : Int) (v7 : Int) (h0 : List ByteArray) (x0 : ByteArray) (x1 : Int) : runF tab ext12 false 35 [] 2000 [] tys12 Tryz.f12.results [false] (cutAt b12 4) (E12_4 v6 v7 h0 x0 x1) (L12_4 v6 v7 h0 x0 x1) = some ([Dyn.mk (Ty.sl Ty.str) (h0 ++ [ByteArray.extract x0 (Int.toNat v6) (Int.toNat (↑(ByteArray.size x0) : Int))])], [], [Decidable.decide (v7 < (↑(ByteArray.size x0) : Int)) = Bool.false, 0 ≤ v6, v6 ≤ (↑(ByteArray.size x0) : Int), (List.length h0 + 1) * 16 ≤ 140737488355328]) := by kernel_rfl
theorem snd12 : ∀ n, (∀ (x0 : ByteArray) (x1 : Int) ds, R12 n x0 x1 ds → ∀ w0 O q, AtV Tryz.prog 12 (PostR ds [] [] q w0 O) 35 w0 O q [] [.code b12] (entE 0 0 sig12 (x0, x1, ())) (entL sig12 (x0, x1, ()))) ∧ (∀ (v6 : Int) (v7 : Int) (h0 : List ByteArray) (x0 : ByteArray) (x1 : Int) ds, R12_4 n v6 v7 h0 x0 x1 ds → ∀ w0 O q, AtV Tryz.prog 12 (PostR ds [] [] q w0 O) 35 w0 O q [] (cutAt b12 4) (E12_4 v6 v7 h0 x0 x1) (L12_4 v6 v7 h0 x0 x1)) := by
  intro n
  induction n with
  | zero => exact ⟨fun _ _ _ h => by simp only [R12] at h, fun _ _ _ _ _ _ h => by simp only [R12_4] at h⟩
  | succ n ih =>
  obtain ⟨ih, ih4⟩ := ih
  refine ⟨?_, ?_⟩
  · intro x0 x1 ds h w0 O q
    rw [R12] at h
    exact AtV.runN tabOk ext12Ok mixed (p12_0 x0 x1) trivial (ih4 _ _ _ _ _ _ h w0 O q)

  · intro v6 v7 h0 x0 x1 ds h w0 O q
    rw [R12_4] at h
    by_cases b0 : (Decidable.decide (v7 < (↑(ByteArray.size x0) : Int))) = true
    · rw [if_pos b0] at h
      obtain ⟨s0, s1, h⟩ := h
      by_cases b1 : ((↑(UInt8.toNat (List.getD (Array.toList (ByteArray.data x0)) (Int.toNat v7) 0)) : Int) == x1) = true
      · rw [if_pos b1] at h
        obtain ⟨s2, s3, s4, h⟩ := h
        obtain ⟨s5, h⟩ := h
        obtain ⟨s6, h⟩ := h
        obtain ⟨s7, h⟩ := h
        exact AtV.runN tabOk ext12Ok mixed (p12_1 v6 v7 h0 x0 x1) ⟨b0, s0, s1, b1, s2, s3, s4, s5, s6, s7, trivial⟩ (ih4 _ _ _ _ _ _ h w0 O q)
      · rw [if_neg b1] at h
        replace b1 := Bool.eq_false_iff.2 b1
        obtain ⟨s2, h⟩ := h
        exact AtV.runN tabOk ext12Ok mixed (p12_2 v6 v7 h0 x0 x1) ⟨b0, s0, s1, b1, s2, trivial⟩ (ih4 _ _ _ _ _ _ h w0 O q)
    · rw [if_neg b0] at h
      replace b0 := Bool.eq_false_iff.2 b0
      obtain ⟨s0, s1, h⟩ := h
      obtain ⟨s2, h⟩ := h
      subst h
      exact AtV.fin Tryz.func12 tabOk ext12Ok mixed (p12_3 v6 v7 h0 x0 x1) ⟨b0, s0, s1, s2, trivial⟩



def c12 (x1 : Int) : UInt8 := UInt8.ofNat x1.toNat
def g12_0 (x0 : ByteArray) (x1 : Int) : List ByteArray := bss (splitC (c12 x1) x0.data.toList)
def P12 (x0 : ByteArray) (x1 : Int) : Prop := x0.size < 4294967281 ∧ 0 ≤ x1 ∧ x1 ≤ 255

theorem run12 (x0 : ByteArray) (x1 : Int) (hs : x0.size < 4294967281) (h0 : 0 ≤ x1) (h1 : x1 ≤ 255) : ∀ (k i frm : Nat) (h : List ByteArray), i + k = x0.size → frm ≤ i → c12 x1 ∉ (x0.data.toList.drop frm).take (i - frm) → h.length ≤ i →
    R12_4 (k + 1) (frm : Int) (i : Int) h x0 x1 [⟨.sl .str, h ++ bss (splitC (c12 x1) (x0.data.toList.drop frm))⟩] := by
  intro k
  have hll : x0.data.toList.length = x0.size := rfl
  induction k with
  | zero =>
    intro i frm h hi hf hc hl
    rw [R12_4, if_neg (by simp; omega)]
    refine ⟨by omega, by omega, by omega, ?_⟩
    have e : (x0.data.toList.drop frm).take (i - frm) = x0.data.toList.drop frm := List.take_of_length_le (by rw [List.length_drop]; omega)
    rw [e] at hc
    rw [splitC_free _ hc, Int.toNat_natCast, Int.toNat_natCast, Lib.extract_from]
    rfl
  | succ k ih =>
    intro i frm h hi hf hc hl
    have hup : InR .i64 ((i : Int) + 1) := by rw [i64_iff]; omega
    have hlt : i < x0.data.toList.length := by rw [hll]; omega
    have hcons : x0.data.toList.drop i = x0.data.toList.getD i 0 :: x0.data.toList.drop (i + 1) := drop_get _ i 0 hlt
    have hsplit : x0.data.toList.drop frm = (x0.data.toList.drop frm).take (i - frm) ++ x0.data.toList.drop i := by
      conv => lhs; rw [← List.take_append_drop (i - frm) (x0.data.toList.drop frm)]
      rw [List.drop_drop, show frm + (i - frm) = i by omega]
    rw [R12_4, if_pos (by simp; omega)]
    simp only [Int.toNat_natCast]
    refine ⟨by omega, by omega, ?_⟩
    have hb : (((x0.data.toList.getD i 0).toNat : Int) == x1) = true ↔ x0.data.toList.getD i 0 = c12 x1 := by
      have hlt' := (x0.data.toList.getD i 0).toNat_lt
      rw [beq_iff_eq, ← UInt8.toNat_inj]
      unfold c12
      have : (UInt8.ofNat x1.toNat).toNat = x1.toNat := by rw [UInt8.toNat_ofNat']; omega
      rw [this]
      omega
    by_cases he : x0.data.toList.getD i 0 = c12 x1
    · rw [if_pos (hb.2 he)]
      refine ⟨by omega, by omega, by omega, by omega, hup, hup, ?_⟩
      have := ih (i + 1) (i + 1) (h ++ [x0.extract frm i]) (by omega) (Nat.le_refl _) (by simp) (by simp; omega)
      have e2 : x0.extract frm i = ⟨((x0.data.toList.drop frm).take (i - frm)).toArray⟩ := Lib.extract_mk x0.data.toList frm i
      have e3 : splitC (c12 x1) (x0.data.toList.drop frm) = (x0.data.toList.drop frm).take (i - frm) :: splitC (c12 x1) (x0.data.toList.drop (i + 1)) := by
        conv => lhs; rw [hsplit, hcons, he]
        exact splitC_hit _ _ hc
      rw [e3, e2]
      rw [List.append_assoc, e2] at this
      exact this
    · rw [if_neg (fun hh => he (hb.1 hh))]
      refine ⟨hup, ?_⟩
      refine ih (i + 1) frm h (by omega) (by omega) (fun hm => ?_) (by omega)
      have e4 : (x0.data.toList.drop frm).take (i + 1 - frm) = (x0.data.toList.drop frm).take (i - frm) ++ [x0.data.toList.getD i 0] := by
        conv => lhs; rw [hsplit, hcons]
        rw [List.take_append, List.take_of_length_le (by rw [List.length_take, List.length_drop]; omega)]
        have : i + 1 - frm - ((x0.data.toList.drop frm).take (i - frm)).length = 1 := by rw [List.length_take, List.length_drop]; omega
        rw [this]
        rfl
      rw [e4] at hm
      rcases List.mem_append.1 hm with hm | hm
      · exact hc hm
      · exact he (List.mem_singleton.1 hm).symm

theorem top12 (x0 : ByteArray) (x1 : Int) (h : P12 x0 x1) : R12 (x0.size + 1 + 1) x0 x1 [⟨.sl .str, g12_0 x0 x1⟩] := by
  rw [R12]
  have := run12 x0 x1 h.1 h.2.1 h.2.2 x0.size 0 0 [] (by omega) (Nat.le_refl _) (by simp) (by simp)
  simpa [g12_0] using this

def S12 : Am.Spec := { sig := sig12, pre := fun ⟨x0, x1, _⟩ => P12 x0 x1, res := fun ⟨x0, x1, _⟩ => [⟨.sl .str, g12_0 x0 x1⟩] }
theorem con12 : Contract Tryz.prog 12 S12 := contract_of Tryz.func12 hb12 (Nat.le_of_ble_eq_true (by kernel_rfl)) (fun ⟨x0, x1, _⟩ h hwf w0 O q =>
  (snd12 _).1 x0 x1 _ (top12 x0 x1 h) w0 O q)

end Go.Proofs.YthjgopkjdnhliaaGreatDoor

/- Function 45 (spec.l01Digit): its runs between cut points. Written by a program of this repo (gen). -/
set_option linter.unusedVariables false
set_option linter.unusedSimpArgs false
set_option maxRecDepth 100000
namespace Go.Proofs.YthjgopkjdnhliaaGreatDoor
open Go Go.Am Go.Proofs
def ext45 : Ext := []
theorem ext45Ok : ExtOk Tryz.prog ext45 := trivial
/-! Function 45. -/
noncomputable def b45 : Code := bodyOf Tryz.f45
theorem hb45 : Tryz.f45.body = some b45 := by kernel_rfl
def sig45 : List AT := [AT.v (Ty.int IntKind.u8)]
def tys45 : List Ty := [Ty.bool]
def P45 (x0 : Int) : Prop := True
def g45_0 (x0 : Int) : Bool := (if (Decidable.decide (x0 ≥ 48)) = true then Decidable.decide (x0 ≤ 57) else Bool.false)
theorem p45_0 (x0 : Int) : runF tab ext45 false 9 [] 2000 [] tys45 Tryz.f45.results [true] [.code b45] (entE 0 0 sig45 (x0, ())) (entL sig45 (x0, ())) = some ([Dyn.mk Ty.bool (Decidable.decide (x0 ≤ 57))], [], [Decidable.decide (x0 ≥ 48) = Bool.true]) := by kernel_rfl
theorem p45_1 (x0 : Int) : runF tab ext45 false 9 [] 2000 [] tys45 Tryz.f45.results [false] [.code b45] (entE 0 0 sig45 (x0, ())) (entL sig45 (x0, ())) = some ([Dyn.mk Ty.bool Bool.false], [], [Decidable.decide (x0 ≥ 48) = Bool.false]) := by kernel_rfl
theorem at45 (x0 : Int) (h : P45 x0) (w0 : World) (O : List Nat) (q : Nat → Value) : AtV Tryz.prog 45 (PostR [⟨Ty.bool, g45_0 x0⟩] [] [] q w0 O) 9 w0 O q [] [.code b45] (entE 0 0 sig45 (x0, ())) (entL sig45 (x0, ())) := by
  unfold P45 at h
  unfold g45_0
  by_cases b0 : (Decidable.decide (x0 ≥ 48)) = true
  · try simp only [if_pos b0] at h ⊢
    exact AtV.fin Tryz.func45 tabOk ext45Ok mixed (p45_0 x0) ⟨b0, trivial⟩
  · try simp only [if_neg b0] at h ⊢
    replace b0 := Bool.eq_false_iff.2 b0
    exact AtV.fin Tryz.func45 tabOk ext45Ok mixed (p45_1 x0) ⟨b0, trivial⟩

def S45 : Am.Spec := { sig := sig45, pre := fun ⟨x0, _⟩ => P45 x0, res := fun ⟨x0, _⟩ => [⟨Ty.bool, g45_0 x0⟩] }
theorem con45 : Contract Tryz.prog 45 S45 := contract_of Tryz.func45 hb45 (Nat.le_of_ble_eq_true (by kernel_rfl)) (fun ⟨x0, _⟩ h _ w0 O q => at45 x0 h w0 O q)


end Go.Proofs.YthjgopkjdnhliaaGreatDoor

/- Function 24 (spec.l02Digits): its runs between cut points. Written by a program of this repo (gen). -/
set_option linter.unusedVariables false
set_option linter.unusedSimpArgs false
set_option maxRecDepth 100000
namespace Go.Proofs.YthjgopkjdnhliaaGreatDoor
open Go Go.Am Go.Proofs
def ext24 : Ext := [(45, S45)]
theorem call24_45 : Callable Tryz.prog 45 := ⟨Tryz.f45, Tryz.func45, by kernel_rfl, by kernel_rfl⟩
theorem ext24Ok : ExtOk Tryz.prog ext24 := ⟨⟨call24_45, con45⟩, trivial⟩
/-! Function 24. -/
noncomputable def b24 : Code := bodyOf Tryz.f24
theorem hb24 : Tryz.f24.body = some b24 := by kernel_rfl
def sig24 : List AT := [AT.v (Ty.str)]
def tys24 : List Ty := [Ty.int IntKind.i64, Ty.bool]
def E24_3 (v4 : Int) (v5 : Int) (x0 : ByteArray) : Env := [(0, PV.a (Atom.val (Value.string x0))), (4, PV.a (Atom.val (Value.int IntKind.i64 v4))), (5, PV.a (Atom.val (Value.int IntKind.i64 v5)))]
def L24_3 (v4 : Int) (v5 : Int) (x0 : ByteArray) : Heap := []
mutual
def R24 : Nat → ByteArray → List Dyn → Prop
  | 0, _, _ => False
  | n + 1, x0, ds => (R24_3 n (0) (0) (x0) ds)
def R24_3 : Nat → Int → Int → ByteArray → List Dyn → Prop
  | 0, _, _, _, _ => False
  | n + 1, v4, v5, x0, ds => (if (Decidable.decide (v5 < (↑(ByteArray.size x0) : Int))) = true then ((0 ≤ v5) ∧ (v5 < (↑(ByteArray.size x0) : Int)) ∧ (if (!g45_0 (↑(UInt8.toNat (List.getD (Array.toList (ByteArray.data x0)) (Int.toNat v5) 0)) : Int)) = true then (ds = [Dyn.mk (Ty.int IntKind.i64) 0, Dyn.mk Ty.bool Bool.false]) else ((InR IntKind.i64 (10 * v4)) ∧ ((0 ≤ v5) ∧ (v5 < (↑(ByteArray.size x0) : Int)) ∧ ((InR IntKind.u8 ((↑(UInt8.toNat (List.getD (Array.toList (ByteArray.data x0)) (Int.toNat v5) 0)) : Int) - 48)) ∧ ((InR IntKind.i64 ((↑(UInt8.toNat (List.getD (Array.toList (ByteArray.data x0)) (Int.toNat v5) 0)) : Int) - 48)) ∧ ((InR IntKind.i64 (10 * v4 + ((↑(UInt8.toNat (List.getD (Array.toList (ByteArray.data x0)) (Int.toNat v5) 0)) : Int) - 48))) ∧ ((InR IntKind.i64 (v5 + 1)) ∧ (R24_3 n (10 * v4 + ((↑(UInt8.toNat (List.getD (Array.toList (ByteArray.data x0)) (Int.toNat v5) 0)) : Int) - 48)) (v5 + 1) (x0) ds))))))))) else (ds = [Dyn.mk (Ty.int IntKind.i64) v4, Dyn.mk Ty.bool Bool.true]))
end
theorem p24_0 (x0 : ByteArray) : Am.runN tab ext24 false 26 [] 2000 [] [] [0, 4, 5] [] [] [.code b24] (entE 0 0 sig24 (x0, ())) (entL sig24 (x0, ())) = some (cutAt b24 3, E24_3 (0) (0) (x0), L24_3 (0) (0) (x0), []) := by kernel_rfl
theorem p24_1 (v4 : Int) (v5 : Int) (x0 : ByteArray) : runF tab ext24 false 26 [] 2000 [] tys24 Tryz.f24.results [true, true] (cutAt b24 3) (E24_3 v4 v5 x0) (L24_3 v4 v5 x0) = some ([Dyn.mk (Ty.int IntKind.i64) 0, Dyn.mk Ty.bool Bool.false], [], [Decidable.decide (v5 < (↑(ByteArray.size x0) : Int)) = Bool.true, 0 ≤ v5, v5 < (↑(ByteArray.size x0) : Int), True, (!g45_0 (↑(UInt8.toNat (List.getD (Array.toList (ByteArray.data x0)) (Int.toNat v5) 0)) : Int)) = Bool.true]) := by kernel_rfl
theorem p24_2 (v4 : Int) (v5 : Int) (x0 : ByteArray) : Am.runN tab ext24 false 26 [] 2000 [] [] [0, 4, 5] [] [true, false] (cutAt b24 3) (E24_3 v4 v5 x0) (L24_3 v4 v5 x0) = some (cutAt b24 3, E24_3 (10 * v4 + ((↑(UInt8.toNat (List.getD (Array.toList (ByteArray.data x0)) (Int.toNat v5) 0)) : Int) - 48)) (v5 + 1) (x0), L24_3 (10 * v4 + ((↑(UInt8.toNat (List.getD (Array.toList (ByteArray.data x0)) (Int.toNat v5) 0)) : Int) - 48)) (v5 + 1) (x0), [Decidable.decide (v5 < (↑(ByteArray.size x0) : Int)) = Bool.true, 0 ≤ v5, v5 < (↑(ByteArray.size x0) : Int), True, (!g45_0 (↑(UInt8.toNat (List.getD (Array.toList (ByteArray.data x0)) (Int.toNat v5) 0)) : Int)) = Bool.false, InR IntKind.i64 (10 * v4), 0 ≤ v5, v5 < (↑(ByteArray.size x0) : Int), InR IntKind.u8 ((↑(UInt8.toNat (List.getD (Array.toList (ByteArray.data x0)) (Int.toNat v5) 0)) : Int) - 48), InR IntKind.i64 ((↑(UInt8.toNat (List.getD (Array.toList (ByteArray.data x0)) (Int.toNat v5) 0)) : Int) - 48), InR IntKind.i64 (10 * v4 + ((↑(UInt8.toNat (List.getD (Array.toList (ByteArray.data x0)) (Int.toNat v5) 0)) : Int) - 48)), InR IntKind.i64 (v5 + 1)]) := by kernel_rfl
theorem p24_3 (v4 : Int) (v5 : Int) (x0 : ByteArray) : runF tab ext24 false 26 [] 2000 [] tys24 Tryz.f24.results [false] (cutAt b24 3) (E24_3 v4 v5 x0) (L24_3 v4 v5 x0) = some ([Dyn.mk (Ty.int IntKind.i64) v4, Dyn.mk Ty.bool Bool.true], [], [Decidable.decide (v5 < (↑(ByteArray.size x0) : Int)) = Bool.false]) := by kernel_rfl
theorem snd24 : ∀ n, (∀ (x0 : ByteArray) ds, R24 n x0 ds → ∀ w0 O q, AtV Tryz.prog 24 (PostR ds [] [] q w0 O) 26 w0 O q [] [.code b24] (entE 0 0 sig24 (x0, ())) (entL sig24 (x0, ()))) ∧ (∀ (v4 : Int) (v5 : Int) (x0 : ByteArray) ds, R24_3 n v4 v5 x0 ds → ∀ w0 O q, AtV Tryz.prog 24 (PostR ds [] [] q w0 O) 26 w0 O q [] (cutAt b24 3) (E24_3 v4 v5 x0) (L24_3 v4 v5 x0)) := by
  intro n
  induction n with
  | zero => exact ⟨fun _ _ h => by simp only [R24] at h, fun _ _ _ _ h => by simp only [R24_3] at h⟩
  | succ n ih =>
  obtain ⟨ih, ih3⟩ := ih
  refine ⟨?_, ?_⟩
  · intro x0 ds h w0 O q
    rw [R24] at h
    exact AtV.runN tabOk ext24Ok mixed (p24_0 x0) trivial (ih3 _ _ _ _ h w0 O q)

  · intro v4 v5 x0 ds h w0 O q
    rw [R24_3] at h
    by_cases b0 : (Decidable.decide (v5 < (↑(ByteArray.size x0) : Int))) = true
    · rw [if_pos b0] at h
      obtain ⟨s0, s1, h⟩ := h
      by_cases b1 : (!g45_0 (↑(UInt8.toNat (List.getD (Array.toList (ByteArray.data x0)) (Int.toNat v5) 0)) : Int)) = true
      · rw [if_pos b1] at h
        subst h
        exact AtV.fin Tryz.func24 tabOk ext24Ok mixed (p24_1 v4 v5 x0) ⟨b0, s0, s1, trivial, b1, trivial⟩
      · rw [if_neg b1] at h
        replace b1 := Bool.eq_false_iff.2 b1
        obtain ⟨s2, h⟩ := h
        obtain ⟨s3, s4, h⟩ := h
        obtain ⟨s5, h⟩ := h
        obtain ⟨s6, h⟩ := h
        obtain ⟨s7, h⟩ := h
        obtain ⟨s8, h⟩ := h
        exact AtV.runN tabOk ext24Ok mixed (p24_2 v4 v5 x0) ⟨b0, s0, s1, trivial, b1, s2, s3, s4, s5, s6, s7, s8, trivial⟩ (ih3 _ _ _ _ h w0 O q)
    · rw [if_neg b0] at h
      replace b0 := Bool.eq_false_iff.2 b0
      subst h
      exact AtV.fin Tryz.func24 tabOk ext24Ok mixed (p24_3 v4 v5 x0) ⟨b0, trivial⟩



def d24 (b : UInt8) : Bool := decide (48 ≤ b.toNat) && decide (b.toNat ≤ 57)
def dig24 : List UInt8 → Int → Int × Bool
  | [], n => (n, true)
  | b :: r, n => if d24 b then dig24 r (10 * n + ((b.toNat : Int) - 48)) else (0, false)
def g24_0 (x0 : ByteArray) : Int := (dig24 x0.data.toList 0).1
def g24_1 (x0 : ByteArray) : Bool := (dig24 x0.data.toList 0).2
def P24 (x0 : ByteArray) : Prop := x0.size ≤ 18

theorem run24 (x0 : ByteArray) (hs : x0.size ≤ 18) : ∀ (k i m : Nat), i + k = x0.size → m < 10 ^ i →
    R24_3 (k + 1) (m : Int) (i : Int) x0 [⟨.int .i64, (dig24 (x0.data.toList.drop i) (m : Int)).1⟩, ⟨.bool, (dig24 (x0.data.toList.drop i) (m : Int)).2⟩] := by
  intro k
  have hll : x0.data.toList.length = x0.size := rfl
  induction k with
  | zero =>
    intro i m hi hm
    rw [R24_3, if_neg (by simp; omega), List.drop_of_length_le (by omega)]
    rfl
  | succ k ih =>
    intro i m hi hm
    have hlt : i < x0.data.toList.length := by rw [hll]; omega
    have hcons : x0.data.toList.drop i = x0.data.toList.getD i 0 :: x0.data.toList.drop (i + 1) := drop_get _ i 0 hlt
    rw [R24_3, if_pos (by simp; omega), hcons]
    simp only [Int.toNat_natCast]
    generalize x0.data.toList.getD i 0 = b at *
    refine ⟨by omega, by omega, ?_⟩
    have hg : g45_0 (b.toNat : Int) = d24 b := by
      unfold g45_0 d24
      by_cases h1 : 48 ≤ b.toNat
      · have h1' : (b.toNat : Int) ≥ 48 := by omega
        by_cases h2 : b.toNat ≤ 57
        · have h2' : (b.toNat : Int) ≤ 57 := by omega
          simp [h1, h2, h1', h2']
        · have h2' : ¬ (b.toNat : Int) ≤ 57 := by omega
          simp [h1, h2, h1', h2']
      · have h1' : ¬ (b.toNat : Int) ≥ 48 := by omega
        simp [h1, h1']
    rw [hg]
    unfold dig24
    cases hd : d24 b with
    | false => rfl
    | true =>
      have hd' : 48 ≤ b.toNat ∧ b.toNat ≤ 57 := by unfold d24 at hd; simpa using hd
      have hp : 10 ^ i ≤ 10 ^ 17 := Nat.pow_le_pow_right (by decide) (by omega)
      have hm2 : m < 100000000000000000 := Nat.lt_of_lt_of_le hm hp
      simp only [Bool.not_true, Bool.false_eq_true, if_false, if_true]
      refine ⟨by rw [i64_iff]; omega, by omega, by omega, ?_, by rw [i64_iff]; omega, by rw [i64_iff]; omega, by rw [i64_iff]; omega, ?_⟩
      · rw [u8_iff]; omega
      · have e1 : 10 * (m : Int) + ((b.toNat : Int) - 48) = ((10 * m + (b.toNat - 48) : Nat) : Int) := by omega
        have e2 : (i : Int) + 1 = ((i + 1 : Nat) : Int) := by omega
        rw [e1, e2]
        exact ih (i + 1) (10 * m + (b.toNat - 48)) (by omega) (by rw [Nat.pow_succ]; omega)

theorem top24 (x0 : ByteArray) (h : P24 x0) : R24 (x0.size + 1 + 1) x0 [⟨.int .i64, g24_0 x0⟩, ⟨.bool, g24_1 x0⟩] := by
  rw [R24]
  exact run24 x0 h x0.size 0 0 (by omega) (by decide)

def S24 : Am.Spec := { sig := sig24, pre := fun ⟨x0, _⟩ => P24 x0, res := fun ⟨x0, _⟩ => [⟨.int .i64, g24_0 x0⟩, ⟨.bool, g24_1 x0⟩] }
theorem con24 : Contract Tryz.prog 24 S24 := contract_of Tryz.func24 hb24 (Nat.le_of_ble_eq_true (by kernel_rfl)) (fun ⟨x0, _⟩ h hwf w0 O q =>
  (snd24 _).1 x0 _ (top24 x0 h) w0 O q)

end Go.Proofs.YthjgopkjdnhliaaGreatDoor

/- Function 46 (spec.l02Length): its runs between cut points. Written by a program of this repo (gen). -/
set_option linter.unusedVariables false
set_option linter.unusedSimpArgs false
set_option maxRecDepth 100000
namespace Go.Proofs.YthjgopkjdnhliaaGreatDoor
open Go Go.Am Go.Proofs
def ext46 : Ext := []
theorem ext46Ok : ExtOk Tryz.prog ext46 := trivial
/-! Function 46. -/
noncomputable def b46 : Code := bodyOf Tryz.f46
theorem hb46 : Tryz.f46.body = some b46 := by kernel_rfl
def sig46 : List AT := [AT.v (Ty.int IntKind.i64), AT.v (Ty.int IntKind.i64)]
def tys46 : List Ty := [Ty.int IntKind.i64]
def P46 (x0 : Int) (x1 : Int) : Prop := (if (x1 == 2) = true then ((InR IntKind.i64 (Int.tmod x0 4)) ∧ (if (Int.tmod x0 4 == 0) = true then True else ((InR IntKind.i64 (x1 - 1)) ∧ ((0 ≤ x1 - 1) ∧ (x1 - 1 < 12) ∧ True)))) else ((InR IntKind.i64 (x1 - 1)) ∧ ((0 ≤ x1 - 1) ∧ (x1 - 1 < 12) ∧ True)))
def g46_0 (x0 : Int) (x1 : Int) : Int := (if (x1 == 2) = true then (if (Int.tmod x0 4 == 0) = true then 29 else List.getD [31, 28, 31, 30, 31, 30, 31, 31, 30, 31, 30, 31] (Int.toNat (x1 - 1)) 0) else List.getD [31, 28, 31, 30, 31, 30, 31, 31, 30, 31, 30, 31] (Int.toNat (x1 - 1)) 0)
theorem p46_0 (x0 : Int) (x1 : Int) : runF tab ext46 false 19 [] 2000 [] tys46 Tryz.f46.results [true, true] [.code b46] (entE 0 0 sig46 (x0, x1, ())) (entL sig46 (x0, x1, ())) = some ([Dyn.mk (Ty.int IntKind.i64) 29], [], [(x1 == 2) = Bool.true, (4 : Int) ≠ (0 : Int), InR IntKind.i64 (Int.tmod x0 4), (Int.tmod x0 4 == 0) = Bool.true]) := by kernel_rfl
theorem p46_1 (x0 : Int) (x1 : Int) : runF tab ext46 false 19 [] 2000 [] tys46 Tryz.f46.results [true, false] [.code b46] (entE 0 0 sig46 (x0, x1, ())) (entL sig46 (x0, x1, ())) = some ([Dyn.mk (Ty.int IntKind.i64) (List.getD [31, 28, 31, 30, 31, 30, 31, 31, 30, 31, 30, 31] (Int.toNat (x1 - 1)) 0)], [], [(x1 == 2) = Bool.true, (4 : Int) ≠ (0 : Int), InR IntKind.i64 (Int.tmod x0 4), (Int.tmod x0 4 == 0) = Bool.false, InR IntKind.i64 (x1 - 1), 0 ≤ x1 - 1, x1 - 1 < 12]) := by kernel_rfl
theorem p46_2 (x0 : Int) (x1 : Int) : runF tab ext46 false 19 [] 2000 [] tys46 Tryz.f46.results [false, false] [.code b46] (entE 0 0 sig46 (x0, x1, ())) (entL sig46 (x0, x1, ())) = some ([Dyn.mk (Ty.int IntKind.i64) (List.getD [31, 28, 31, 30, 31, 30, 31, 31, 30, 31, 30, 31] (Int.toNat (x1 - 1)) 0)], [], [(x1 == 2) = Bool.false, Bool.false = Bool.false, InR IntKind.i64 (x1 - 1), 0 ≤ x1 - 1, x1 - 1 < 12]) := by kernel_rfl
theorem at46 (x0 : Int) (x1 : Int) (h : P46 x0 x1) (w0 : World) (O : List Nat) (q : Nat → Value) : AtV Tryz.prog 46 (PostR [⟨Ty.int IntKind.i64, g46_0 x0 x1⟩] [] [] q w0 O) 19 w0 O q [] [.code b46] (entE 0 0 sig46 (x0, x1, ())) (entL sig46 (x0, x1, ())) := by
  unfold P46 at h
  unfold g46_0
  by_cases b0 : (x1 == 2) = true
  · try simp only [if_pos b0] at h ⊢
    obtain ⟨s0, h⟩ := h
    by_cases b1 : (Int.tmod x0 4 == 0) = true
    · try simp only [if_pos b1] at h ⊢
      exact AtV.fin Tryz.func46 tabOk ext46Ok mixed (p46_0 x0 x1) ⟨b0, (by decide), s0, b1, trivial⟩
    · try simp only [if_neg b1] at h ⊢
      replace b1 := Bool.eq_false_iff.2 b1
      obtain ⟨s1, h⟩ := h
      obtain ⟨s2, s3, h⟩ := h
      exact AtV.fin Tryz.func46 tabOk ext46Ok mixed (p46_1 x0 x1) ⟨b0, (by decide), s0, b1, s1, s2, s3, trivial⟩
  · try simp only [if_neg b0] at h ⊢
    replace b0 := Bool.eq_false_iff.2 b0
    obtain ⟨s0, h⟩ := h
    obtain ⟨s1, s2, h⟩ := h
    exact AtV.fin Tryz.func46 tabOk ext46Ok mixed (p46_2 x0 x1) ⟨b0, rfl, s0, s1, s2, trivial⟩

def S46 : Am.Spec := { sig := sig46, pre := fun ⟨x0, x1, _⟩ => P46 x0 x1, res := fun ⟨x0, x1, _⟩ => [⟨Ty.int IntKind.i64, g46_0 x0 x1⟩] }
theorem con46 : Contract Tryz.prog 46 S46 := contract_of Tryz.func46 hb46 (Nat.le_of_ble_eq_true (by kernel_rfl)) (fun ⟨x0, x1, _⟩ h _ w0 O q => at46 x0 x1 h w0 O q)


end Go.Proofs.YthjgopkjdnhliaaGreatDoor

/- Function 25 (spec.l02Number): its runs between cut points. Written by a program of this repo (gen). -/
set_option linter.unusedVariables false
set_option linter.unusedSimpArgs false
set_option maxRecDepth 100000
namespace Go.Proofs.YthjgopkjdnhliaaGreatDoor
open Go Go.Am Go.Proofs
def ext25 : Ext := [(27, S27), (46, S46)]
theorem call25_27 : Callable Tryz.prog 27 := ⟨Tryz.f27, Tryz.func27, by kernel_rfl, by kernel_rfl⟩
theorem call25_46 : Callable Tryz.prog 46 := ⟨Tryz.f46, Tryz.func46, by kernel_rfl, by kernel_rfl⟩
theorem ext25Ok : ExtOk Tryz.prog ext25 := ⟨⟨call25_27, con27⟩, ⟨call25_46, con46⟩, trivial⟩
/-! Function 25. -/
noncomputable def b25 : Code := bodyOf Tryz.f25
theorem hb25 : Tryz.f25.body = some b25 := by kernel_rfl
def sig25 : List AT := [AT.v (Ty.int IntKind.i64), AT.v (Ty.int IntKind.i64), AT.v (Ty.int IntKind.i64)]
def tys25 : List Ty := [Ty.int IntKind.i64, Ty.bool]
def E25_5 (v8 : Int) (v9 : Int) (x0 : Int) (x1 : Int) : Env := [(0, PV.a (Atom.val (Value.int IntKind.i64 x0))), (1, PV.a (Atom.val (Value.int IntKind.i64 x1))), (8, PV.a (Atom.val (Value.int IntKind.i64 v8))), (9, PV.a (Atom.val (Value.int IntKind.i64 v9)))]
def L25_5 (v8 : Int) (v9 : Int) (x0 : Int) (x1 : Int) : Heap := []
def E25_11 (v8 : Int) (v10 : Int) (x0 : Int) (x1 : Int) : Env := [(0, PV.a (Atom.val (Value.int IntKind.i64 x0))), (1, PV.a (Atom.val (Value.int IntKind.i64 x1))), (8, PV.a (Atom.val (Value.int IntKind.i64 v8))), (10, PV.a (Atom.val (Value.int IntKind.i64 v10)))]
def L25_11 (v8 : Int) (v10 : Int) (x0 : Int) (x1 : Int) : Heap := []
mutual
def R25 : Nat → Int → Int → Int → List Dyn → Prop
  | 0, _, _, _, _ => False
  | n + 1, x0, x1, x2, ds => (if (!g27_0 x0 2000 2099) = true then (ds = [Dyn.mk (Ty.int IntKind.i64) 0, Dyn.mk Ty.bool Bool.false]) else (if (!g27_0 x1 1 12) = true then (ds = [Dyn.mk (Ty.int IntKind.i64) 0, Dyn.mk Ty.bool Bool.false]) else ((P46 x0 x1) ∧ (if (!g27_0 x2 1 (g46_0 x0 x1)) = true then (ds = [Dyn.mk (Ty.int IntKind.i64) 0, Dyn.mk Ty.bool Bool.false]) else ((InR IntKind.i64 (x2 - 1)) ∧ (R25_5 n (x2 - 1) (2000) (x0) (x1) ds))))))
def R25_5 : Nat → Int → Int → Int → Int → List Dyn → Prop
  | 0, _, _, _, _, _ => False
  | n + 1, v8, v9, x0, x1, ds => (if (Decidable.decide (v9 < x0)) = true then ((InR IntKind.i64 (v8 + 365)) ∧ ((InR IntKind.i64 (Int.tmod v9 4)) ∧ (if (Int.tmod v9 4 == 0) = true then ((InR IntKind.i64 (v8 + 365 + 1)) ∧ ((InR IntKind.i64 (v9 + 1)) ∧ (R25_5 n (v8 + 365 + 1) (v9 + 1) (x0) (x1) ds))) else ((InR IntKind.i64 (v9 + 1)) ∧ (R25_5 n (v8 + 365) (v9 + 1) (x0) (x1) ds))))) else (R25_11 n (v8) (1) (x0) (x1) ds))
def R25_11 : Nat → Int → Int → Int → Int → List Dyn → Prop
  | 0, _, _, _, _, _ => False
  | n + 1, v8, v10, x0, x1, ds => (if (Decidable.decide (v10 < x1)) = true then ((P46 x0 v10) ∧ ((InR IntKind.i64 (v8 + g46_0 x0 v10)) ∧ ((InR IntKind.i64 (v10 + 1)) ∧ (R25_11 n (v8 + g46_0 x0 v10) (v10 + 1) (x0) (x1) ds)))) else (ds = [Dyn.mk (Ty.int IntKind.i64) v8, Dyn.mk Ty.bool Bool.true]))
end
theorem p25_0 (x0 : Int) (x1 : Int) (x2 : Int) : runF tab ext25 false 52 [] 2000 [] tys25 Tryz.f25.results [true, true, true] [.code b25] (entE 0 0 sig25 (x0, x1, x2, ())) (entL sig25 (x0, x1, x2, ())) = some ([Dyn.mk (Ty.int IntKind.i64) 0, Dyn.mk Ty.bool Bool.false], [], [True, (!g27_0 x0 2000 2099) = Bool.true, Bool.true = Bool.true, Bool.true = Bool.true]) := by kernel_rfl
theorem p25_1 (x0 : Int) (x1 : Int) (x2 : Int) : runF tab ext25 false 52 [] 2000 [] tys25 Tryz.f25.results [false, true, true] [.code b25] (entE 0 0 sig25 (x0, x1, x2, ())) (entL sig25 (x0, x1, x2, ())) = some ([Dyn.mk (Ty.int IntKind.i64) 0, Dyn.mk Ty.bool Bool.false], [], [True, (!g27_0 x0 2000 2099) = Bool.false, True, (!g27_0 x1 1 12) = Bool.true, Bool.true = Bool.true]) := by kernel_rfl
theorem p25_2 (x0 : Int) (x1 : Int) (x2 : Int) : runF tab ext25 false 52 [] 2000 [] tys25 Tryz.f25.results [false, false, true] [.code b25] (entE 0 0 sig25 (x0, x1, x2, ())) (entL sig25 (x0, x1, x2, ())) = some ([Dyn.mk (Ty.int IntKind.i64) 0, Dyn.mk Ty.bool Bool.false], [], [True, (!g27_0 x0 2000 2099) = Bool.false, True, (!g27_0 x1 1 12) = Bool.false, P46 x0 x1, True, (!g27_0 x2 1 (g46_0 x0 x1)) = Bool.true]) := by kernel_rfl
theorem p25_3 (x0 : Int) (x1 : Int) (x2 : Int) : Am.runN tab ext25 false 52 [] 2000 [] [] [0, 1, 8, 9] [] [false, false, false] [.code b25] (entE 0 0 sig25 (x0, x1, x2, ())) (entL sig25 (x0, x1, x2, ())) = some (cutAt b25 5, E25_5 (x2 - 1) (2000) (x0) (x1), L25_5 (x2 - 1) (2000) (x0) (x1), [True, (!g27_0 x0 2000 2099) = Bool.false, True, (!g27_0 x1 1 12) = Bool.false, P46 x0 x1, True, (!g27_0 x2 1 (g46_0 x0 x1)) = Bool.false, InR IntKind.i64 (x2 - 1)]) := by kernel_rfl
theorem p25_4 (v8 : Int) (v9 : Int) (x0 : Int) (x1 : Int) : Am.runN tab ext25 false 52 [] 2000 [] [] [0, 1, 8, 9] [] [true, true] (cutAt b25 5) (E25_5 v8 v9 x0 x1) (L25_5 v8 v9 x0 x1) = some (cutAt b25 5, E25_5 (v8 + 365 + 1) (v9 + 1) (x0) (x1), L25_5 (v8 + 365 + 1) (v9 + 1) (x0) (x1), [Decidable.decide (v9 < x0) = Bool.true, InR IntKind.i64 (v8 + 365), (4 : Int) ≠ (0 : Int), InR IntKind.i64 (Int.tmod v9 4), (Int.tmod v9 4 == 0) = Bool.true, InR IntKind.i64 (v8 + 365 + 1), InR IntKind.i64 (v9 + 1)]) := by kernel_rfl
theorem p25_5 (v8 : Int) (v9 : Int) (x0 : Int) (x1 : Int) : Am.runN tab ext25 false 52 [] 2000 [] [] [0, 1, 8, 9] [] [true, false] (cutAt b25 5) (E25_5 v8 v9 x0 x1) (L25_5 v8 v9 x0 x1) = some (cutAt b25 5, E25_5 (v8 + 365) (v9 + 1) (x0) (x1), L25_5 (v8 + 365) (v9 + 1) (x0) (x1), [Decidable.decide (v9 < x0) = Bool.true, InR IntKind.i64 (v8 + 365), (4 : Int) ≠ (0 : Int), InR IntKind.i64 (Int.tmod v9 4), (Int.tmod v9 4 == 0) = Bool.false, InR IntKind.i64 (v9 + 1)]) := by kernel_rfl
theorem p25_6 (v8 : Int) (v9 : Int) (x0 : Int) (x1 : Int) : Am.runN tab ext25 false 52 [] 2000 [] [] [0, 1, 8, 10] [] [false] (cutAt b25 5) (E25_5 v8 v9 x0 x1) (L25_5 v8 v9 x0 x1) = some (cutAt b25 11, E25_11 (v8) (1) (x0) (x1), L25_11 (v8) (1) (x0) (x1), [Decidable.decide (v9 < x0) = Bool.false]) := by kernel_rfl
theorem p25_7 (v8 : Int) (v10 : Int) (x0 : Int) (x1 : Int) : Am.runN tab ext25 false 52 [] 2000 [] [] [0, 1, 8, 10] [] [true] (cutAt b25 11) (E25_11 v8 v10 x0 x1) (L25_11 v8 v10 x0 x1) = some (cutAt b25 11, E25_11 (v8 + g46_0 x0 v10) (v10 + 1) (x0) (x1), L25_11 (v8 + g46_0 x0 v10) (v10 + 1) (x0) (x1), [Decidable.decide (v10 < x1) = Bool.true, P46 x0 v10, InR IntKind.i64 (v8 + g46_0 x0 v10), InR IntKind.i64 (v10 + 1)]) := by kernel_rfl
theorem p25_8 (v8 : Int) (v10 : Int) (x0 : Int) (x1 : Int) : runF tab ext25 false 52 [] 2000 [] tys25 Tryz.f25.results [false] (cutAt b25 11) (E25_11 v8 v10 x0 x1) (L25_11 v8 v10 x0 x1) = some ([Dyn.mk (Ty.int IntKind.i64) v8, Dyn.mk Ty.bool Bool.true], [], [Decidable.decide (v10 < x1) = Bool.false]) := by kernel_rfl
theorem snd25 : ∀ n, (∀ (x0 : Int) (x1 : Int) (x2 : Int) ds, R25 n x0 x1 x2 ds → ∀ w0 O q, AtV Tryz.prog 25 (PostR ds [] [] q w0 O) 52 w0 O q [] [.code b25] (entE 0 0 sig25 (x0, x1, x2, ())) (entL sig25 (x0, x1, x2, ()))) ∧ (∀ (v8 : Int) (v9 : Int) (x0 : Int) (x1 : Int) ds, R25_5 n v8 v9 x0 x1 ds → ∀ w0 O q, AtV Tryz.prog 25 (PostR ds [] [] q w0 O) 52 w0 O q [] (cutAt b25 5) (E25_5 v8 v9 x0 x1) (L25_5 v8 v9 x0 x1)) ∧ (∀ (v8 : Int) (v10 : Int) (x0 : Int) (x1 : Int) ds, R25_11 n v8 v10 x0 x1 ds → ∀ w0 O q, AtV Tryz.prog 25 (PostR ds [] [] q w0 O) 52 w0 O q [] (cutAt b25 11) (E25_11 v8 v10 x0 x1) (L25_11 v8 v10 x0 x1)) := by
  intro n
  induction n with
  | zero => exact ⟨fun _ _ _ _ h => by simp only [R25] at h, fun _ _ _ _ _ h => by simp only [R25_5] at h, fun _ _ _ _ _ h => by simp only [R25_11] at h⟩
  | succ n ih =>
  obtain ⟨ih, ih5, ih11⟩ := ih
  refine ⟨?_, ?_, ?_⟩
  · intro x0 x1 x2 ds h w0 O q
    rw [R25] at h
    by_cases b0 : (!g27_0 x0 2000 2099) = true
    · rw [if_pos b0] at h
      subst h
      exact AtV.fin Tryz.func25 tabOk ext25Ok mixed (p25_0 x0 x1 x2) ⟨trivial, b0, rfl, rfl, trivial⟩
    · rw [if_neg b0] at h
      replace b0 := Bool.eq_false_iff.2 b0
      by_cases b1 : (!g27_0 x1 1 12) = true
      · rw [if_pos b1] at h
        subst h
        exact AtV.fin Tryz.func25 tabOk ext25Ok mixed (p25_1 x0 x1 x2) ⟨trivial, b0, trivial, b1, rfl, trivial⟩
      · rw [if_neg b1] at h
        replace b1 := Bool.eq_false_iff.2 b1
        obtain ⟨s0, h⟩ := h
        by_cases b2 : (!g27_0 x2 1 (g46_0 x0 x1)) = true
        · rw [if_pos b2] at h
          subst h
          exact AtV.fin Tryz.func25 tabOk ext25Ok mixed (p25_2 x0 x1 x2) ⟨trivial, b0, trivial, b1, s0, trivial, b2, trivial⟩
        · rw [if_neg b2] at h
          replace b2 := Bool.eq_false_iff.2 b2
          obtain ⟨s1, h⟩ := h
          exact AtV.runN tabOk ext25Ok mixed (p25_3 x0 x1 x2) ⟨trivial, b0, trivial, b1, s0, trivial, b2, s1, trivial⟩ (ih5 _ _ _ _ _ h w0 O q)

  · intro v8 v9 x0 x1 ds h w0 O q
    rw [R25_5] at h
    by_cases b0 : (Decidable.decide (v9 < x0)) = true
    · rw [if_pos b0] at h
      obtain ⟨s0, h⟩ := h
      obtain ⟨s1, h⟩ := h
      by_cases b1 : (Int.tmod v9 4 == 0) = true
      · rw [if_pos b1] at h
        obtain ⟨s2, h⟩ := h
        obtain ⟨s3, h⟩ := h
        exact AtV.runN tabOk ext25Ok mixed (p25_4 v8 v9 x0 x1) ⟨b0, s0, (by decide), s1, b1, s2, s3, trivial⟩ (ih5 _ _ _ _ _ h w0 O q)
      · rw [if_neg b1] at h
        replace b1 := Bool.eq_false_iff.2 b1
        obtain ⟨s2, h⟩ := h
        exact AtV.runN tabOk ext25Ok mixed (p25_5 v8 v9 x0 x1) ⟨b0, s0, (by decide), s1, b1, s2, trivial⟩ (ih5 _ _ _ _ _ h w0 O q)
    · rw [if_neg b0] at h
      replace b0 := Bool.eq_false_iff.2 b0
      exact AtV.runN tabOk ext25Ok mixed (p25_6 v8 v9 x0 x1) ⟨b0, trivial⟩ (ih11 _ _ _ _ _ h w0 O q)

  · intro v8 v10 x0 x1 ds h w0 O q
    rw [R25_11] at h
    by_cases b0 : (Decidable.decide (v10 < x1)) = true
    · rw [if_pos b0] at h
      obtain ⟨s0, h⟩ := h
      obtain ⟨s1, h⟩ := h
      obtain ⟨s2, h⟩ := h
      exact AtV.runN tabOk ext25Ok mixed (p25_7 v8 v10 x0 x1) ⟨b0, s0, s1, s2, trivial⟩ (ih11 _ _ _ _ _ h w0 O q)
    · rw [if_neg b0] at h
      replace b0 := Bool.eq_false_iff.2 b0
      subst h
      exact AtV.fin Tryz.func25 tabOk ext25Ok mixed (p25_8 v8 v10 x0 x1) ⟨b0, trivial⟩



def ms25 (y : Int) : Nat → Int
  | 0 => 0
  | k + 1 => ms25 y k + g46_0 y ((k : Int) + 1)
def yd25 : Nat → Int
  | 0 => 0
  | k + 1 => yd25 k + 365 + (if (Int.tmod (2000 + (k : Int)) 4 == 0) = true then 1 else 0)
def ok25 (x0 x1 x2 : Int) : Bool := g27_0 x0 2000 2099 && (g27_0 x1 1 12 && g27_0 x2 1 (g46_0 x0 x1))
def g25_0 (x0 x1 x2 : Int) : Int := if ok25 x0 x1 x2 = true then x2 - 1 + yd25 (x0 - 2000).toNat + ms25 x0 (x1 - 1).toNat else 0
def g25_1 (x0 x1 x2 : Int) : Bool := ok25 x0 x1 x2
def P25 (x0 x1 x2 : Int) : Prop := True

theorem in25 {x a b : Int} : g27_0 x a b = true ↔ a ≤ x ∧ x ≤ b := by
  unfold g27_0
  by_cases c1 : x ≥ a
  · by_cases c2 : x ≤ b
    · simp [c1, c2]
    · simp [c1, c2]
  · have : ¬ a ≤ x := c1
    simp [c1, this]

theorem len25 {y m : Int} (hy : 2000 ≤ y ∧ y ≤ 2099) (h : 1 ≤ m ∧ m ≤ 12) : P46 y m ∧ 28 ≤ g46_0 y m ∧ g46_0 y m ≤ 31 := by
  have e : Int.tmod y 4 = y % 4 := Int.tmod_eq_emod_of_nonneg (by omega)
  have hm : m = 1 ∨ m = 2 ∨ m = 3 ∨ m = 4 ∨ m = 5 ∨ m = 6 ∨ m = 7 ∨ m = 8 ∨ m = 9 ∨ m = 10 ∨ m = 11 ∨ m = 12 := by omega
  unfold P46 g46_0
  rw [e]
  have hi : InR .i64 (y % 4) := by rw [i64_iff]; omega
  by_cases hz : (y % 4 == 0) = true
  · rcases hm with rfl | rfl | rfl | rfl | rfl | rfl | rfl | rfl | rfl | rfl | rfl | rfl <;> simp [hz, hi] <;> decide
  · rcases hm with rfl | rfl | rfl | rfl | rfl | rfl | rfl | rfl | rfl | rfl | rfl | rfl <;> simp [hz, hi] <;> decide

theorem msb25 {y : Int} (hy : 2000 ≤ y ∧ y ≤ 2099) : ∀ k, k ≤ 12 → 0 ≤ ms25 y k ∧ ms25 y k ≤ 31 * k
  | 0, _ => by simp [ms25]
  | k + 1, h => by
    have := msb25 hy k (by omega)
    have := len25 hy (m := (k : Int) + 1) (by omega)
    simp only [ms25]
    omega

theorem ydb25 : ∀ k, 0 ≤ yd25 k ∧ yd25 k ≤ 366 * k
  | 0 => by simp [yd25]
  | k + 1 => by
    have := ydb25 k
    simp only [yd25]
    split <;> omega

theorem runM25 {y m : Int} (hy : 2000 ≤ y ∧ y ≤ 2099) (hm : 1 ≤ m ∧ m ≤ 12) (v : Int) (hv : 0 ≤ v ∧ v ≤ 1000000) : ∀ (k i : Nat), (i : Int) + k = m - 1 →
    R25_11 (k + 1) (v + ms25 y i) ((i : Int) + 1) y m [⟨.int .i64, v + ms25 y (m - 1).toNat⟩, ⟨.bool, true⟩] := by
  intro k
  induction k with
  | zero =>
    intro i hi
    rw [R25_11, if_neg (by simp; omega), show (m - 1).toNat = i by omega]
  | succ k ih =>
    intro i hi
    obtain ⟨p, l1, l2⟩ := len25 hy (m := (i : Int) + 1) (by omega)
    obtain ⟨b1, b2⟩ := msb25 hy i (by omega)
    rw [R25_11, if_pos (by simp; omega)]
    have e1 : v + ms25 y i + g46_0 y ((i : Int) + 1) = v + ms25 y (i + 1) := by simp only [ms25]; omega
    have e2 : (i : Int) + 1 + 1 = ((i + 1 : Nat) : Int) + 1 := by omega
    refine ⟨p, by rw [i64_iff]; omega, by rw [i64_iff]; omega, ?_⟩
    rw [e1, e2]
    exact ih (i + 1) (by omega)

theorem runY25 {y m : Int} (hy : 2000 ≤ y ∧ y ≤ 2099) (hm : 1 ≤ m ∧ m ≤ 12) (v : Int) (hv : 0 ≤ v ∧ v ≤ 30) : ∀ (k i : Nat), (i : Int) + k = y - 2000 →
    R25_5 (k + 1 + ((m - 1).toNat + 1)) (v + yd25 i) (2000 + (i : Int)) y m [⟨.int .i64, v + yd25 (y - 2000).toNat + ms25 y (m - 1).toNat⟩, ⟨.bool, true⟩] := by
  intro k
  induction k with
  | zero =>
    intro i hi
    obtain ⟨b1, b2⟩ := ydb25 i
    rw [show 0 + 1 + ((m - 1).toNat + 1) = ((m - 1).toNat + 1) + 1 by omega, R25_5, if_neg (by simp; omega), show (y - 2000).toNat = i by omega]
    have := runM25 hy hm (v + yd25 i) (by omega) (m - 1).toNat 0 (by omega)
    simpa [ms25] using this
  | succ k ih =>
    intro i hi
    obtain ⟨b1, b2⟩ := ydb25 i
    have et : Int.tmod (2000 + (i : Int)) 4 = (2000 + (i : Int)) % 4 := Int.tmod_eq_emod_of_nonneg (by omega)
    have hin := ih (i + 1) (by omega)
    have e2 : 2000 + (i : Int) + 1 = 2000 + ((i + 1 : Nat) : Int) := by omega
    simp only [yd25] at hin
    rw [show k + 1 + 1 + ((m - 1).toNat + 1) = (k + 1 + ((m - 1).toNat + 1)) + 1 by omega, R25_5, if_pos (by simp; omega)]
    refine ⟨by rw [i64_iff]; omega, by rw [i64_iff, et]; omega, ?_⟩
    by_cases hz : (Int.tmod (2000 + (i : Int)) 4 == 0) = true
    · rw [if_pos hz] at hin ⊢
      rw [e2, show v + yd25 i + 365 + 1 = v + (yd25 i + 365 + 1) by omega]
      exact ⟨by rw [i64_iff]; omega, by rw [i64_iff]; omega, hin⟩
    · rw [if_neg hz] at hin ⊢
      rw [e2, show v + yd25 i + 365 = v + (yd25 i + 365 + 0) by omega]
      exact ⟨by rw [i64_iff]; omega, hin⟩

theorem top25 (x0 x1 x2 : Int) (hx : InR .i64 x2) : ∃ n, R25 n x0 x1 x2 [⟨.int .i64, g25_0 x0 x1 x2⟩, ⟨.bool, g25_1 x0 x1 x2⟩] := by
  unfold g25_0 g25_1 ok25
  cases h0 : g27_0 x0 2000 2099 with
  | false => exact ⟨1, by rw [R25, if_pos (by rw [h0]; rfl)]; simp⟩
  | true =>
    have h0' := in25.1 h0
    cases h1 : g27_0 x1 1 12 with
    | false => exact ⟨1, by rw [R25, if_neg (by rw [h0]; decide), if_pos (by rw [h1]; rfl)]; simp⟩
    | true =>
      have h1' := in25.1 h1
      obtain ⟨p, l1, l2⟩ := len25 h0' h1'
      cases h2 : g27_0 x2 1 (g46_0 x0 x1) with
      | false => exact ⟨1, by rw [R25, if_neg (by rw [h0]; decide), if_neg (by rw [h1]; decide)]; exact ⟨p, by rw [if_pos (by rw [h2]; rfl)]; simp⟩⟩
      | true =>
        have h2' := in25.1 h2
        refine ⟨((x0 - 2000).toNat + 1 + ((x1 - 1).toNat + 1)) + 1, ?_⟩
        rw [R25, if_neg (by rw [h0]; decide), if_neg (by rw [h1]; decide)]
        refine ⟨p, ?_⟩
        rw [if_neg (by rw [h2]; decide)]
        refine ⟨by rw [i64_iff]; omega, ?_⟩
        have := runY25 h0' h1' (x2 - 1) (by omega) (x0 - 2000).toNat 0 (by omega)
        simpa [yd25] using this

def S25 : Am.Spec := { sig := sig25, pre := fun ⟨x0, x1, x2, _⟩ => P25 x0 x1 x2, res := fun ⟨x0, x1, x2, _⟩ => [⟨.int .i64, g25_0 x0 x1 x2⟩, ⟨.bool, g25_1 x0 x1 x2⟩] }
theorem con25 : Contract Tryz.prog 25 S25 := contract_of Tryz.func25 hb25 (Nat.le_of_ble_eq_true (by kernel_rfl)) (fun ⟨x0, x1, x2, _⟩ h hwf w0 O q =>
  let ⟨n, hn⟩ := top25 x0 x1 x2 hwf.2.2.1
  (snd25 n).1 x0 x1 x2 _ hn w0 O q)

end Go.Proofs.YthjgopkjdnhliaaGreatDoor

/- Function 13 (spec.l02Read): its runs between cut points. Written by a program of this repo (gen). -/
set_option linter.unusedVariables false
set_option linter.unusedSimpArgs false
set_option maxRecDepth 100000
namespace Go.Proofs.YthjgopkjdnhliaaGreatDoor
open Go Go.Am Go.Proofs
def ext13 : Ext := [(24, S24), (25, S25)]
theorem call13_24 : Callable Tryz.prog 24 := ⟨Tryz.f24, Tryz.func24, by kernel_rfl, by kernel_rfl⟩
theorem call13_25 : Callable Tryz.prog 25 := ⟨Tryz.f25, Tryz.func25, by kernel_rfl, by kernel_rfl⟩
theorem ext13Ok : ExtOk Tryz.prog ext13 := ⟨⟨call13_24, con24⟩, ⟨call13_25, con25⟩, trivial⟩
/-! Function 13. -/
noncomputable def b13 : Code := bodyOf Tryz.f13
theorem hb13 : Tryz.f13.body = some b13 := by kernel_rfl
def sig13 : List AT := [AT.v (Ty.str)]
def tys13 : List Ty := [Ty.int IntKind.i64, Ty.bool]
def P13 (x0 : ByteArray) : Prop := (if ((↑(ByteArray.size x0) : Int) != 10) = true then True else ((4 < (↑(ByteArray.size x0) : Int)) ∧ (if ((↑(UInt8.toNat (List.getD (Array.toList (ByteArray.data x0)) 4 0)) : Int) != 45) = true then True else ((7 < (↑(ByteArray.size x0) : Int)) ∧ (if ((↑(UInt8.toNat (List.getD (Array.toList (ByteArray.data x0)) 7 0)) : Int) != 45) = true then True else ((4 ≤ (↑(ByteArray.size x0) : Int)) ∧ ((P24 (ByteArray.extract x0 0 4)) ∧ ((7 ≤ (↑(ByteArray.size x0) : Int)) ∧ ((P24 (ByteArray.extract x0 5 7)) ∧ ((8 ≤ (↑(ByteArray.size x0) : Int)) ∧ ((P24 (ByteArray.extract x0 8 (Int.toNat (↑(ByteArray.size x0) : Int)))) ∧ True)))))))))))
def g13_0 (x0 : ByteArray) : Int := (if ((↑(ByteArray.size x0) : Int) != 10) = true then 0 else (if ((↑(UInt8.toNat (List.getD (Array.toList (ByteArray.data x0)) 4 0)) : Int) != 45) = true then 0 else (if ((↑(UInt8.toNat (List.getD (Array.toList (ByteArray.data x0)) 7 0)) : Int) != 45) = true then 0 else (if (!g24_1 (ByteArray.extract x0 0 4)) = true then 0 else (if (!g24_1 (ByteArray.extract x0 5 7)) = true then 0 else (if (!g24_1 (ByteArray.extract x0 8 (Int.toNat (↑(ByteArray.size x0) : Int)))) = true then 0 else g25_0 (g24_0 (ByteArray.extract x0 0 4)) (g24_0 (ByteArray.extract x0 5 7)) (g24_0 (ByteArray.extract x0 8 (Int.toNat (↑(ByteArray.size x0) : Int))))))))))
def g13_1 (x0 : ByteArray) : Bool := (if ((↑(ByteArray.size x0) : Int) != 10) = true then Bool.false else (if ((↑(UInt8.toNat (List.getD (Array.toList (ByteArray.data x0)) 4 0)) : Int) != 45) = true then Bool.false else (if ((↑(UInt8.toNat (List.getD (Array.toList (ByteArray.data x0)) 7 0)) : Int) != 45) = true then Bool.false else (if (!g24_1 (ByteArray.extract x0 0 4)) = true then Bool.false else (if (!g24_1 (ByteArray.extract x0 5 7)) = true then Bool.false else (if (!g24_1 (ByteArray.extract x0 8 (Int.toNat (↑(ByteArray.size x0) : Int)))) = true then Bool.false else g25_1 (g24_0 (ByteArray.extract x0 0 4)) (g24_0 (ByteArray.extract x0 5 7)) (g24_0 (ByteArray.extract x0 8 (Int.toNat (↑(ByteArray.size x0) : Int))))))))))
theorem p13_0 (x0 : ByteArray) : runF tab ext13 false 57 [] 2000 [] tys13 Tryz.f13.results [true, true, true] [.code b13] (entE 0 0 sig13 (x0, ())) (entL sig13 (x0, ())) = some ([Dyn.mk (Ty.int IntKind.i64) 0, Dyn.mk Ty.bool Bool.false], [], [((↑(ByteArray.size x0) : Int) != 10) = Bool.true, Bool.true = Bool.true, Bool.true = Bool.true]) := by kernel_rfl
theorem p13_1 (x0 : ByteArray) : runF tab ext13 false 57 [] 2000 [] tys13 Tryz.f13.results [false, true, true] [.code b13] (entE 0 0 sig13 (x0, ())) (entL sig13 (x0, ())) = some ([Dyn.mk (Ty.int IntKind.i64) 0, Dyn.mk Ty.bool Bool.false], [], [((↑(ByteArray.size x0) : Int) != 10) = Bool.false, (0 : Int) ≤ (4 : Int), 4 < (↑(ByteArray.size x0) : Int), ((↑(UInt8.toNat (List.getD (Array.toList (ByteArray.data x0)) 4 0)) : Int) != 45) = Bool.true, Bool.true = Bool.true]) := by kernel_rfl
theorem p13_2 (x0 : ByteArray) : runF tab ext13 false 57 [] 2000 [] tys13 Tryz.f13.results [false, false, true] [.code b13] (entE 0 0 sig13 (x0, ())) (entL sig13 (x0, ())) = some ([Dyn.mk (Ty.int IntKind.i64) 0, Dyn.mk Ty.bool Bool.false], [], [((↑(ByteArray.size x0) : Int) != 10) = Bool.false, (0 : Int) ≤ (4 : Int), 4 < (↑(ByteArray.size x0) : Int), ((↑(UInt8.toNat (List.getD (Array.toList (ByteArray.data x0)) 4 0)) : Int) != 45) = Bool.false, (0 : Int) ≤ (7 : Int), 7 < (↑(ByteArray.size x0) : Int), ((↑(UInt8.toNat (List.getD (Array.toList (ByteArray.data x0)) 7 0)) : Int) != 45) = Bool.true]) := by kernel_rfl
theorem p13_3 (x0 : ByteArray) : runF tab ext13 false 57 [] 2000 [] tys13 Tryz.f13.results [false, false, false, true, true, true] [.code b13] (entE 0 0 sig13 (x0, ())) (entL sig13 (x0, ())) = some ([Dyn.mk (Ty.int IntKind.i64) 0, Dyn.mk Ty.bool Bool.false], [], [((↑(ByteArray.size x0) : Int) != 10) = Bool.false, (0 : Int) ≤ (4 : Int), 4 < (↑(ByteArray.size x0) : Int), ((↑(UInt8.toNat (List.getD (Array.toList (ByteArray.data x0)) 4 0)) : Int) != 45) = Bool.false, (0 : Int) ≤ (7 : Int), 7 < (↑(ByteArray.size x0) : Int), ((↑(UInt8.toNat (List.getD (Array.toList (ByteArray.data x0)) 7 0)) : Int) != 45) = Bool.false, (0 : Int) ≤ (4 : Int), 4 ≤ (↑(ByteArray.size x0) : Int), P24 (ByteArray.extract x0 0 4), (0 : Int) ≤ (5 : Int), (5 : Int) ≤ (7 : Int), 7 ≤ (↑(ByteArray.size x0) : Int), P24 (ByteArray.extract x0 5 7), (0 : Int) ≤ (8 : Int), 8 ≤ (↑(ByteArray.size x0) : Int), P24 (ByteArray.extract x0 8 (Int.toNat (↑(ByteArray.size x0) : Int))), (!g24_1 (ByteArray.extract x0 0 4)) = Bool.true, Bool.true = Bool.true, Bool.true = Bool.true]) := by kernel_rfl
theorem p13_4 (x0 : ByteArray) : runF tab ext13 false 57 [] 2000 [] tys13 Tryz.f13.results [false, false, false, false, true, true] [.code b13] (entE 0 0 sig13 (x0, ())) (entL sig13 (x0, ())) = some ([Dyn.mk (Ty.int IntKind.i64) 0, Dyn.mk Ty.bool Bool.false], [], [((↑(ByteArray.size x0) : Int) != 10) = Bool.false, (0 : Int) ≤ (4 : Int), 4 < (↑(ByteArray.size x0) : Int), ((↑(UInt8.toNat (List.getD (Array.toList (ByteArray.data x0)) 4 0)) : Int) != 45) = Bool.false, (0 : Int) ≤ (7 : Int), 7 < (↑(ByteArray.size x0) : Int), ((↑(UInt8.toNat (List.getD (Array.toList (ByteArray.data x0)) 7 0)) : Int) != 45) = Bool.false, (0 : Int) ≤ (4 : Int), 4 ≤ (↑(ByteArray.size x0) : Int), P24 (ByteArray.extract x0 0 4), (0 : Int) ≤ (5 : Int), (5 : Int) ≤ (7 : Int), 7 ≤ (↑(ByteArray.size x0) : Int), P24 (ByteArray.extract x0 5 7), (0 : Int) ≤ (8 : Int), 8 ≤ (↑(ByteArray.size x0) : Int), P24 (ByteArray.extract x0 8 (Int.toNat (↑(ByteArray.size x0) : Int))), (!g24_1 (ByteArray.extract x0 0 4)) = Bool.false, (!g24_1 (ByteArray.extract x0 5 7)) = Bool.true, Bool.true = Bool.true]) := by kernel_rfl
theorem p13_5 (x0 : ByteArray) : runF tab ext13 false 57 [] 2000 [] tys13 Tryz.f13.results [false, false, false, false, false, true] [.code b13] (entE 0 0 sig13 (x0, ())) (entL sig13 (x0, ())) = some ([Dyn.mk (Ty.int IntKind.i64) 0, Dyn.mk Ty.bool Bool.false], [], [((↑(ByteArray.size x0) : Int) != 10) = Bool.false, (0 : Int) ≤ (4 : Int), 4 < (↑(ByteArray.size x0) : Int), ((↑(UInt8.toNat (List.getD (Array.toList (ByteArray.data x0)) 4 0)) : Int) != 45) = Bool.false, (0 : Int) ≤ (7 : Int), 7 < (↑(ByteArray.size x0) : Int), ((↑(UInt8.toNat (List.getD (Array.toList (ByteArray.data x0)) 7 0)) : Int) != 45) = Bool.false, (0 : Int) ≤ (4 : Int), 4 ≤ (↑(ByteArray.size x0) : Int), P24 (ByteArray.extract x0 0 4), (0 : Int) ≤ (5 : Int), (5 : Int) ≤ (7 : Int), 7 ≤ (↑(ByteArray.size x0) : Int), P24 (ByteArray.extract x0 5 7), (0 : Int) ≤ (8 : Int), 8 ≤ (↑(ByteArray.size x0) : Int), P24 (ByteArray.extract x0 8 (Int.toNat (↑(ByteArray.size x0) : Int))), (!g24_1 (ByteArray.extract x0 0 4)) = Bool.false, (!g24_1 (ByteArray.extract x0 5 7)) = Bool.false, (!g24_1 (ByteArray.extract x0 8 (Int.toNat (↑(ByteArray.size x0) : Int)))) = Bool.true]) := by kernel_rfl
theorem p13_6 (x0 : ByteArray) : runF tab ext13 false 57 [] 2000 [] tys13 Tryz.f13.results [false, false, false, false, false, false] [.code b13] (entE 0 0 sig13 (x0, ())) (entL sig13 (x0, ())) = some ([Dyn.mk (Ty.int IntKind.i64) (g25_0 (g24_0 (ByteArray.extract x0 0 4)) (g24_0 (ByteArray.extract x0 5 7)) (g24_0 (ByteArray.extract x0 8 (Int.toNat (↑(ByteArray.size x0) : Int))))), Dyn.mk Ty.bool (g25_1 (g24_0 (ByteArray.extract x0 0 4)) (g24_0 (ByteArray.extract x0 5 7)) (g24_0 (ByteArray.extract x0 8 (Int.toNat (↑(ByteArray.size x0) : Int)))))], [], [((↑(ByteArray.size x0) : Int) != 10) = Bool.false, (0 : Int) ≤ (4 : Int), 4 < (↑(ByteArray.size x0) : Int), ((↑(UInt8.toNat (List.getD (Array.toList (ByteArray.data x0)) 4 0)) : Int) != 45) = Bool.false, (0 : Int) ≤ (7 : Int), 7 < (↑(ByteArray.size x0) : Int), ((↑(UInt8.toNat (List.getD (Array.toList (ByteArray.data x0)) 7 0)) : Int) != 45) = Bool.false, (0 : Int) ≤ (4 : Int), 4 ≤ (↑(ByteArray.size x0) : Int), P24 (ByteArray.extract x0 0 4), (0 : Int) ≤ (5 : Int), (5 : Int) ≤ (7 : Int), 7 ≤ (↑(ByteArray.size x0) : Int), P24 (ByteArray.extract x0 5 7), (0 : Int) ≤ (8 : Int), 8 ≤ (↑(ByteArray.size x0) : Int), P24 (ByteArray.extract x0 8 (Int.toNat (↑(ByteArray.size x0) : Int))), (!g24_1 (ByteArray.extract x0 0 4)) = Bool.false, (!g24_1 (ByteArray.extract x0 5 7)) = Bool.false, (!g24_1 (ByteArray.extract x0 8 (Int.toNat (↑(ByteArray.size x0) : Int)))) = Bool.false, True]) := by kernel_rfl
theorem at13 (x0 : ByteArray) (h : P13 x0) (w0 : World) (O : List Nat) (q : Nat → Value) : AtV Tryz.prog 13 (PostR [⟨Ty.int IntKind.i64, g13_0 x0⟩, ⟨Ty.bool, g13_1 x0⟩] [] [] q w0 O) 57 w0 O q [] [.code b13] (entE 0 0 sig13 (x0, ())) (entL sig13 (x0, ())) := by
  unfold P13 at h
  unfold g13_0 g13_1
  by_cases b0 : ((↑(ByteArray.size x0) : Int) != 10) = true
  · try simp only [if_pos b0] at h ⊢
    exact AtV.fin Tryz.func13 tabOk ext13Ok mixed (p13_0 x0) ⟨b0, rfl, rfl, trivial⟩
  · try simp only [if_neg b0] at h ⊢
    replace b0 := Bool.eq_false_iff.2 b0
    obtain ⟨s0, h⟩ := h
    by_cases b1 : ((↑(UInt8.toNat (List.getD (Array.toList (ByteArray.data x0)) 4 0)) : Int) != 45) = true
    · try simp only [if_pos b1] at h ⊢
      exact AtV.fin Tryz.func13 tabOk ext13Ok mixed (p13_1 x0) ⟨b0, (by decide), s0, b1, rfl, trivial⟩
    · try simp only [if_neg b1] at h ⊢
      replace b1 := Bool.eq_false_iff.2 b1
      obtain ⟨s1, h⟩ := h
      by_cases b2 : ((↑(UInt8.toNat (List.getD (Array.toList (ByteArray.data x0)) 7 0)) : Int) != 45) = true
      · try simp only [if_pos b2] at h ⊢
        exact AtV.fin Tryz.func13 tabOk ext13Ok mixed (p13_2 x0) ⟨b0, (by decide), s0, b1, (by decide), s1, b2, trivial⟩
      · try simp only [if_neg b2] at h ⊢
        replace b2 := Bool.eq_false_iff.2 b2
        obtain ⟨s2, h⟩ := h
        obtain ⟨s3, h⟩ := h
        obtain ⟨s4, h⟩ := h
        obtain ⟨s5, h⟩ := h
        obtain ⟨s6, h⟩ := h
        obtain ⟨s7, h⟩ := h
        by_cases b3 : (!g24_1 (ByteArray.extract x0 0 4)) = true
        · try simp only [if_pos b3] at h ⊢
          exact AtV.fin Tryz.func13 tabOk ext13Ok mixed (p13_3 x0) ⟨b0, (by decide), s0, b1, (by decide), s1, b2, (by decide), s2, s3, (by decide), (by decide), s4, s5, (by decide), s6, s7, b3, rfl, rfl, trivial⟩
        · try simp only [if_neg b3] at h ⊢
          replace b3 := Bool.eq_false_iff.2 b3
          by_cases b4 : (!g24_1 (ByteArray.extract x0 5 7)) = true
          · try simp only [if_pos b4] at h ⊢
            exact AtV.fin Tryz.func13 tabOk ext13Ok mixed (p13_4 x0) ⟨b0, (by decide), s0, b1, (by decide), s1, b2, (by decide), s2, s3, (by decide), (by decide), s4, s5, (by decide), s6, s7, b3, b4, rfl, trivial⟩
          · try simp only [if_neg b4] at h ⊢
            replace b4 := Bool.eq_false_iff.2 b4
            by_cases b5 : (!g24_1 (ByteArray.extract x0 8 (Int.toNat (↑(ByteArray.size x0) : Int)))) = true
            · try simp only [if_pos b5] at h ⊢
              exact AtV.fin Tryz.func13 tabOk ext13Ok mixed (p13_5 x0) ⟨b0, (by decide), s0, b1, (by decide), s1, b2, (by decide), s2, s3, (by decide), (by decide), s4, s5, (by decide), s6, s7, b3, b4, b5, trivial⟩
            · try simp only [if_neg b5] at h ⊢
              replace b5 := Bool.eq_false_iff.2 b5
              exact AtV.fin Tryz.func13 tabOk ext13Ok mixed (p13_6 x0) ⟨b0, (by decide), s0, b1, (by decide), s1, b2, (by decide), s2, s3, (by decide), (by decide), s4, s5, (by decide), s6, s7, b3, b4, b5, trivial, trivial⟩

def S13 : Am.Spec := { sig := sig13, pre := fun ⟨x0, _⟩ => P13 x0, res := fun ⟨x0, _⟩ => [⟨Ty.int IntKind.i64, g13_0 x0⟩, ⟨Ty.bool, g13_1 x0⟩] }
theorem con13 : Contract Tryz.prog 13 S13 := contract_of Tryz.func13 hb13 (Nat.le_of_ble_eq_true (by kernel_rfl)) (fun ⟨x0, _⟩ h _ w0 O q => at13 x0 h w0 O q)


end Go.Proofs.YthjgopkjdnhliaaGreatDoor

/- Function 26 (spec.l01Number): its runs between cut points. Written by a program of this repo (gen). -/
set_option linter.unusedVariables false
set_option linter.unusedSimpArgs false
set_option maxRecDepth 100000
namespace Go.Proofs.YthjgopkjdnhliaaGreatDoor
open Go Go.Am Go.Proofs
def ext26 : Ext := [(45, S45)]
theorem call26_45 : Callable Tryz.prog 45 := ⟨Tryz.f45, Tryz.func45, by kernel_rfl, by kernel_rfl⟩
theorem ext26Ok : ExtOk Tryz.prog ext26 := ⟨⟨call26_45, con45⟩, trivial⟩
/-! Function 26. -/
noncomputable def b26 : Code := bodyOf Tryz.f26
theorem hb26 : Tryz.f26.body = some b26 := by kernel_rfl
def sig26 : List AT := [AT.v (Ty.str)]
def tys26 : List Ty := [Ty.int IntKind.i64, Ty.bool]
def E26_8 (v4 : Int) (v5 : Int) (v6 : Int) (x0 : ByteArray) : Env := [(0, PV.a (Atom.val (Value.string x0))), (4, PV.a (Atom.val (Value.int IntKind.i64 v4))), (5, PV.a (Atom.val (Value.int IntKind.i64 v5))), (6, PV.a (Atom.val (Value.int IntKind.i64 v6)))]
def L26_8 (v4 : Int) (v5 : Int) (v6 : Int) (x0 : ByteArray) : Heap := []
mutual
def R26 : Nat → ByteArray → List Dyn → Prop
  | 0, _, _ => False
  | n + 1, x0, ds => (if (Decidable.decide ((↑(ByteArray.size x0) : Int) > 0)) = true then ((0 < (↑(ByteArray.size x0) : Int)) ∧ (if ((↑(UInt8.toNat (List.getD (Array.toList (ByteArray.data x0)) 0 0)) : Int) == 45) = true then (if ((↑(ByteArray.size x0) : Int) == 1) = true then (ds = [Dyn.mk (Ty.int IntKind.i64) 0, Dyn.mk Ty.bool Bool.false]) else ((InR IntKind.i64 ((↑(ByteArray.size x0) : Int) - 1)) ∧ (if (Decidable.decide ((↑(ByteArray.size x0) : Int) - 1 > 18)) = true then (ds = [Dyn.mk (Ty.int IntKind.i64) 0, Dyn.mk Ty.bool Bool.false]) else ((1 < (↑(ByteArray.size x0) : Int)) ∧ (if ((↑(UInt8.toNat (List.getD (Array.toList (ByteArray.data x0)) 1 0)) : Int) == 48) = true then (if (Decidable.decide ((↑(ByteArray.size x0) : Int) > 1)) = true then (ds = [Dyn.mk (Ty.int IntKind.i64) 0, Dyn.mk Ty.bool Bool.false]) else (R26_8 n (1) (0) (1) (x0) ds)) else (R26_8 n (1) (0) (1) (x0) ds)))))) else (if ((↑(ByteArray.size x0) : Int) == 0) = true then (ds = [Dyn.mk (Ty.int IntKind.i64) 0, Dyn.mk Ty.bool Bool.false]) else ((InR IntKind.i64 ((↑(ByteArray.size x0) : Int) - 0)) ∧ (if (Decidable.decide ((↑(ByteArray.size x0) : Int) - 0 > 18)) = true then (ds = [Dyn.mk (Ty.int IntKind.i64) 0, Dyn.mk Ty.bool Bool.false]) else ((0 < (↑(ByteArray.size x0) : Int)) ∧ (if ((↑(UInt8.toNat (List.getD (Array.toList (ByteArray.data x0)) 0 0)) : Int) == 48) = true then (if (Decidable.decide ((↑(ByteArray.size x0) : Int) > 1)) = true then (ds = [Dyn.mk (Ty.int IntKind.i64) 0, Dyn.mk Ty.bool Bool.false]) else (R26_8 n (0) (0) (0) (x0) ds)) else (R26_8 n (0) (0) (0) (x0) ds)))))))) else (if ((↑(ByteArray.size x0) : Int) == 0) = true then (ds = [Dyn.mk (Ty.int IntKind.i64) 0, Dyn.mk Ty.bool Bool.false]) else ((InR IntKind.i64 ((↑(ByteArray.size x0) : Int) - 0)) ∧ (if (Decidable.decide ((↑(ByteArray.size x0) : Int) - 0 > 18)) = true then (ds = [Dyn.mk (Ty.int IntKind.i64) 0, Dyn.mk Ty.bool Bool.false]) else ((0 < (↑(ByteArray.size x0) : Int)) ∧ (if ((↑(UInt8.toNat (List.getD (Array.toList (ByteArray.data x0)) 0 0)) : Int) == 48) = true then (if (Decidable.decide ((↑(ByteArray.size x0) : Int) > 1)) = true then (ds = [Dyn.mk (Ty.int IntKind.i64) 0, Dyn.mk Ty.bool Bool.false]) else (R26_8 n (0) (0) (0) (x0) ds)) else (R26_8 n (0) (0) (0) (x0) ds)))))))
def R26_8 : Nat → Int → Int → Int → ByteArray → List Dyn → Prop
  | 0, _, _, _, _, _ => False
  | n + 1, v4, v5, v6, x0, ds => (if (Decidable.decide (v6 < (↑(ByteArray.size x0) : Int))) = true then ((0 ≤ v6) ∧ (v6 < (↑(ByteArray.size x0) : Int)) ∧ (if (!g45_0 (↑(UInt8.toNat (List.getD (Array.toList (ByteArray.data x0)) (Int.toNat v6) 0)) : Int)) = true then (ds = [Dyn.mk (Ty.int IntKind.i64) 0, Dyn.mk Ty.bool Bool.false]) else ((InR IntKind.i64 (10 * v5)) ∧ ((0 ≤ v6) ∧ (v6 < (↑(ByteArray.size x0) : Int)) ∧ ((InR IntKind.u8 ((↑(UInt8.toNat (List.getD (Array.toList (ByteArray.data x0)) (Int.toNat v6) 0)) : Int) - 48)) ∧ ((InR IntKind.i64 ((↑(UInt8.toNat (List.getD (Array.toList (ByteArray.data x0)) (Int.toNat v6) 0)) : Int) - 48)) ∧ ((InR IntKind.i64 (10 * v5 + ((↑(UInt8.toNat (List.getD (Array.toList (ByteArray.data x0)) (Int.toNat v6) 0)) : Int) - 48))) ∧ ((InR IntKind.i64 (v6 + 1)) ∧ (R26_8 n (v4) (10 * v5 + ((↑(UInt8.toNat (List.getD (Array.toList (ByteArray.data x0)) (Int.toNat v6) 0)) : Int) - 48)) (v6 + 1) (x0) ds))))))))) else (if (v4 == 1) = true then ((InR IntKind.i64 (0 - v5)) ∧ (ds = [Dyn.mk (Ty.int IntKind.i64) (0 - v5), Dyn.mk Ty.bool Bool.true])) else (ds = [Dyn.mk (Ty.int IntKind.i64) v5, Dyn.mk Ty.bool Bool.true])))
end
theorem p26_0 (x0 : ByteArray) : runF tab ext26 false 62 [] 2000 [] tys26 Tryz.f26.results [true, true, true, true, true] [.code b26] (entE 0 0 sig26 (x0, ())) (entL sig26 (x0, ())) = some ([Dyn.mk (Ty.int IntKind.i64) 0, Dyn.mk Ty.bool Bool.false], [], [Decidable.decide ((↑(ByteArray.size x0) : Int) > 0) = Bool.true, (0 : Int) ≤ (0 : Int), 0 < (↑(ByteArray.size x0) : Int), ((↑(UInt8.toNat (List.getD (Array.toList (ByteArray.data x0)) 0 0)) : Int) == 45) = Bool.true, ((↑(ByteArray.size x0) : Int) == 1) = Bool.true, Bool.true = Bool.true, Bool.true = Bool.true]) := by kernel_rfl
theorem p26_1 (x0 : ByteArray) : runF tab ext26 false 62 [] 2000 [] tys26 Tryz.f26.results [true, true, false, true, true] [.code b26] (entE 0 0 sig26 (x0, ())) (entL sig26 (x0, ())) = some ([Dyn.mk (Ty.int IntKind.i64) 0, Dyn.mk Ty.bool Bool.false], [], [Decidable.decide ((↑(ByteArray.size x0) : Int) > 0) = Bool.true, (0 : Int) ≤ (0 : Int), 0 < (↑(ByteArray.size x0) : Int), ((↑(UInt8.toNat (List.getD (Array.toList (ByteArray.data x0)) 0 0)) : Int) == 45) = Bool.true, ((↑(ByteArray.size x0) : Int) == 1) = Bool.false, InR IntKind.i64 ((↑(ByteArray.size x0) : Int) - 1), Decidable.decide ((↑(ByteArray.size x0) : Int) - 1 > 18) = Bool.true, Bool.true = Bool.true]) := by kernel_rfl
theorem p26_2 (x0 : ByteArray) : runF tab ext26 false 62 [] 2000 [] tys26 Tryz.f26.results [true, true, false, false, true, true] [.code b26] (entE 0 0 sig26 (x0, ())) (entL sig26 (x0, ())) = some ([Dyn.mk (Ty.int IntKind.i64) 0, Dyn.mk Ty.bool Bool.false], [], [Decidable.decide ((↑(ByteArray.size x0) : Int) > 0) = Bool.true, (0 : Int) ≤ (0 : Int), 0 < (↑(ByteArray.size x0) : Int), ((↑(UInt8.toNat (List.getD (Array.toList (ByteArray.data x0)) 0 0)) : Int) == 45) = Bool.true, ((↑(ByteArray.size x0) : Int) == 1) = Bool.false, InR IntKind.i64 ((↑(ByteArray.size x0) : Int) - 1), Decidable.decide ((↑(ByteArray.size x0) : Int) - 1 > 18) = Bool.false, (0 : Int) ≤ (1 : Int), 1 < (↑(ByteArray.size x0) : Int), ((↑(UInt8.toNat (List.getD (Array.toList (ByteArray.data x0)) 1 0)) : Int) == 48) = Bool.true, Decidable.decide ((↑(ByteArray.size x0) : Int) > 1) = Bool.true]) := by kernel_rfl
theorem p26_3 (x0 : ByteArray) : Am.runN tab ext26 false 62 [] 2000 [] [] [0, 4, 5, 6] [] [true, true, false, false, true, false] [.code b26] (entE 0 0 sig26 (x0, ())) (entL sig26 (x0, ())) = some (cutAt b26 8, E26_8 (1) (0) (1) (x0), L26_8 (1) (0) (1) (x0), [Decidable.decide ((↑(ByteArray.size x0) : Int) > 0) = Bool.true, (0 : Int) ≤ (0 : Int), 0 < (↑(ByteArray.size x0) : Int), ((↑(UInt8.toNat (List.getD (Array.toList (ByteArray.data x0)) 0 0)) : Int) == 45) = Bool.true, ((↑(ByteArray.size x0) : Int) == 1) = Bool.false, InR IntKind.i64 ((↑(ByteArray.size x0) : Int) - 1), Decidable.decide ((↑(ByteArray.size x0) : Int) - 1 > 18) = Bool.false, (0 : Int) ≤ (1 : Int), 1 < (↑(ByteArray.size x0) : Int), ((↑(UInt8.toNat (List.getD (Array.toList (ByteArray.data x0)) 1 0)) : Int) == 48) = Bool.true, Decidable.decide ((↑(ByteArray.size x0) : Int) > 1) = Bool.false]) := by kernel_rfl
theorem p26_4 (x0 : ByteArray) : Am.runN tab ext26 false 62 [] 2000 [] [] [0, 4, 5, 6] [] [true, true, false, false, false, false] [.code b26] (entE 0 0 sig26 (x0, ())) (entL sig26 (x0, ())) = some (cutAt b26 8, E26_8 (1) (0) (1) (x0), L26_8 (1) (0) (1) (x0), [Decidable.decide ((↑(ByteArray.size x0) : Int) > 0) = Bool.true, (0 : Int) ≤ (0 : Int), 0 < (↑(ByteArray.size x0) : Int), ((↑(UInt8.toNat (List.getD (Array.toList (ByteArray.data x0)) 0 0)) : Int) == 45) = Bool.true, ((↑(ByteArray.size x0) : Int) == 1) = Bool.false, InR IntKind.i64 ((↑(ByteArray.size x0) : Int) - 1), Decidable.decide ((↑(ByteArray.size x0) : Int) - 1 > 18) = Bool.false, (0 : Int) ≤ (1 : Int), 1 < (↑(ByteArray.size x0) : Int), ((↑(UInt8.toNat (List.getD (Array.toList (ByteArray.data x0)) 1 0)) : Int) == 48) = Bool.false, Bool.false = Bool.false]) := by kernel_rfl
theorem p26_5 (x0 : ByteArray) : runF tab ext26 false 62 [] 2000 [] tys26 Tryz.f26.results [true, false, true, true, true] [.code b26] (entE 0 0 sig26 (x0, ())) (entL sig26 (x0, ())) = some ([Dyn.mk (Ty.int IntKind.i64) 0, Dyn.mk Ty.bool Bool.false], [], [Decidable.decide ((↑(ByteArray.size x0) : Int) > 0) = Bool.true, (0 : Int) ≤ (0 : Int), 0 < (↑(ByteArray.size x0) : Int), ((↑(UInt8.toNat (List.getD (Array.toList (ByteArray.data x0)) 0 0)) : Int) == 45) = Bool.false, ((↑(ByteArray.size x0) : Int) == 0) = Bool.true, Bool.true = Bool.true, Bool.true = Bool.true]) := by kernel_rfl
theorem p26_6 (x0 : ByteArray) : runF tab ext26 false 62 [] 2000 [] tys26 Tryz.f26.results [true, false, false, true, true] [.code b26] (entE 0 0 sig26 (x0, ())) (entL sig26 (x0, ())) = some ([Dyn.mk (Ty.int IntKind.i64) 0, Dyn.mk Ty.bool Bool.false], [], [Decidable.decide ((↑(ByteArray.size x0) : Int) > 0) = Bool.true, (0 : Int) ≤ (0 : Int), 0 < (↑(ByteArray.size x0) : Int), ((↑(UInt8.toNat (List.getD (Array.toList (ByteArray.data x0)) 0 0)) : Int) == 45) = Bool.false, ((↑(ByteArray.size x0) : Int) == 0) = Bool.false, InR IntKind.i64 ((↑(ByteArray.size x0) : Int) - 0), Decidable.decide ((↑(ByteArray.size x0) : Int) - 0 > 18) = Bool.true, Bool.true = Bool.true]) := by kernel_rfl
theorem p26_7 (x0 : ByteArray) : runF tab ext26 false 62 [] 2000 [] tys26 Tryz.f26.results [true, false, false, false, true, true] [.code b26] (entE 0 0 sig26 (x0, ())) (entL sig26 (x0, ())) = some ([Dyn.mk (Ty.int IntKind.i64) 0, Dyn.mk Ty.bool Bool.false], [], [Decidable.decide ((↑(ByteArray.size x0) : Int) > 0) = Bool.true, (0 : Int) ≤ (0 : Int), 0 < (↑(ByteArray.size x0) : Int), ((↑(UInt8.toNat (List.getD (Array.toList (ByteArray.data x0)) 0 0)) : Int) == 45) = Bool.false, ((↑(ByteArray.size x0) : Int) == 0) = Bool.false, InR IntKind.i64 ((↑(ByteArray.size x0) : Int) - 0), Decidable.decide ((↑(ByteArray.size x0) : Int) - 0 > 18) = Bool.false, (0 : Int) ≤ (0 : Int), 0 < (↑(ByteArray.size x0) : Int), ((↑(UInt8.toNat (List.getD (Array.toList (ByteArray.data x0)) 0 0)) : Int) == 48) = Bool.true, Decidable.decide ((↑(ByteArray.size x0) : Int) > 1) = Bool.true]) := by kernel_rfl
theorem p26_8 (x0 : ByteArray) : Am.runN tab ext26 false 62 [] 2000 [] [] [0, 4, 5, 6] [] [true, false, false, false, true, false] [.code b26] (entE 0 0 sig26 (x0, ())) (entL sig26 (x0, ())) = some (cutAt b26 8, E26_8 (0) (0) (0) (x0), L26_8 (0) (0) (0) (x0), [Decidable.decide ((↑(ByteArray.size x0) : Int) > 0) = Bool.true, (0 : Int) ≤ (0 : Int), 0 < (↑(ByteArray.size x0) : Int), ((↑(UInt8.toNat (List.getD (Array.toList (ByteArray.data x0)) 0 0)) : Int) == 45) = Bool.false, ((↑(ByteArray.size x0) : Int) == 0) = Bool.false, InR IntKind.i64 ((↑(ByteArray.size x0) : Int) - 0), Decidable.decide ((↑(ByteArray.size x0) : Int) - 0 > 18) = Bool.false, (0 : Int) ≤ (0 : Int), 0 < (↑(ByteArray.size x0) : Int), ((↑(UInt8.toNat (List.getD (Array.toList (ByteArray.data x0)) 0 0)) : Int) == 48) = Bool.true, Decidable.decide ((↑(ByteArray.size x0) : Int) > 1) = Bool.false]) := by kernel_rfl
theorem p26_9 (x0 : ByteArray) : Am.runN tab ext26 false 62 [] 2000 [] [] [0, 4, 5, 6] [] [true, false, false, false, false, false] [.code b26] (entE 0 0 sig26 (x0, ())) (entL sig26 (x0, ())) = some (cutAt b26 8, E26_8 (0) (0) (0) (x0), L26_8 (0) (0) (0) (x0), [Decidable.decide ((↑(ByteArray.size x0) : Int) > 0) = Bool.true, (0 : Int) ≤ (0 : Int), 0 < (↑(ByteArray.size x0) : Int), ((↑(UInt8.toNat (List.getD (Array.toList (ByteArray.data x0)) 0 0)) : Int) == 45) = Bool.false, ((↑(ByteArray.size x0) : Int) == 0) = Bool.false, InR IntKind.i64 ((↑(ByteArray.size x0) : Int) - 0), Decidable.decide ((↑(ByteArray.size x0) : Int) - 0 > 18) = Bool.false, (0 : Int) ≤ (0 : Int), 0 < (↑(ByteArray.size x0) : Int), ((↑(UInt8.toNat (List.getD (Array.toList (ByteArray.data x0)) 0 0)) : Int) == 48) = Bool.false, Bool.false = Bool.false]) := by kernel_rfl
theorem p26_10 (x0 : ByteArray) : runF tab ext26 false 62 [] 2000 [] tys26 Tryz.f26.results [false, false, true, true, true] [.code b26] (entE 0 0 sig26 (x0, ())) (entL sig26 (x0, ())) = some ([Dyn.mk (Ty.int IntKind.i64) 0, Dyn.mk Ty.bool Bool.false], [], [Decidable.decide ((↑(ByteArray.size x0) : Int) > 0) = Bool.false, Bool.false = Bool.false, ((↑(ByteArray.size x0) : Int) == 0) = Bool.true, Bool.true = Bool.true, Bool.true = Bool.true]) := by kernel_rfl
theorem p26_11 (x0 : ByteArray) : runF tab ext26 false 62 [] 2000 [] tys26 Tryz.f26.results [false, false, false, true, true] [.code b26] (entE 0 0 sig26 (x0, ())) (entL sig26 (x0, ())) = some ([Dyn.mk (Ty.int IntKind.i64) 0, Dyn.mk Ty.bool Bool.false], [], [Decidable.decide ((↑(ByteArray.size x0) : Int) > 0) = Bool.false, Bool.false = Bool.false, ((↑(ByteArray.size x0) : Int) == 0) = Bool.false, InR IntKind.i64 ((↑(ByteArray.size x0) : Int) - 0), Decidable.decide ((↑(ByteArray.size x0) : Int) - 0 > 18) = Bool.true, Bool.true = Bool.true]) := by kernel_rfl
theorem p26_12 (x0 : ByteArray) : runF tab ext26 false 62 [] 2000 [] tys26 Tryz.f26.results [false, false, false, false, true, true] [.code b26] (entE 0 0 sig26 (x0, ())) (entL sig26 (x0, ())) = some ([Dyn.mk (Ty.int IntKind.i64) 0, Dyn.mk Ty.bool Bool.false], [], [Decidable.decide ((↑(ByteArray.size x0) : Int) > 0) = Bool.false, Bool.false = Bool.false, ((↑(ByteArray.size x0) : Int) == 0) = Bool.false, InR IntKind.i64 ((↑(ByteArray.size x0) : Int) - 0), Decidable.decide ((↑(ByteArray.size x0) : Int) - 0 > 18) = Bool.false, (0 : Int) ≤ (0 : Int), 0 < (↑(ByteArray.size x0) : Int), ((↑(UInt8.toNat (List.getD (Array.toList (ByteArray.data x0)) 0 0)) : Int) == 48) = Bool.true, Decidable.decide ((↑(ByteArray.size x0) : Int) > 1) = Bool.true]) := by kernel_rfl
theorem p26_13 (x0 : ByteArray) : Am.runN tab ext26 false 62 [] 2000 [] [] [0, 4, 5, 6] [] [false, false, false, false, true, false] [.code b26] (entE 0 0 sig26 (x0, ())) (entL sig26 (x0, ())) = some (cutAt b26 8, E26_8 (0) (0) (0) (x0), L26_8 (0) (0) (0) (x0), [Decidable.decide ((↑(ByteArray.size x0) : Int) > 0) = Bool.false, Bool.false = Bool.false, ((↑(ByteArray.size x0) : Int) == 0) = Bool.false, InR IntKind.i64 ((↑(ByteArray.size x0) : Int) - 0), Decidable.decide ((↑(ByteArray.size x0) : Int) - 0 > 18) = Bool.false, (0 : Int) ≤ (0 : Int), 0 < (↑(ByteArray.size x0) : Int), ((↑(UInt8.toNat (List.getD (Array.toList (ByteArray.data x0)) 0 0)) : Int) == 48) = Bool.true, Decidable.decide ((↑(ByteArray.size x0) : Int) > 1) = Bool.false]) := by kernel_rfl
theorem p26_14 (x0 : ByteArray) : Am.runN tab ext26 false 62 [] 2000 [] [] [0, 4, 5, 6] [] [false, false, false, false, false, false] [.code b26] (entE 0 0 sig26 (x0, ())) (entL sig26 (x0, ())) = some (cutAt b26 8, E26_8 (0) (0) (0) (x0), L26_8 (0) (0) (0) (x0), [Decidable.decide ((↑(ByteArray.size x0) : Int) > 0) = Bool.false, Bool.false = Bool.false, ((↑(ByteArray.size x0) : Int) == 0) = Bool.false, InR IntKind.i64 ((↑(ByteArray.size x0) : Int) - 0), Decidable.decide ((↑(ByteArray.size x0) : Int) - 0 > 18) = Bool.false, (0 : Int) ≤ (0 : Int), 0 < (↑(ByteArray.size x0) : Int), ((↑(UInt8.toNat (List.getD (Array.toList (ByteArray.data x0)) 0 0)) : Int) == 48) = Bool.false, Bool.false = Bool.false]) := by kernel_rfl
theorem p26_15 (v4 : Int) (v5 : Int) (v6 : Int) (x0 : ByteArray) : runF tab ext26 false 62 [] 2000 [] tys26 Tryz.f26.results [true, true] (cutAt b26 8) (E26_8 v4 v5 v6 x0) (L26_8 v4 v5 v6 x0) = some ([Dyn.mk (Ty.int IntKind.i64) 0, Dyn.mk Ty.bool Bool.false], [], [Decidable.decide (v6 < (↑(ByteArray.size x0) : Int)) = Bool.true, 0 ≤ v6, v6 < (↑(ByteArray.size x0) : Int), True, (!g45_0 (↑(UInt8.toNat (List.getD (Array.toList (ByteArray.data x0)) (Int.toNat v6) 0)) : Int)) = Bool.true]) := by kernel_rfl
theorem p26_16 (v4 : Int) (v5 : Int) (v6 : Int) (x0 : ByteArray) : Am.runN tab ext26 false 62 [] 2000 [] [] [0, 4, 5, 6] [] [true, false] (cutAt b26 8) (E26_8 v4 v5 v6 x0) (L26_8 v4 v5 v6 x0) = some (cutAt b26 8, E26_8 (v4) (10 * v5 + ((↑(UInt8.toNat (List.getD (Array.toList (ByteArray.data x0)) (Int.toNat v6) 0)) : Int) - 48)) (v6 + 1) (x0), L26_8 (v4) (10 * v5 + ((↑(UInt8.toNat (List.getD (Array.toList (ByteArray.data x0)) (Int.toNat v6) 0)) : Int) - 48)) (v6 + 1) (x0), [Decidable.decide (v6 < (↑(ByteArray.size x0) : Int)) = Bool.true, 0 ≤ v6, v6 < (↑(ByteArray.size x0) : Int), True, (!g45_0 (↑(UInt8.toNat (List.getD (Array.toList (ByteArray.data x0)) (Int.toNat v6) 0)) : Int)) = Bool.false, InR IntKind.i64 (10 * v5), 0 ≤ v6, v6 < (↑(ByteArray.size x0) : Int), InR IntKind.u8 ((↑(UInt8.toNat (List.getD (Array.toList (ByteArray.data x0)) (Int.toNat v6) 0)) : Int) - 48), InR IntKind.i64 ((↑(UInt8.toNat (List.getD (Array.toList (ByteArray.data x0)) (Int.toNat v6) 0)) : Int) - 48), InR IntKind.i64 (10 * v5 + ((↑(UInt8.toNat (List.getD (Array.toList (ByteArray.data x0)) (Int.toNat v6) 0)) : Int) - 48)), InR IntKind.i64 (v6 + 1)]) := by kernel_rfl
theorem p26_17 (v4 : Int) (v5 : Int) (v6 : Int) (x0 : ByteArray) : runF tab ext26 false 62 [] 2000 [] tys26 Tryz.f26.results [false, true] (cutAt b26 8) (E26_8 v4 v5 v6 x0) (L26_8 v4 v5 v6 x0) = some ([Dyn.mk (Ty.int IntKind.i64) (0 - v5), Dyn.mk Ty.bool Bool.true], [], [Decidable.decide (v6 < (↑(ByteArray.size x0) : Int)) = Bool.false, (v4 == 1) = Bool.true, InR IntKind.i64 (0 - v5)]) := by kernel_rfl
theorem p26_18 (v4 : Int) (v5 : Int) (v6 : Int) (x0 : ByteArray) : runF tab ext26 false 62 [] 2000 [] tys26 Tryz.f26.results [false, false] (cutAt b26 8) (E26_8 v4 v5 v6 x0) (L26_8 v4 v5 v6 x0) = some ([Dyn.mk (Ty.int IntKind.i64) v5, Dyn.mk Ty.bool Bool.true], [], [Decidable.decide (v6 < (↑(ByteArray.size x0) : Int)) = Bool.false, (v4 == 1) = Bool.false]) := by kernel_rfl
theorem snd26 : ∀ n, (∀ (x0 : ByteArray) ds, R26 n x0 ds → ∀ w0 O q, AtV Tryz.prog 26 (PostR ds [] [] q w0 O) 62 w0 O q [] [.code b26] (entE 0 0 sig26 (x0, ())) (entL sig26 (x0, ()))) ∧ (∀ (v4 : Int) (v5 : Int) (v6 : Int) (x0 : ByteArray) ds, R26_8 n v4 v5 v6 x0 ds → ∀ w0 O q, AtV Tryz.prog 26 (PostR ds [] [] q w0 O) 62 w0 O q [] (cutAt b26 8) (E26_8 v4 v5 v6 x0) (L26_8 v4 v5 v6 x0)) := by
  intro n
  induction n with
  | zero => exact ⟨fun _ _ h => by simp only [R26] at h, fun _ _ _ _ _ h => by simp only [R26_8] at h⟩
  | succ n ih =>
  obtain ⟨ih, ih8⟩ := ih
  refine ⟨?_, ?_⟩
  · intro x0 ds h w0 O q
    rw [R26] at h
    by_cases b0 : (Decidable.decide ((↑(ByteArray.size x0) : Int) > 0)) = true
    · rw [if_pos b0] at h
      obtain ⟨s0, h⟩ := h
      by_cases b1 : ((↑(UInt8.toNat (List.getD (Array.toList (ByteArray.data x0)) 0 0)) : Int) == 45) = true
      · rw [if_pos b1] at h
        by_cases b2 : ((↑(ByteArray.size x0) : Int) == 1) = true
        · rw [if_pos b2] at h
          subst h
          exact AtV.fin Tryz.func26 tabOk ext26Ok mixed (p26_0 x0) ⟨b0, (by decide), s0, b1, b2, rfl, rfl, trivial⟩
        · rw [if_neg b2] at h
          replace b2 := Bool.eq_false_iff.2 b2
          obtain ⟨s1, h⟩ := h
          by_cases b3 : (Decidable.decide ((↑(ByteArray.size x0) : Int) - 1 > 18)) = true
          · rw [if_pos b3] at h
            subst h
            exact AtV.fin Tryz.func26 tabOk ext26Ok mixed (p26_1 x0) ⟨b0, (by decide), s0, b1, b2, s1, b3, rfl, trivial⟩
          · rw [if_neg b3] at h
            replace b3 := Bool.eq_false_iff.2 b3
            obtain ⟨s2, h⟩ := h
            by_cases b4 : ((↑(UInt8.toNat (List.getD (Array.toList (ByteArray.data x0)) 1 0)) : Int) == 48) = true
            · rw [if_pos b4] at h
              by_cases b5 : (Decidable.decide ((↑(ByteArray.size x0) : Int) > 1)) = true
              · rw [if_pos b5] at h
                subst h
                exact AtV.fin Tryz.func26 tabOk ext26Ok mixed (p26_2 x0) ⟨b0, (by decide), s0, b1, b2, s1, b3, (by decide), s2, b4, b5, trivial⟩
              · rw [if_neg b5] at h
                replace b5 := Bool.eq_false_iff.2 b5
                exact AtV.runN tabOk ext26Ok mixed (p26_3 x0) ⟨b0, (by decide), s0, b1, b2, s1, b3, (by decide), s2, b4, b5, trivial⟩ (ih8 _ _ _ _ _ h w0 O q)
            · rw [if_neg b4] at h
              replace b4 := Bool.eq_false_iff.2 b4
              exact AtV.runN tabOk ext26Ok mixed (p26_4 x0) ⟨b0, (by decide), s0, b1, b2, s1, b3, (by decide), s2, b4, rfl, trivial⟩ (ih8 _ _ _ _ _ h w0 O q)
      · rw [if_neg b1] at h
        replace b1 := Bool.eq_false_iff.2 b1
        by_cases b2 : ((↑(ByteArray.size x0) : Int) == 0) = true
        · rw [if_pos b2] at h
          subst h
          exact AtV.fin Tryz.func26 tabOk ext26Ok mixed (p26_5 x0) ⟨b0, (by decide), s0, b1, b2, rfl, rfl, trivial⟩
        · rw [if_neg b2] at h
          replace b2 := Bool.eq_false_iff.2 b2
          obtain ⟨s1, h⟩ := h
          by_cases b3 : (Decidable.decide ((↑(ByteArray.size x0) : Int) - 0 > 18)) = true
          · rw [if_pos b3] at h
            subst h
            exact AtV.fin Tryz.func26 tabOk ext26Ok mixed (p26_6 x0) ⟨b0, (by decide), s0, b1, b2, s1, b3, rfl, trivial⟩
          · rw [if_neg b3] at h
            replace b3 := Bool.eq_false_iff.2 b3
            obtain ⟨s2, h⟩ := h
            by_cases b4 : ((↑(UInt8.toNat (List.getD (Array.toList (ByteArray.data x0)) 0 0)) : Int) == 48) = true
            · rw [if_pos b4] at h
              by_cases b5 : (Decidable.decide ((↑(ByteArray.size x0) : Int) > 1)) = true
              · rw [if_pos b5] at h
                subst h
                exact AtV.fin Tryz.func26 tabOk ext26Ok mixed (p26_7 x0) ⟨b0, (by decide), s0, b1, b2, s1, b3, (by decide), s2, b4, b5, trivial⟩
              · rw [if_neg b5] at h
                replace b5 := Bool.eq_false_iff.2 b5
                exact AtV.runN tabOk ext26Ok mixed (p26_8 x0) ⟨b0, (by decide), s0, b1, b2, s1, b3, (by decide), s2, b4, b5, trivial⟩ (ih8 _ _ _ _ _ h w0 O q)
            · rw [if_neg b4] at h
              replace b4 := Bool.eq_false_iff.2 b4
              exact AtV.runN tabOk ext26Ok mixed (p26_9 x0) ⟨b0, (by decide), s0, b1, b2, s1, b3, (by decide), s2, b4, rfl, trivial⟩ (ih8 _ _ _ _ _ h w0 O q)
    · rw [if_neg b0] at h
      replace b0 := Bool.eq_false_iff.2 b0
      by_cases b1 : ((↑(ByteArray.size x0) : Int) == 0) = true
      · rw [if_pos b1] at h
        subst h
        exact AtV.fin Tryz.func26 tabOk ext26Ok mixed (p26_10 x0) ⟨b0, rfl, b1, rfl, rfl, trivial⟩
      · rw [if_neg b1] at h
        replace b1 := Bool.eq_false_iff.2 b1
        obtain ⟨s0, h⟩ := h
        by_cases b2 : (Decidable.decide ((↑(ByteArray.size x0) : Int) - 0 > 18)) = true
        · rw [if_pos b2] at h
          subst h
          exact AtV.fin Tryz.func26 tabOk ext26Ok mixed (p26_11 x0) ⟨b0, rfl, b1, s0, b2, rfl, trivial⟩
        · rw [if_neg b2] at h
          replace b2 := Bool.eq_false_iff.2 b2
          obtain ⟨s1, h⟩ := h
          by_cases b3 : ((↑(UInt8.toNat (List.getD (Array.toList (ByteArray.data x0)) 0 0)) : Int) == 48) = true
          · rw [if_pos b3] at h
            by_cases b4 : (Decidable.decide ((↑(ByteArray.size x0) : Int) > 1)) = true
            · rw [if_pos b4] at h
              subst h
              exact AtV.fin Tryz.func26 tabOk ext26Ok mixed (p26_12 x0) ⟨b0, rfl, b1, s0, b2, (by decide), s1, b3, b4, trivial⟩
            · rw [if_neg b4] at h
              replace b4 := Bool.eq_false_iff.2 b4
              exact AtV.runN tabOk ext26Ok mixed (p26_13 x0) ⟨b0, rfl, b1, s0, b2, (by decide), s1, b3, b4, trivial⟩ (ih8 _ _ _ _ _ h w0 O q)
          · rw [if_neg b3] at h
            replace b3 := Bool.eq_false_iff.2 b3
            exact AtV.runN tabOk ext26Ok mixed (p26_14 x0) ⟨b0, rfl, b1, s0, b2, (by decide), s1, b3, rfl, trivial⟩ (ih8 _ _ _ _ _ h w0 O q)

  · intro v4 v5 v6 x0 ds h w0 O q
    rw [R26_8] at h
    by_cases b0 : (Decidable.decide (v6 < (↑(ByteArray.size x0) : Int))) = true
    · rw [if_pos b0] at h
      obtain ⟨s0, s1, h⟩ := h
      by_cases b1 : (!g45_0 (↑(UInt8.toNat (List.getD (Array.toList (ByteArray.data x0)) (Int.toNat v6) 0)) : Int)) = true
      · rw [if_pos b1] at h
        subst h
        exact AtV.fin Tryz.func26 tabOk ext26Ok mixed (p26_15 v4 v5 v6 x0) ⟨b0, s0, s1, trivial, b1, trivial⟩
      · rw [if_neg b1] at h
        replace b1 := Bool.eq_false_iff.2 b1
        obtain ⟨s2, h⟩ := h
        obtain ⟨s3, s4, h⟩ := h
        obtain ⟨s5, h⟩ := h
        obtain ⟨s6, h⟩ := h
        obtain ⟨s7, h⟩ := h
        obtain ⟨s8, h⟩ := h
        exact AtV.runN tabOk ext26Ok mixed (p26_16 v4 v5 v6 x0) ⟨b0, s0, s1, trivial, b1, s2, s3, s4, s5, s6, s7, s8, trivial⟩ (ih8 _ _ _ _ _ h w0 O q)
    · rw [if_neg b0] at h
      replace b0 := Bool.eq_false_iff.2 b0
      by_cases b1 : (v4 == 1) = true
      · rw [if_pos b1] at h
        obtain ⟨s0, h⟩ := h
        subst h
        exact AtV.fin Tryz.func26 tabOk ext26Ok mixed (p26_17 v4 v5 v6 x0) ⟨b0, b1, s0, trivial⟩
      · rw [if_neg b1] at h
        replace b1 := Bool.eq_false_iff.2 b1
        subst h
        exact AtV.fin Tryz.func26 tabOk ext26Ok mixed (p26_18 v4 v5 v6 x0) ⟨b0, b1, trivial⟩



def d26 (b : UInt8) : Bool := decide (48 ≤ b.toNat) && decide (b.toNat ≤ 57)
def dig26 : List UInt8 → Int → Int × Bool
  | [], n => (n, true)
  | b :: r, n => if d26 b then dig26 r (10 * n + ((b.toNat : Int) - 48)) else (0, false)
def fin26 (off : Nat) (p : Int × Bool) : Int × Bool := if off = 1 then (0 - p.1, p.2) else p
def num26 : List UInt8 → Int × Bool
  | [] => (0, false)
  | b :: r => if b.toNat = 45 then (if r.length = 0 ∨ 18 < r.length ∨ (r.getD 0 0).toNat = 48 then (0, false) else fin26 1 (dig26 r 0))
    else if 18 < r.length + 1 ∨ (b.toNat = 48 ∧ 0 < r.length) then (0, false) else fin26 0 (dig26 (b :: r) 0)
def g26_0 (x0 : ByteArray) : Int := (num26 x0.data.toList).1
def g26_1 (x0 : ByteArray) : Bool := (num26 x0.data.toList).2
def P26 (x0 : ByteArray) : Prop := True

theorem run26 (x0 : ByteArray) (off : Nat) (hs : x0.size ≤ off + 18) (ho : off ≤ 1) : ∀ (k j m : Nat), off + j + k = x0.size → m < 10 ^ j →
    R26_8 (k + 1) (off : Int) (m : Int) ((off + j : Nat) : Int) x0 [⟨.int .i64, (fin26 off (dig26 (x0.data.toList.drop (off + j)) (m : Int))).1⟩, ⟨.bool, (fin26 off (dig26 (x0.data.toList.drop (off + j)) (m : Int))).2⟩] := by
  intro k
  have hll : x0.data.toList.length = x0.size := rfl
  induction k with
  | zero =>
    intro j m hi hm
    have hp : 10 ^ j ≤ 10 ^ 18 := Nat.pow_le_pow_right (by decide) (by omega)
    have hm2 : m < 1000000000000000000 := Nat.lt_of_lt_of_le hm hp
    rw [R26_8, if_neg (by simp; omega), List.drop_of_length_le (by omega)]
    unfold fin26 dig26
    by_cases h1 : off = 1
    · subst h1
      rw [if_pos (by rfl)]
      exact ⟨by rw [i64_iff]; omega, rfl⟩
    · obtain rfl : off = 0 := by omega
      rw [if_neg (by decide)]
      rfl
  | succ k ih =>
    intro j m hi hm
    have hlt : off + j < x0.data.toList.length := by rw [hll]; omega
    have hcons : x0.data.toList.drop (off + j) = x0.data.toList.getD (off + j) 0 :: x0.data.toList.drop (off + j + 1) := drop_get _ _ 0 hlt
    rw [R26_8, if_pos (by simp only [decide_eq_true_eq]; omega), hcons]
    simp only [Int.toNat_natCast]
    generalize x0.data.toList.getD (off + j) 0 = b at *
    refine ⟨by omega, by omega, ?_⟩
    have hg : g45_0 (b.toNat : Int) = d26 b := by
      unfold g45_0 d26
      by_cases h1 : 48 ≤ b.toNat
      · have h1' : (b.toNat : Int) ≥ 48 := by omega
        by_cases h2 : b.toNat ≤ 57
        · have h2' : (b.toNat : Int) ≤ 57 := by omega
          simp [h1, h2, h1', h2']
        · have h2' : ¬ (b.toNat : Int) ≤ 57 := by omega
          simp [h1, h2, h1', h2']
      · have h1' : ¬ (b.toNat : Int) ≥ 48 := by omega
        simp [h1, h1']
    rw [hg]
    unfold dig26
    cases hd : d26 b with
    | false => simp [fin26]
    | true =>
      have hd' : 48 ≤ b.toNat ∧ b.toNat ≤ 57 := by unfold d26 at hd; simpa using hd
      have hp : 10 ^ j ≤ 10 ^ 17 := Nat.pow_le_pow_right (by decide) (by omega)
      have hm2 : m < 100000000000000000 := Nat.lt_of_lt_of_le hm hp
      simp only [Bool.not_true, Bool.false_eq_true, if_false, if_true]
      refine ⟨by rw [i64_iff]; omega, by omega, by omega, ?_, by rw [i64_iff]; omega, by rw [i64_iff]; omega, by rw [i64_iff]; omega, ?_⟩
      · rw [u8_iff]; omega
      · have e1 : 10 * (m : Int) + ((b.toNat : Int) - 48) = ((10 * m + (b.toNat - 48) : Nat) : Int) := by omega
        have e2 : ((off + j : Nat) : Int) + 1 = ((off + (j + 1) : Nat) : Int) := by omega
        rw [e1, e2]
        exact ih (j + 1) (10 * m + (b.toNat - 48)) (by omega) (by rw [Nat.pow_succ]; omega)

theorem top26 (x0 : ByteArray) (hm : x0.size ≤ 9223372036854775807) : ∃ n, R26 n x0 [⟨.int .i64, g26_0 x0⟩, ⟨.bool, g26_1 x0⟩] := by
  obtain ⟨⟨l⟩⟩ := x0
  unfold g26_0 g26_1
  cases l with
  | nil => exact ⟨1, by
      rw [R26, if_neg (by decide), if_pos (by decide)]
      rfl⟩
  | cons b r =>
    have hsz : (ByteArray.mk ⟨b :: r⟩).size = r.length + 1 := rfl
    rw [hsz] at hm
    have g0 : List.getD (Array.toList (ByteArray.data (ByteArray.mk ⟨b :: r⟩))) 0 0 = b := rfl
    have g1 : List.getD (Array.toList (ByteArray.data (ByteArray.mk ⟨b :: r⟩))) 1 0 = r.getD 0 0 := rfl
    by_cases hb : b.toNat = 45
    · refine ⟨(r.length - 0 + 1) + 1, ?_⟩
      rw [R26, hsz, g0, g1, if_pos (by simp only [decide_eq_true_eq]; omega)]
      refine ⟨by omega, ?_⟩
      rw [if_pos (by rw [hb]; rfl)]
      show _
      unfold num26
      simp only [if_pos hb]
      by_cases h0 : r.length = 0
      · rw [if_pos (by rw [h0]; rfl), if_pos (.inl h0)]
      · rw [if_neg (by simp; omega)]
        refine ⟨by rw [i64_iff]; omega, ?_⟩
        by_cases h18 : 18 < r.length
        · rw [if_pos (by simp only [decide_eq_true_eq]; omega), if_pos (.inr (.inl h18))]
        · rw [if_neg (by simp only [decide_eq_true_eq]; omega)]
          refine ⟨by omega, ?_⟩
          by_cases h48 : (r.getD 0 0).toNat = 48
          · rw [if_pos (by rw [h48]; rfl), if_pos (by simp only [decide_eq_true_eq]; omega), if_pos (.inr (.inr h48))]
          · rw [if_neg (by rw [beq_iff_eq]; omega), if_neg (by omega)]
            exact run26 ⟨⟨b :: r⟩⟩ 1 (by rw [hsz]; omega) (by omega) r.length 0 0 (by rw [hsz]; omega) (by decide)
    · refine ⟨(r.length + 1 + 1) + 1, ?_⟩
      rw [R26, hsz, g0, if_pos (by simp only [decide_eq_true_eq]; omega)]
      refine ⟨by omega, ?_⟩
      rw [if_neg (by simp; omega)]
      unfold num26
      simp only [if_neg hb]
      rw [if_neg (by simp; omega)]
      refine ⟨by rw [i64_iff]; omega, ?_⟩
      by_cases h18 : 18 < r.length + 1
      · rw [if_pos (by simp only [decide_eq_true_eq]; omega), if_pos (.inl h18)]
      · rw [if_neg (by simp only [decide_eq_true_eq]; omega)]
        refine ⟨by omega, ?_⟩
        by_cases h48 : b.toNat = 48
        · rw [if_pos (by rw [h48]; rfl)]
          by_cases hr : 0 < r.length
          · rw [if_pos (by simp only [decide_eq_true_eq]; omega), if_pos (.inr ⟨h48, hr⟩)]
          · rw [if_neg (by simp only [decide_eq_true_eq]; omega), if_neg (by omega)]
            exact run26 ⟨⟨b :: r⟩⟩ 0 (by rw [hsz]; omega) (by omega) (r.length + 1) 0 0 (by rw [hsz]; omega) (by decide)
        · rw [if_neg (by simp; omega), if_neg (by omega)]
          exact run26 ⟨⟨b :: r⟩⟩ 0 (by rw [hsz]; omega) (by omega) (r.length + 1) 0 0 (by rw [hsz]; omega) (by decide)

def S26 : Am.Spec := { sig := sig26, pre := fun ⟨x0, _⟩ => P26 x0, res := fun ⟨x0, _⟩ => [⟨.int .i64, g26_0 x0⟩, ⟨.bool, g26_1 x0⟩] }
theorem con26 : Contract Tryz.prog 26 S26 := contract_of Tryz.func26 hb26 (Nat.le_of_ble_eq_true (by kernel_rfl)) (fun ⟨x0, _⟩ h hwf w0 O q => by
  obtain ⟨n, hn⟩ := top26 x0 hwf.1
  exact (snd26 n).1 x0 _ hn w0 O q)

end Go.Proofs.YthjgopkjdnhliaaGreatDoor

/- Function 14 (spec.ReadList): its runs between cut points. Written by a program of this repo (gen). -/
set_option linter.unusedVariables false
set_option linter.unusedSimpArgs false
set_option maxRecDepth 100000
namespace Go.Proofs.YthjgopkjdnhliaaGreatDoor
open Go Go.Am Go.Proofs
def ext14 : Ext := [(12, S12), (26, S26), (27, S27)]
theorem call14_12 : Callable Tryz.prog 12 := ⟨Tryz.f12, Tryz.func12, by kernel_rfl, by kernel_rfl⟩
theorem call14_26 : Callable Tryz.prog 26 := ⟨Tryz.f26, Tryz.func26, by kernel_rfl, by kernel_rfl⟩
theorem call14_27 : Callable Tryz.prog 27 := ⟨Tryz.f27, Tryz.func27, by kernel_rfl, by kernel_rfl⟩
theorem ext14Ok : ExtOk Tryz.prog ext14 := ⟨⟨call14_12, con12⟩, ⟨call14_26, con26⟩, ⟨call14_27, con27⟩, trivial⟩
/-! Function 14. -/
noncomputable def b14 : Code := bodyOf Tryz.f14
theorem hb14 : Tryz.f14.body = some b14 := by kernel_rfl
def sig14 : List AT := [AT.v (Ty.str)]
def tys14 : List Ty := [Ty.sl (Ty.int IntKind.i64), Ty.bool]
def E14_8 (v6 : Int) (h1 : List Int) (x0 : ByteArray) : Env := [(4, PV.a (Atom.osl 0 Option.none)), (5, PV.a (Atom.osl 1 Option.none)), (6, PV.a (Atom.val (Value.int IntKind.i64 v6)))]
def L14_8 (v6 : Int) (h1 : List Int) (x0 : ByteArray) : Heap := [Option.some (Arr.mk Ty.str (g12_0 x0 44) Bool.false), Option.some (Arr.mk (Ty.int IntKind.i64) h1 Bool.false)]
mutual
def R14 : Nat → ByteArray → List Dyn → Prop
  | 0, _, _ => False
  | n + 1, x0, ds => (if (ByteArray.toList x0 == ByteArray.toList (ByteArray.mk #[45])) = true then (ds = [Dyn.mk (Ty.sl (Ty.int IntKind.i64)) [], Dyn.mk Ty.bool Bool.true]) else ((P12 x0 44) ∧ (if (Decidable.decide ((↑(List.length (g12_0 x0 44)) : Int) > 64)) = true then (ds = [Dyn.mk (Ty.sl (Ty.int IntKind.i64)) [], Dyn.mk Ty.bool Bool.false]) else (R14_8 n (0) ([]) (x0) ds))))
def R14_8 : Nat → Int → List Int → ByteArray → List Dyn → Prop
  | 0, _, _, _, _ => False
  | n + 1, v6, h1, x0, ds => (if (Decidable.decide (v6 < (↑(List.length (g12_0 x0 44)) : Int))) = true then ((0 ≤ v6) ∧ (v6 < (↑(List.length (g12_0 x0 44)) : Int)) ∧ (if (!g26_1 (List.getD (g12_0 x0 44) (Int.toNat v6) ByteArray.empty)) = true then (ds = [Dyn.mk (Ty.sl (Ty.int IntKind.i64)) [], Dyn.mk Ty.bool Bool.false]) else (if (!g27_0 (g26_0 (List.getD (g12_0 x0 44) (Int.toNat v6) ByteArray.empty)) (-1000000000000) 1000000000000) = true then (ds = [Dyn.mk (Ty.sl (Ty.int IntKind.i64)) [], Dyn.mk Ty.bool Bool.false]) else (((List.length h1 + 1) * 8 ≤ 140737488355328) ∧ ((InR IntKind.i64 (v6 + 1)) ∧ (R14_8 n (v6 + 1) (h1 ++ [g26_0 (List.getD (g12_0 x0 44) (Int.toNat v6) ByteArray.empty)]) (x0) ds)))))) else (ds = [Dyn.mk (Ty.sl (Ty.int IntKind.i64)) h1, Dyn.mk Ty.bool Bool.true]))
end
theorem p14_0 (x0 : ByteArray) : runF tab ext14 false 44 [] 2000 [] tys14 Tryz.f14.results [true] [.code b14] (entE 0 0 sig14 (x0, ())) (entL sig14 (x0, ())) = some ([Dyn.mk (Ty.sl (Ty.int IntKind.i64)) [], Dyn.mk Ty.bool Bool.true], [], [(ByteArray.toList x0 == ByteArray.toList (ByteArray.mk #[45])) = Bool.true]) := by kernel_rfl
theorem p14_1 (x0 : ByteArray) : runF tab ext14 false 44 [] 2000 [] tys14 Tryz.f14.results [false, true] [.code b14] (entE 0 0 sig14 (x0, ())) (entL sig14 (x0, ())) = some ([Dyn.mk (Ty.sl (Ty.int IntKind.i64)) [], Dyn.mk Ty.bool Bool.false], [], [(ByteArray.toList x0 == ByteArray.toList (ByteArray.mk #[45])) = Bool.false, P12 x0 44, Decidable.decide ((↑(List.length (g12_0 x0 44)) : Int) > 64) = Bool.true]) := by kernel_rfl
theorem p14_2 (x0 : ByteArray) : Am.runN tab ext14 false 44 [] 2000 [] [] [4, 5, 6] [0, 1] [false, false] [.code b14] (entE 0 0 sig14 (x0, ())) (entL sig14 (x0, ())) = some (cutAt b14 8, E14_8 (0) ([]) (x0), L14_8 (0) ([]) (x0), [(ByteArray.toList x0 == ByteArray.toList (ByteArray.mk #[45])) = Bool.false, P12 x0 44, Decidable.decide ((↑(List.length (g12_0 x0 44)) : Int) > 64) = Bool.false]) := by kernel_rfl
theorem p14_3 (v6 : Int) (h1 : List Int) (x0 : ByteArray) : runF tab ext14 false 44 [] 2000 [] tys14 Tryz.f14.results [true, true, true] (cutAt b14 8) (E14_8 v6 h1 x0) (L14_8 v6 h1 x0) = some ([Dyn.mk (Ty.sl (Ty.int IntKind.i64)) [], Dyn.mk Ty.bool Bool.false], [], [Decidable.decide (v6 < (↑(List.length (g12_0 x0 44)) : Int)) = Bool.true, 0 ≤ v6, v6 < (↑(List.length (g12_0 x0 44)) : Int), True, (!g26_1 (List.getD (g12_0 x0 44) (Int.toNat v6) ByteArray.empty)) = Bool.true, Bool.true = Bool.true]) := by kernel_rfl
theorem p14_4 (v6 : Int) (h1 : List Int) (x0 : ByteArray) : runF tab ext14 false 44 [] 2000 [] tys14 Tryz.f14.results [true, false, true] (cutAt b14 8) (E14_8 v6 h1 x0) (L14_8 v6 h1 x0) = some ([Dyn.mk (Ty.sl (Ty.int IntKind.i64)) [], Dyn.mk Ty.bool Bool.false], [], [Decidable.decide (v6 < (↑(List.length (g12_0 x0 44)) : Int)) = Bool.true, 0 ≤ v6, v6 < (↑(List.length (g12_0 x0 44)) : Int), True, (!g26_1 (List.getD (g12_0 x0 44) (Int.toNat v6) ByteArray.empty)) = Bool.false, True, (!g27_0 (g26_0 (List.getD (g12_0 x0 44) (Int.toNat v6) ByteArray.empty)) (-1000000000000) 1000000000000) = Bool.true]) := by kernel_rfl
theorem p14_5 (v6 : Int) (h1 : List Int) (x0 : ByteArray) : Am.runN tab ext14 false 44 [] 2000 [] [] [4, 5, 6] [0, 1] [true, false, false] (cutAt b14 8) (E14_8 v6 h1 x0) (L14_8 v6 h1 x0) = some (cutAt b14 8, E14_8 (v6 + 1) (h1 ++ [g26_0 (List.getD (g12_0 x0 44) (Int.toNat v6) ByteArray.empty)]) (x0), L14_8 (v6 + 1) (h1 ++ [g26_0 (List.getD (g12_0 x0 44) (Int.toNat v6) ByteArray.empty)]) (x0), [Decidable.decide (v6 < (↑(List.length (g12_0 x0 44)) : Int)) = Bool.true, 0 ≤ v6, v6 < (↑(List.length (g12_0 x0 44)) : Int), True, (!g26_1 (List.getD (g12_0 x0 44) (Int.toNat v6) ByteArray.empty)) = Bool.false, True, (!g27_0 (g26_0 (List.getD (g12_0 x0 44) (Int.toNat v6) ByteArray.empty)) (-1000000000000) 1000000000000) = Bool.false, (List.length h1 + 1) * 8 ≤ 140737488355328, InR IntKind.i64 (v6 + 1)]) := by kernel_rfl
theorem p14_6 (v6 : Int) (h1 : List Int) (x0 : ByteArray) : runF tab ext14 false 44 [] 2000 [] tys14 Tryz.f14.results [false] (cutAt b14 8) (E14_8 v6 h1 x0) (L14_8 v6 h1 x0) = some ([Dyn.mk (Ty.sl (Ty.int IntKind.i64)) h1, Dyn.mk Ty.bool Bool.true], [], [Decidable.decide (v6 < (↑(List.length (g12_0 x0 44)) : Int)) = Bool.false]) := by kernel_rfl
theorem snd14 : ∀ n, (∀ (x0 : ByteArray) ds, R14 n x0 ds → ∀ w0 O q, AtV Tryz.prog 14 (PostR ds [] [] q w0 O) 44 w0 O q [] [.code b14] (entE 0 0 sig14 (x0, ())) (entL sig14 (x0, ()))) ∧ (∀ (v6 : Int) (h1 : List Int) (x0 : ByteArray) ds, R14_8 n v6 h1 x0 ds → ∀ w0 O q, AtV Tryz.prog 14 (PostR ds [] [] q w0 O) 44 w0 O q [] (cutAt b14 8) (E14_8 v6 h1 x0) (L14_8 v6 h1 x0)) := by
  intro n
  induction n with
  | zero => exact ⟨fun _ _ h => by simp only [R14] at h, fun _ _ _ _ h => by simp only [R14_8] at h⟩
  | succ n ih =>
  obtain ⟨ih, ih8⟩ := ih
  refine ⟨?_, ?_⟩
  · intro x0 ds h w0 O q
    rw [R14] at h
    by_cases b0 : (ByteArray.toList x0 == ByteArray.toList (ByteArray.mk #[45])) = true
    · rw [if_pos b0] at h
      subst h
      exact AtV.fin Tryz.func14 tabOk ext14Ok mixed (p14_0 x0) ⟨b0, trivial⟩
    · rw [if_neg b0] at h
      replace b0 := Bool.eq_false_iff.2 b0
      obtain ⟨s0, h⟩ := h
      by_cases b1 : (Decidable.decide ((↑(List.length (g12_0 x0 44)) : Int) > 64)) = true
      · rw [if_pos b1] at h
        subst h
        exact AtV.fin Tryz.func14 tabOk ext14Ok mixed (p14_1 x0) ⟨b0, s0, b1, trivial⟩
      · rw [if_neg b1] at h
        replace b1 := Bool.eq_false_iff.2 b1
        exact AtV.runN tabOk ext14Ok mixed (p14_2 x0) ⟨b0, s0, b1, trivial⟩ (ih8 _ _ _ _ h w0 O q)

  · intro v6 h1 x0 ds h w0 O q
    rw [R14_8] at h
    by_cases b0 : (Decidable.decide (v6 < (↑(List.length (g12_0 x0 44)) : Int))) = true
    · rw [if_pos b0] at h
      obtain ⟨s0, s1, h⟩ := h
      by_cases b1 : (!g26_1 (List.getD (g12_0 x0 44) (Int.toNat v6) ByteArray.empty)) = true
      · rw [if_pos b1] at h
        subst h
        exact AtV.fin Tryz.func14 tabOk ext14Ok mixed (p14_3 v6 h1 x0) ⟨b0, s0, s1, trivial, b1, rfl, trivial⟩
      · rw [if_neg b1] at h
        replace b1 := Bool.eq_false_iff.2 b1
        by_cases b2 : (!g27_0 (g26_0 (List.getD (g12_0 x0 44) (Int.toNat v6) ByteArray.empty)) (-1000000000000) 1000000000000) = true
        · rw [if_pos b2] at h
          subst h
          exact AtV.fin Tryz.func14 tabOk ext14Ok mixed (p14_4 v6 h1 x0) ⟨b0, s0, s1, trivial, b1, trivial, b2, trivial⟩
        · rw [if_neg b2] at h
          replace b2 := Bool.eq_false_iff.2 b2
          obtain ⟨s2, h⟩ := h
          obtain ⟨s3, h⟩ := h
          exact AtV.runN tabOk ext14Ok mixed (p14_5 v6 h1 x0) ⟨b0, s0, s1, trivial, b1, trivial, b2, s2, s3, trivial⟩ (ih8 _ _ _ _ h w0 O q)
    · rw [if_neg b0] at h
      replace b0 := Bool.eq_false_iff.2 b0
      subst h
      exact AtV.fin Tryz.func14 tabOk ext14Ok mixed (p14_6 v6 h1 x0) ⟨b0, trivial⟩



def ok14 (w : ByteArray) : Bool := g26_1 w && g27_0 (g26_0 w) (-1000000000000) 1000000000000
/-- The numbers of all words, if each is one. -/
def rl14 : List ByteArray → Option (List Int)
  | [] => some []
  | w :: r => if ok14 w = true then (match rl14 r with | some l => some (g26_0 w :: l) | none => none) else none
def ws14 (x0 : ByteArray) : List ByteArray := g12_0 x0 44
def all14 (x0 : ByteArray) : Option (List Int) := if x0 = ByteArray.mk #[45] then some [] else if (ws14 x0).length > 64 then none else rl14 (ws14 x0)
def g14_0 (x0 : ByteArray) : List Int := (all14 x0).getD []
def g14_1 (x0 : ByteArray) : Bool := (all14 x0).isSome
def P14 (x0 : ByteArray) : Prop := x0.size < 4294967281

theorem run14 (x0 : ByteArray) (hl : (ws14 x0).length ≤ 64) : ∀ (k i : Nat) (h : List Int), i + k = (ws14 x0).length → h.length ≤ i →
    R14_8 (k + 1) (i : Int) h x0 [⟨.sl (.int .i64), ((rl14 ((ws14 x0).drop i)).map (h ++ ·)).getD []⟩, ⟨.bool, (rl14 ((ws14 x0).drop i)).isSome⟩] := by
  have ew : g12_0 x0 44 = ws14 x0 := rfl
  intro k
  induction k with
  | zero =>
    intro i h hi hh
    rw [R14_8, ew, if_neg (by simp only [decide_eq_true_eq]; omega), List.drop_of_length_le (by omega)]
    simp [rl14]
  | succ k ih =>
    intro i h hi hh
    have hlt : i < (ws14 x0).length := by omega
    rw [R14_8, ew, if_pos (by simp only [decide_eq_true_eq]; omega)]
    simp only [Int.toNat_natCast]
    rw [drop_get (ws14 x0) i ByteArray.empty hlt]
    generalize (ws14 x0).getD i ByteArray.empty = w at *
    refine ⟨by omega, by omega, ?_⟩
    cases h1 : g26_1 w with
    | false =>
      rw [if_pos (by rfl)]
      have hk : ok14 w = false := by unfold ok14; rw [h1]; rfl
      simp [rl14, hk]
    | true =>
      rw [if_neg (by simp)]
      cases h2 : g27_0 (g26_0 w) (-1000000000000) 1000000000000 with
      | false =>
        rw [if_pos (by rfl)]
        have hk : ok14 w = false := by unfold ok14; rw [h1, h2]; rfl
        simp [rl14, hk]
      | true =>
        rw [if_neg (by simp)]
        have hk : ok14 w = true := by unfold ok14; rw [h1, h2]; rfl
        refine ⟨by omega, by rw [i64_iff]; omega, ?_⟩
        have e1 : (i : Int) + 1 = ((i + 1 : Nat) : Int) := by omega
        rw [e1]
        have := ih (i + 1) (h ++ [g26_0 w]) (by omega) (by simp; omega)
        rw [rl14, if_pos hk]
        cases hr : rl14 ((ws14 x0).drop (i + 1)) with
        | none => rw [hr] at this; simpa using this
        | some l => rw [hr] at this; simpa using this

theorem top14 (x0 : ByteArray) (hp : P14 x0) : ∃ n, R14 n x0 [⟨.sl (.int .i64), g14_0 x0⟩, ⟨.bool, g14_1 x0⟩] := by
  have ew : g12_0 x0 44 = ws14 x0 := rfl
  refine ⟨((ws14 x0).length + 1) + 1, ?_⟩
  rw [R14, ew]
  unfold g14_0 g14_1 all14
  by_cases h0 : x0 = ByteArray.mk #[45]
  · rw [if_pos ((bytes_eq _ _).2 h0), if_pos h0]; rfl
  · rw [if_neg (fun h => h0 ((bytes_eq _ _).1 h)), if_neg h0]
    refine ⟨⟨hp, by omega, by omega⟩, ?_⟩
    by_cases h1 : (ws14 x0).length > 64
    · rw [if_pos (by simp only [decide_eq_true_eq]; omega), if_pos h1]; rfl
    · rw [if_neg (by simp only [decide_eq_true_eq]; omega), if_neg h1]
      have := run14 x0 (by omega) (ws14 x0).length 0 [] (by omega) (by simp)
      simpa using this

def S14 : Am.Spec := { sig := sig14, pre := fun ⟨x0, _⟩ => P14 x0, res := fun ⟨x0, _⟩ => [⟨.sl (.int .i64), g14_0 x0⟩, ⟨.bool, g14_1 x0⟩] }
theorem con14 : Contract Tryz.prog 14 S14 := contract_of Tryz.func14 hb14 (Nat.le_of_ble_eq_true (by kernel_rfl)) (fun ⟨x0, _⟩ h hwf w0 O q => by
  obtain ⟨n, hn⟩ := top14 x0 h
  exact (snd14 n).1 x0 _ hn w0 O q)

end Go.Proofs.YthjgopkjdnhliaaGreatDoor
