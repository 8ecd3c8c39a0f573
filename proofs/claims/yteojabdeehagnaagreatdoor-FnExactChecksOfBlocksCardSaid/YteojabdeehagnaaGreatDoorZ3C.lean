/- Several texts in one: the functions that this law reaches, and their laws. -/
import Derived.Test.YteojabdeehagnaaGreatDoorZ3A
import Derived.Test.YteojabdeehagnaaGreatDoorZ3B
import Derived.Test.YteojabdeehagnaaGreatDoorRows
import Derived.KernelRfl
import Derived.Shelf.Vars
import Derived.Shelf.Strings.Builder1
import Derived.Shelf.Strings.Builder2
import Derived.Shelf.Strings.OnBuilder
import Derived.Shelf.Strings.BuilderF
import Derived.Shelf.Strings.BuilderK
import Derived.Shelf.Utf8.RuneCount
import Derived.Shelf.Strings.Builder2Cap
import Derived.Shelf.Strconv.Itoa0
import Derived.Shelf.Strconv.Itoa1
import Derived.Shelf.LaysM
import Derived.Shelf.Strconv.Itoa2
import Derived.Shelf.Strconv.Itoa3
import Derived.Shelf.Strconv.Itoa4
import Derived.Shelf.Strconv.ParseIntEmpty
import Derived.Shelf.Strconv.Clone
import Derived.Shelf.Strconv.SyntaxError
import Derived.Shelf.LaysC
import Derived.Shelf.Strconv.ToError
import Derived.Shelf.Strconv.Lower
import Derived.Shelf.Strconv.ParseUint10
import Derived.Shelf.Strconv.ParseUint10Empty
import Derived.Shelf.Strconv.ParseUint10Any
import Derived.Shelf.Strconv.ParseInt10
import Derived.Shelf.Strconv.RangeError
import Derived.Shelf.Strconv.ToErrorRange
import Derived.Shelf.Strconv.ParseUintEmpty
import Derived.Shelf.Strconv.ParseUint10b64
import Derived.Shelf.Strconv.ParseUint10b32
import Derived.Shelf.Strconv.ParseUint10b16
import Derived.Shelf.Strconv.ParseUint10b8
import Derived.Shelf.Strconv.ParseUint10At
import Derived.Shelf.Strconv.ParseInt10At64
import Derived.Shelf.Strconv.ParseInt10At32
import Derived.Shelf.Strconv.ParseInt10At16
import Derived.Shelf.Strconv.ParseInt10At8
import Derived.Shelf.Strconv.ParseInt10All
import Derived.Shelf.Strconv.ParseIntPublic10
import Derived.Shelf.Strings.Search1
import Derived.Shelf.Strings.Search2
import Derived.Shelf.Strings.Search3
import Derived.Shelf.Strings.Cut
import Derived.Shelf.Strings.Count
import Derived.Shelf.Strings.Shaped
import Derived.Shelf.Strings.Prefix
import Derived.Shelf.Strings.Split
import Derived.Shelf.Strings.SplitShaped
import Derived.Shelf.Unicode.Decode
import Derived.Shelf.Strings.RuneCount
import Derived.Shelf.Strings.Explode
import Derived.Shelf.Unicode.DecodeSlow
import Derived.Shelf.Unicode.DecodeAny
import Derived.WalkKit
import Derived.Lib.TrimByte

/- The abstract machine, part 41: slices.Insert of one element: from its runs to its contract. -/
namespace Go.Am
set_option linter.unusedVariables false
set_option linter.unusedSimpArgs false
open Go.RowKit (Below)

def insertSpec (t : Ty) : Spec := { sig := [AT.own t, AT.v (.int .i64), AT.own t], pre := fun ⟨x0, x1, x2, _⟩ => 0 ≤ x1 ∧ x1 ≤ x0.length ∧ x2.length = 1 ∧ x0.length ≤ 1048576, upd := fun _ => [none, none], res := fun ⟨x0, x1, x2, _⟩ => [⟨.sl t, x0.take x1.toNat ++ (x2 ++ x0.drop x1.toNat)⟩] }

theorem insert_contract {P : Program} {f : FuncId} {t : Ty} {e : TypeId} (hf : t.flat = true)
    (hshift : ∀ (w : World) (xs ys : List t.den) (b off cap : Nat) (cur : Array Value) (ty : TypeId) (fz : Nat × Nat) (vb voff vcap : Nat) (vcur : Array Value) (vty : TypeId) (vfz : Nat × Nat) (i : Nat), OwnAt w t xs b off cap cur ty fz → OwnAt w t ys vb voff vcap vcur vty vfz → ys.length = 1 → vb ≠ b → i < xs.length → xs.length + 1 ≤ cap →
      Calls P f #[.slice (some ⟨b, off, none⟩) xs.length cap, .int .i64 i, .slice (some ⟨vb, voff, none⟩) 1 vcap] w fun r w' => r = .returned (.slice (some ⟨b, off, none⟩) (xs.length + 1) cap) ∧
        ∃ q, w' = ((w.drewN q).setCells b (off + (i + 1) * t.size) (fcs t (xs.drop i))).setCells b (off + i * t.size) (fcs t ys))
    (hgrow : ∀ (w : World) (xs ys : List t.den) (b off cap : Nat) (cur : Array Value) (ty : TypeId) (fz : Nat × Nat) (vb voff vcap : Nat) (vcur : Array Value) (vty : TypeId) (vfz : Nat × Nat) (i : Nat), OwnAt w t xs b off cap cur ty fz → OwnAt w t ys vb voff vcap vcur vty vfz → ys.length = 1 → vb ≠ b → i < xs.length → cap < xs.length + 1 → xs.length ≤ 1048576 →
      Calls P f #[.slice (some ⟨b, off, none⟩) xs.length cap, .int .i64 i, .slice (some ⟨vb, voff, none⟩) 1 vcap] w fun r w' => ∃ v', r = .returned v' ∧ w'.ownsRow w.heap.size e t.size v' (xs.length + 1) (fcs t (xs.take i ++ (ys ++ xs.drop i))) ∧ Below w.heap.size w w')
    (hend : ∀ (w : World) (xs ys : List t.den) (b off cap : Nat) (cur : Array Value) (ty : TypeId) (fz : Nat × Nat) (vb voff vcap : Nat) (vcur : Array Value) (vty : TypeId) (vfz : Nat × Nat), OwnAt w t xs b off cap cur ty fz → OwnAt w t ys vb voff vcap vcur vty vfz → ys.length = 1 → vb ≠ b → xs.length + 1 ≤ cap →
      Calls P f #[.slice (some ⟨b, off, none⟩) xs.length cap, .int .i64 xs.length, .slice (some ⟨vb, voff, none⟩) 1 vcap] w fun r w' => r = .returned (.slice (some ⟨b, off, none⟩) (xs.length + 1) cap) ∧
        ∃ q, w' = (w.drewN q).setCells b (off + xs.length * t.size) (fcs t ys))
    (hlast : ∀ (w : World) (xs ys : List t.den) (ad : Option Addr) (cap : Nat) (vb voff vcap : Nat) (vcur : Array Value) (vty : TypeId) (vfz : Nat × Nat), (∀ x ∈ xs, Wf t x) → xs.length ≤ cap → (ad = none → xs = []) → (∀ a, ad = some a → ∀ j u, (fcs t xs)[j]? = some u → w.cell? (a.add j) = some u) → OwnAt w t ys vb voff vcap vcur vty vfz → ys.length = 1 → cap < xs.length + 1 → xs.length ≤ 1048576 →
      Calls P f #[.slice ad xs.length cap, .int .i64 xs.length, .slice (some ⟨vb, voff, none⟩) 1 vcap] w fun r w' => ∃ v', r = .returned v' ∧ w'.ownsRow w.heap.size e t.size v' (xs.length + 1) (fcs t (xs ++ ys)) ∧ Below w.heap.size w w') :
    Contract P f (insertSpec t) := by
  rintro w ⟨z0, z1, z2, u⟩ vs bss hgo hp ⟨v, s, b0, bs0, rfl, rfl, ho, v1, s1, b1, bs1, rfl, rfl, ⟨rfl, rfl, _⟩, v2, s2, b2, bs2, rfl, rfl, ho2, rfl, rfl⟩ hn
  obtain ⟨x0, rfl⟩ : ∃ y : List t.den, y = z0 := ⟨z0, rfl⟩
  obtain ⟨x1, rfl⟩ : ∃ y : Int, y = z1 := ⟨z1, rfl⟩
  obtain ⟨x2, rfl⟩ : ∃ y : List t.den, y = z2 := ⟨z2, rfl⟩
  dsimp only
  obtain ⟨p0, p1, p2, p3⟩ : 0 ≤ x1 ∧ x1 ≤ x0.length ∧ x2.length = 1 ∧ x0.length ≤ 1048576 := hp
  obtain ⟨i, rfl⟩ : ∃ i : Nat, x1 = i := ⟨x1.toNat, by omega⟩
  have hi : i ≤ x0.length := by omega
  have ho' : OwnC w (.sl t) x0 [v] b0 := ho
  have ho2' : OwnC w (.sl t) x2 [v2] b2 := ho2
  obtain ⟨vb, voff, vcap, vcur, vty, vfz, rfl, rfl, hB⟩ := ownAt_of hf ho2' (by intro e; rw [e] at p2; simp at p2)
  rw [p2]
  have hwf2 := hB.wf
  -- a row of one's own
  have fresh : ∀ (ys : List t.den) (v' : Value) (w' : World), ys.length = x0.length + 1 → (∀ y ∈ ys, Wf t y) → w'.ownsRow w.heap.size e t.size v' (x0.length + 1) (fcs t ys) → Below w.heap.size w w' →
      ∃ rs ubs rbs, Ending.returned v' = .returned (packV rs) ∧ Kept [b0, [], [vb]].flatten w w' ∧ ResRep w' [⟨.sl t, ys⟩] rs rbs ∧ UpdRep w' [none, none] (ownVals [AT.own t, AT.v (.int .i64), AT.own t] [v, .int .i64 i, .slice (some ⟨vb, voff, none⟩) 1 vcap]) ubs ∧
        (ubs.flatten ++ rbs.flatten).Nodup ∧ ∀ d ∈ ubs.flatten ++ rbs.flatten, ¬ Am.Good w [b0, [], [vb]].flatten d := fun ys v' w' hl hw h1 h2 => by
    rw [← hl] at h1
    obtain ⟨bs, g1, g2, g3⟩ := own_of_row hf hw (by rw [hl]; unfold maxLen; omega) h1
    refine ⟨[v'], [[], []], [bs], rfl, (Kept.of_below h2).of_nil, ⟨_, _, _, _, _, rfl, rfl, g1, rfl, rfl, rfl⟩, ⟨_, _, _, rfl, rfl, _, _, _, rfl, rfl, rfl, rfl⟩, by simpa using g2, fun d hd hg => ?_⟩
    simp at hd
    have := g3 d hd
    have := hg.1
    omega
  -- what was there, written anew
  have wf3 : ∀ y ∈ x0.take i ++ (x2 ++ x0.drop i), Wf t y → True := fun _ _ _ => trivial
  obtain ⟨hw0, hm0, hcase⟩ := own_flat hf ho'
  have hws : ∀ y ∈ x0.take i ++ (x2 ++ x0.drop i), Wf t y := fun y hy => by
    rcases List.mem_append.1 hy with hy | hy
    · exact hw0 y (List.mem_of_mem_take hy)
    · rcases List.mem_append.1 hy with hy | hy
      · exact hwf2 y hy
      · exact hw0 y (List.mem_of_mem_drop hy)
  have hlens : (x0.take i ++ (x2 ++ x0.drop i)).length = x0.length + 1 := by
    simp only [List.length_append, List.length_take, List.length_drop, p2]
    omega
  rcases hcase with ⟨ad, rfl, rfl, rfl⟩ | ⟨b, off, cap, cur, ty, fz, rfl, h2, h3, h4, h5, h6, rfl, h8⟩
  · have hi0 : i = 0 := by simpa using hi
    subst hi0
    have := hlast w [] x2 ad 0 vb voff vcap vcur vty vfz (fun x h => by cases h) (Nat.le_refl _) (fun _ => rfl) (fun a _ j u hj => by simp [fcs] at hj) hB p2 (by simp) (by simp)
    refine this.mono ?_
    rintro r w' ⟨v', rfl, h1, h2⟩
    exact fresh _ v' w' hlens hws (by simpa using h1) h2
  · have hA : OwnAt w t x0 b off cap cur ty fz := ⟨hw0, h2, h3, h4, h5, h6, h8⟩
    have hvb : vb ≠ b := by
      simp only [List.flatten_cons, List.flatten_nil, List.append_nil, List.nil_append, List.cons_append, List.nodup_cons, List.mem_singleton] at hn
      exact fun e => hn.1 e.symm
    have place : ∀ (w' : World) (cur' : Array Value), Kept [b] w w' → w'.heap[b]? = some (.cells cur' ty fz) → cur'.size = cur.size → x0.length + 1 ≤ cap → (∀ j u, (fcs t (x0.take i ++ (x2 ++ x0.drop i)))[j]? = some u → cur'[off + j]? = some u) →
        ∃ rs ubs rbs, Ending.returned (.slice (some ⟨b, off, none⟩) (x0.length + 1) cap) = .returned (packV rs) ∧ Kept [[b], [], [vb]].flatten w w' ∧ ResRep w' [⟨.sl t, x0.take i ++ (x2 ++ x0.drop i)⟩] rs rbs ∧ UpdRep w' [none, none] (ownVals [AT.own t, AT.v (.int .i64), AT.own t] [.slice (some ⟨b, off, none⟩) x0.length cap, .int .i64 i, .slice (some ⟨vb, voff, none⟩) 1 vcap]) ubs ∧
          (ubs.flatten ++ rbs.flatten).Nodup ∧ ∀ d ∈ ubs.flatten ++ rbs.flatten, ¬ Am.Good w [[b], [], [vb]].flatten d := fun w' cur' hk hb hs hr hc => by
      have hres := own_flat_mk (w := w') hf hws (n := x0.length + 1) (b := b) (off := off) (cap := cap) (cur := cur') (ty := ty) (fz := fz) hlens.symm (by rw [hlens]; exact hr) h3 (by rw [hs]; exact h4) hb (by rw [hs]; exact h6) hc
      refine ⟨[_], [[], []], [[b]], rfl, hk.mono (fun k hk => by simp at hk; simp [hk]), ⟨_, _, _, _, _, rfl, rfl, hres, rfl, rfl, rfl⟩, ⟨_, _, _, rfl, rfl, _, _, _, rfl, rfl, rfl, rfl⟩, by simp, fun d hd hg => ?_⟩
      simp at hd
      subst hd
      exact hg.2 (by simp)
    have hdr : ∀ q, Kept [b] w (w.drewN q) := fun q => ⟨rfl, rfl, rfl, Nat.le_refl _, fun _ _ _ => rfl⟩
    have hlen2 : (fcs t x2).length = t.size := by rw [fcs_length hf hwf2, p2, Nat.one_mul]
    by_cases hroom : x0.length + 1 ≤ cap
    · have hle : (x0.length + 1) * t.size ≤ cap * t.size := Nat.mul_le_mul_right _ hroom
      rw [Nat.add_mul, Nat.one_mul] at hle
      by_cases hin : i = x0.length
      · subst hin
        refine (hend w x0 x2 b off cap cur ty fz vb voff vcap vcur vty vfz hA hB p2 hvb hroom).mono ?_
        rintro r w' ⟨rfl, q, rfl⟩
        have l1 : off + x0.length * t.size + (fcs t x2).length ≤ cur.size := by rw [hlen2]; omega
        obtain ⟨c1, g1, g2, g3, g4, g5, g6⟩ := setCells_block (fcs t x2) (show (w.drewN q).heap[b]? = some (.cells cur ty fz) from h5) l1
        refine place _ c1 ((hdr q).trans (setCells_kept _ h5 l1)) g1 g2 hroom (fun j u hu => ?_)
        rw [List.take_length, List.drop_length, List.append_nil, fcs_append] at hu
        have hl0 := fcs_length hf hw0
        by_cases hj : j < x0.length * t.size
        · rw [List.getElem?_append_left (by omega)] at hu
          rw [g4 _ (.inl (by omega))]
          exact h8 j u hu
        · rw [List.getElem?_append_right (by omega), hl0] at hu
          have := g3 _ u hu
          rwa [show off + x0.length * t.size + (j - x0.length * t.size) = off + j by omega] at this
      · have hlt : i < x0.length := by omega
        refine (hshift w x0 x2 b off cap cur ty fz vb voff vcap vcur vty vfz i hA hB p2 hvb hlt hroom).mono ?_
        rintro r w' ⟨rfl, q, rfl⟩
        have hd : (fcs t (x0.drop i)).length = (x0.length - i) * t.size := by rw [fcs_length hf (fun x hx => hw0 x (List.mem_of_mem_drop hx)), List.length_drop]
        have hti : (fcs t (x0.take i)).length = i * t.size := by rw [fcs_length hf (fun x hx => hw0 x (List.mem_of_mem_take hx)), List.length_take, Nat.min_eq_left (by omega)]
        have e1 : (i + 1) * t.size + (x0.length - i) * t.size = x0.length * t.size + t.size := by rw [← Nat.add_mul, ← Nat.succ_mul]; congr 1; omega
        have e2 : (i + 1) * t.size = i * t.size + t.size := Nat.succ_mul _ _
        have l1 : off + (i + 1) * t.size + (fcs t (x0.drop i)).length ≤ cur.size := by rw [hd]; omega
        obtain ⟨c1, g1, g2, g3, g4, g5, g6⟩ := setCells_block (fcs t (x0.drop i)) (show (w.drewN q).heap[b]? = some (.cells cur ty fz) from h5) l1
        have l2 : off + i * t.size + (fcs t x2).length ≤ c1.size := by rw [hlen2, g2]; omega
        obtain ⟨c2, k1, k2, k3, k4, k5, k6⟩ := setCells_block (fcs t x2) g1 l2
        refine place _ c2 (((hdr q).trans (setCells_kept _ h5 l1)).trans (setCells_kept _ g1 l2)) k1 (by rw [k2, g2]) hroom (fun j u hu => ?_)
        rw [fcs_append, fcs_append] at hu
        by_cases hj : j < i * t.size
        · rw [List.getElem?_append_left (by omega)] at hu
          rw [k4 _ (.inl (by omega)), g4 _ (.inl (by omega))]
          exact h8 j u (fcs_take hf hw0 i j u hu)
        · rw [List.getElem?_append_right (by omega), hti] at hu
          by_cases hj2 : j < i * t.size + t.size
          · rw [List.getElem?_append_left (by omega)] at hu
            have := k3 _ u hu
            rwa [show off + i * t.size + (j - i * t.size) = off + j by omega] at this
          · rw [List.getElem?_append_right (by omega), hlen2] at hu
            rw [k4 _ (.inr (by rw [hlen2]; omega))]
            have := g3 _ u hu
            rwa [show off + (i + 1) * t.size + (j - i * t.size - t.size) = off + j by omega] at this
    · by_cases hin : i = x0.length
      · subst hin
        have := hlast w x0 x2 (some ⟨b, off, none⟩) cap vb voff vcap vcur vty vfz hw0 h2 (fun h => by cases h) (fun a ha j u hj => by cases ha; rw [Addr.add_lit]; exact hA.cell j u hj) hB p2 (by omega) p3
        refine this.mono ?_
        rintro r w' ⟨v', rfl, h1, h2⟩
        exact fresh _ v' w' hlens hws (by rw [Int.toNat_natCast, List.take_length, List.drop_length, List.append_nil]; exact h1) h2
      · have hlt : i < x0.length := by omega
        refine (hgrow w x0 x2 b off cap cur ty fz vb voff vcap vcur vty vfz i hA hB p2 hvb hlt (by omega) p3).mono ?_
        rintro r w' ⟨v', rfl, h1, h2⟩
        exact fresh _ v' w' hlens hws h1 h2

end Go.Am

/- The types of this program, as the abstract machine reads them. -/
set_option linter.unusedVariables false
set_option linter.unusedSimpArgs false
set_option maxRecDepth 100000
namespace Go.Proofs.YteojabdeehagnaaGreatDoor
open Go Go.Am Go.Proofs
def tab : List TI := [TI.other,
  TI.other,
  TI.scal (Ty.int IntKind.i64),
  TI.scal (Ty.int IntKind.i64),
  TI.scal (Ty.bool),
  TI.scal (Ty.int IntKind.u8),
  TI.scal (Ty.int IntKind.u8),
  TI.struct (Ty.cons (Ty.int IntKind.i64) (Ty.cons (Ty.int IntKind.i64) (Ty.cons Ty.bool (Ty.cons (Ty.int IntKind.u8) Ty.unit)))),
  TI.struct (Ty.cons (Ty.int IntKind.i64) (Ty.cons (Ty.int IntKind.i64) (Ty.cons Ty.bool (Ty.cons (Ty.int IntKind.u8) Ty.unit)))),
  TI.scal (Ty.str),
  TI.scal (Ty.str),
  TI.scal (Ty.str),
  TI.scal (Ty.int IntKind.u64),
  TI.other,
  TI.other,
  TI.other,
  TI.other,
  TI.other,
  TI.other,
  TI.other,
  TI.other,
  TI.scal (Ty.int IntKind.i32),
  TI.slice 36 (Ty.cons Ty.str (Ty.cons Ty.str (Ty.cons Ty.str Ty.unit))) 48,
  TI.other,
  TI.slice 40 (Ty.cons Ty.str (Ty.cons (Ty.int IntKind.i64) (Ty.cons (Ty.int IntKind.i64) (Ty.cons (Ty.int IntKind.i64) (Ty.cons (Ty.int IntKind.i64) Ty.unit))))) 48,
  TI.other,
  TI.other,
  TI.slice 38 (Ty.cons Ty.str (Ty.cons Ty.str (Ty.cons Ty.str Ty.unit))) 48,
  TI.other,
  TI.other,
  TI.other,
  TI.other,
  TI.other,
  TI.other,
  TI.other,
  TI.struct (Ty.cons Ty.str (Ty.cons Ty.str (Ty.cons Ty.str Ty.unit))),
  TI.struct (Ty.cons Ty.str (Ty.cons Ty.str (Ty.cons Ty.str Ty.unit))),
  TI.other,
  TI.struct (Ty.cons Ty.str (Ty.cons Ty.str (Ty.cons Ty.str Ty.unit))),
  TI.struct (Ty.cons Ty.str (Ty.cons (Ty.int IntKind.i64) (Ty.cons (Ty.int IntKind.i64) (Ty.cons (Ty.int IntKind.i64) (Ty.cons (Ty.int IntKind.i64) Ty.unit))))),
  TI.struct (Ty.cons Ty.str (Ty.cons (Ty.int IntKind.i64) (Ty.cons (Ty.int IntKind.i64) (Ty.cons (Ty.int IntKind.i64) (Ty.cons (Ty.int IntKind.i64) Ty.unit))))),
  TI.other,
  TI.other,
  TI.other,
  TI.other,
  TI.other,
  TI.other,
  TI.other,
  TI.other,
  TI.other,
  TI.slice 9 (Ty.str) 16,
  TI.other,
  TI.slice 2 (Ty.int IntKind.i64) 8,
  TI.other,
  TI.other,
  TI.other,
  TI.other,
  TI.other,
  TI.other,
  TI.other,
  TI.other,
  TI.other,
  TI.slice 5 (Ty.int IntKind.u8) 1,
  TI.other,
  TI.other,
  TI.other,
  TI.other,
  TI.other,
  TI.other,
  TI.other,
  TI.other,
  TI.other,
  TI.other,
  TI.other,
  TI.other,
  TI.other,
  TI.slice 3 (Ty.int IntKind.i64) 8,
  TI.other,
  TI.other,
  TI.other,
  TI.other,
  TI.other,
  TI.other,
  TI.other,
  TI.other,
  TI.other,
  TI.other,
  TI.other,
  TI.other,
  TI.other,
  TI.other,
  TI.other,
  TI.other,
  TI.other,
  TI.other,
  TI.other,
  TI.other,
  TI.other,
  TI.scal (Ty.int IntKind.u64),
  TI.other,
  TI.other,
  TI.other,
  TI.scal (Ty.int IntKind.u32),
  TI.other,
  TI.other,
  TI.other,
  TI.other,
  TI.other,
  TI.scal (Ty.int IntKind.i64),
  TI.scal (Ty.int IntKind.u64),
  TI.other,
  TI.other,
  TI.other,
  TI.other,
  TI.other,
  TI.other,
  TI.other,
  TI.other,
  TI.other,
  TI.other,
  TI.other,
  TI.other,
  TI.other,
  TI.other,
  TI.other,
  TI.other,
  TI.other,
  TI.other,
  TI.other,
  TI.other,
  TI.other,
  TI.other,
  TI.other,
  TI.other,
  TI.struct (Ty.cons (Ty.int IntKind.u8) (Ty.cons (Ty.int IntKind.u8) Ty.unit)),
  TI.struct (Ty.cons (Ty.int IntKind.u8) (Ty.cons (Ty.int IntKind.u8) Ty.unit)),
  TI.other,
  TI.other,
  TI.struct (Ty.cons Ty.str Ty.unit),
  TI.struct (Ty.cons Ty.str Ty.unit),
  TI.other,
  TI.other,
  TI.other,
  TI.other,
  TI.other,
  TI.other,
  TI.other,
  TI.other,
  TI.other,
  TI.scal (Ty.int IntKind.u8),
  TI.scal (Ty.int IntKind.u8),
  TI.other,
  TI.scal (Ty.int IntKind.i32),
  TI.scal (Ty.int IntKind.i32)]

theorem tabOk : TabOk Tryz.prog tab := tabOk_of_check (by kernel_rfl)
theorem mixed : Tryz.prog.follows .mixedOrders = true := by kernel_rfl
theorem gv0 {W : World} (h : GInv W) : GHas W 0 (.int .i64) := h.1
theorem gcell0 (W : World) (h : W.ShapedOpen Tryz.prog) : ∃ m, W.cell? ⟨0, 0, none⟩ = some (.int .i64 m) :=
  Go.Proofs.cell_of_shapedOpen_int (zero := #[.int .i64 0]) (t := 3) h (of_decide_eq_true (by kernel_rfl)) (by kernel_rfl) rfl (by kernel_rfl) (by kernel_rfl) Tryz.underlying3
theorem gv1 {W : World} (h : GInv W) : GHas W 1 (.ifc) := h.2.1
theorem gv2 {W : World} (h : GInv W) : GHas W 2 (.ifc) := h.2.2.1
theorem gv3 {W : World} (h : GInv W) : GHas W 3 (.tab .u64 Lib.pow10Tab) := h.2.2.2.1
theorem maxLenG {W : World} (h : GInv W) : ∃ m, W.cell? ⟨0, 0, none⟩ = some (.int .i64 m) := gv0 h
theorem pow10G {W : World} (h : GInv W) : Lib.TabIs Tryz.prog W "internal/strconv.uint64pow10" .u64 Lib.pow10Tab := GHas.tab (by kernel_rfl) (gv3 h)
theorem errSyntaxG {W : World} (h : GInv W) : ∃ ev, W.cell? ⟨1, 0, none⟩ = some ev ∧ (ev = .nilIface ∨ ∃ te pe, ev = .iface te pe) := GHas.ifc_cell (gv1 h)
theorem errRangeG {W : World} (h : GInv W) : ∃ ev, W.cell? ⟨2, 0, none⟩ = some ev ∧ (ev = .nilIface ∨ ∃ te pe, ev = .iface te pe) := GHas.ifc_cell (gv2 h)
theorem ginv (W : World) (h : W.ShapedOpen Tryz.prog) (h1 : GHas W 1 (.ifc)) (h2 : GHas W 2 (.ifc)) (h3 : GHas W 3 (.tab .u64 Lib.pow10Tab)) : GInv W := ⟨gcell0 W h, h1, h2, h3, trivial⟩
end Go.Proofs.YteojabdeehagnaaGreatDoor

/- Function 36 (impl.IsName): its runs between cut points. Written by a program of this repo (gen). -/
set_option linter.unusedVariables false
set_option linter.unusedSimpArgs false
set_option maxRecDepth 100000
namespace Go.Proofs.YteojabdeehagnaaGreatDoor
open Go Go.Am Go.Proofs
def ext36 : Ext := []
theorem ext36Ok : ExtOk Tryz.prog ext36 := trivial
/-! Function 36. -/
noncomputable def b36 : Code := bodyOf Tryz.f36
theorem hb36 : Tryz.f36.body = some b36 := by kernel_rfl
def sig36 : List AT := [AT.v (Ty.str)]
def tys36 : List Ty := [Ty.bool]
def E36_4 (v18 : Int) (x0 : ByteArray) : Env := [(16, PV.a (Atom.osl 0 Option.none)), (17, PV.a (Atom.val (Value.int IntKind.i64 (↑(List.length (bytesOf x0)) : Int)))), (18, PV.a (Atom.val (Value.int IntKind.i64 v18)))]
def L36_4 (v18 : Int) (x0 : ByteArray) : Heap := [Option.some (Arr.mk (Ty.int IntKind.u8) (bytesOf x0) Bool.false)]
mutual
def R36 : Nat → ByteArray → List Dyn → Prop
  | 0, _, _ => False
  | n + 1, x0, ds => (if (Decidable.decide ((↑(ByteArray.size x0) : Int) < 1)) = true then (ds = [Dyn.mk Ty.bool Bool.false]) else (if (Decidable.decide ((↑(ByteArray.size x0) : Int) > 10)) = true then (ds = [Dyn.mk Ty.bool Bool.false]) else (R36_4 n (0) (x0) ds)))
def R36_4 : Nat → Int → ByteArray → List Dyn → Prop
  | 0, _, _, _ => False
  | n + 1, v18, x0, ds => (if (Decidable.decide (v18 < (↑(List.length (bytesOf x0)) : Int))) = true then ((0 ≤ v18) ∧ (v18 < (↑(List.length (bytesOf x0)) : Int)) ∧ (if (Decidable.decide (List.getD (bytesOf x0) (Int.toNat v18) 0 ≥ 97)) = true then (if (Decidable.decide (List.getD (bytesOf x0) (Int.toNat v18) 0 ≥ 48)) = true then (if (!Decidable.decide (List.getD (bytesOf x0) (Int.toNat v18) 0 ≤ 122)) = true then (if (v18 == 0) = true then (ds = [Dyn.mk Ty.bool Bool.false]) else (if (!Decidable.decide (List.getD (bytesOf x0) (Int.toNat v18) 0 ≤ 57)) = true then (ds = [Dyn.mk Ty.bool Bool.false]) else ((InR IntKind.i64 (v18 + 1)) ∧ (R36_4 n (v18 + 1) (x0) ds)))) else ((InR IntKind.i64 (v18 + 1)) ∧ (R36_4 n (v18 + 1) (x0) ds))) else (if (!Decidable.decide (List.getD (bytesOf x0) (Int.toNat v18) 0 ≤ 122)) = true then (if (v18 == 0) = true then (ds = [Dyn.mk Ty.bool Bool.false]) else (ds = [Dyn.mk Ty.bool Bool.false])) else ((InR IntKind.i64 (v18 + 1)) ∧ (R36_4 n (v18 + 1) (x0) ds)))) else (if (Decidable.decide (List.getD (bytesOf x0) (Int.toNat v18) 0 ≥ 48)) = true then (if (v18 == 0) = true then (ds = [Dyn.mk Ty.bool Bool.false]) else (if (!Decidable.decide (List.getD (bytesOf x0) (Int.toNat v18) 0 ≤ 57)) = true then (ds = [Dyn.mk Ty.bool Bool.false]) else ((InR IntKind.i64 (v18 + 1)) ∧ (R36_4 n (v18 + 1) (x0) ds)))) else (if (v18 == 0) = true then (ds = [Dyn.mk Ty.bool Bool.false]) else (ds = [Dyn.mk Ty.bool Bool.false]))))) else (ds = [Dyn.mk Ty.bool Bool.true]))
end
theorem p36_0 (x0 : ByteArray) : runF tab ext36 false 46 [] 2000 [] tys36 Tryz.f36.results [true, true] [.code b36] (entE 0 0 sig36 (x0, ())) (entL sig36 (x0, ())) = some ([Dyn.mk Ty.bool Bool.false], [], [Decidable.decide ((↑(ByteArray.size x0) : Int) < 1) = Bool.true, Bool.true = Bool.true]) := by kernel_rfl
theorem p36_1 (x0 : ByteArray) : runF tab ext36 false 46 [] 2000 [] tys36 Tryz.f36.results [false, true] [.code b36] (entE 0 0 sig36 (x0, ())) (entL sig36 (x0, ())) = some ([Dyn.mk Ty.bool Bool.false], [], [Decidable.decide ((↑(ByteArray.size x0) : Int) < 1) = Bool.false, Decidable.decide ((↑(ByteArray.size x0) : Int) > 10) = Bool.true]) := by kernel_rfl
theorem p36_2 (x0 : ByteArray) : Am.runN tab ext36 false 46 [] 2000 [] [] [16, 17, 18] [0] [false, false] [.code b36] (entE 0 0 sig36 (x0, ())) (entL sig36 (x0, ())) = some (cutAt b36 4, E36_4 (0) (x0), L36_4 (0) (x0), [Decidable.decide ((↑(ByteArray.size x0) : Int) < 1) = Bool.false, Decidable.decide ((↑(ByteArray.size x0) : Int) > 10) = Bool.false]) := by kernel_rfl
theorem p36_3 (v18 : Int) (x0 : ByteArray) : runF tab ext36 false 46 [] 2000 [] tys36 Tryz.f36.results [true, true, true, true, true, true] (cutAt b36 4) (E36_4 v18 x0) (L36_4 v18 x0) = some ([Dyn.mk Ty.bool Bool.false], [], [Decidable.decide (v18 < (↑(List.length (bytesOf x0)) : Int)) = Bool.true, 0 ≤ v18, v18 < (↑(List.length (bytesOf x0)) : Int), Decidable.decide (List.getD (bytesOf x0) (Int.toNat v18) 0 ≥ 97) = Bool.true, Decidable.decide (List.getD (bytesOf x0) (Int.toNat v18) 0 ≥ 48) = Bool.true, (!Decidable.decide (List.getD (bytesOf x0) (Int.toNat v18) 0 ≤ 122)) = Bool.true, (v18 == 0) = Bool.true, Bool.true = Bool.true]) := by kernel_rfl
theorem p36_4 (v18 : Int) (x0 : ByteArray) : runF tab ext36 false 46 [] 2000 [] tys36 Tryz.f36.results [true, true, true, true, false, true] (cutAt b36 4) (E36_4 v18 x0) (L36_4 v18 x0) = some ([Dyn.mk Ty.bool Bool.false], [], [Decidable.decide (v18 < (↑(List.length (bytesOf x0)) : Int)) = Bool.true, 0 ≤ v18, v18 < (↑(List.length (bytesOf x0)) : Int), Decidable.decide (List.getD (bytesOf x0) (Int.toNat v18) 0 ≥ 97) = Bool.true, Decidable.decide (List.getD (bytesOf x0) (Int.toNat v18) 0 ≥ 48) = Bool.true, (!Decidable.decide (List.getD (bytesOf x0) (Int.toNat v18) 0 ≤ 122)) = Bool.true, (v18 == 0) = Bool.false, (!Decidable.decide (List.getD (bytesOf x0) (Int.toNat v18) 0 ≤ 57)) = Bool.true]) := by kernel_rfl
theorem p36_5 (v18 : Int) (x0 : ByteArray) : Am.runN tab ext36 false 46 [] 2000 [] [] [16, 17, 18] [0] [true, true, true, true, false, false] (cutAt b36 4) (E36_4 v18 x0) (L36_4 v18 x0) = some (cutAt b36 4, E36_4 (v18 + 1) (x0), L36_4 (v18 + 1) (x0), [Decidable.decide (v18 < (↑(List.length (bytesOf x0)) : Int)) = Bool.true, 0 ≤ v18, v18 < (↑(List.length (bytesOf x0)) : Int), Decidable.decide (List.getD (bytesOf x0) (Int.toNat v18) 0 ≥ 97) = Bool.true, Decidable.decide (List.getD (bytesOf x0) (Int.toNat v18) 0 ≥ 48) = Bool.true, (!Decidable.decide (List.getD (bytesOf x0) (Int.toNat v18) 0 ≤ 122)) = Bool.true, (v18 == 0) = Bool.false, (!Decidable.decide (List.getD (bytesOf x0) (Int.toNat v18) 0 ≤ 57)) = Bool.false, InR IntKind.i64 (v18 + 1)]) := by kernel_rfl
theorem p36_6 (v18 : Int) (x0 : ByteArray) : Am.runN tab ext36 false 46 [] 2000 [] [] [16, 17, 18] [0] [true, true, true, false, false] (cutAt b36 4) (E36_4 v18 x0) (L36_4 v18 x0) = some (cutAt b36 4, E36_4 (v18 + 1) (x0), L36_4 (v18 + 1) (x0), [Decidable.decide (v18 < (↑(List.length (bytesOf x0)) : Int)) = Bool.true, 0 ≤ v18, v18 < (↑(List.length (bytesOf x0)) : Int), Decidable.decide (List.getD (bytesOf x0) (Int.toNat v18) 0 ≥ 97) = Bool.true, Decidable.decide (List.getD (bytesOf x0) (Int.toNat v18) 0 ≥ 48) = Bool.true, (!Decidable.decide (List.getD (bytesOf x0) (Int.toNat v18) 0 ≤ 122)) = Bool.false, Bool.false = Bool.false, InR IntKind.i64 (v18 + 1)]) := by kernel_rfl
theorem p36_7 (v18 : Int) (x0 : ByteArray) : runF tab ext36 false 46 [] 2000 [] tys36 Tryz.f36.results [true, true, false, true, true, true] (cutAt b36 4) (E36_4 v18 x0) (L36_4 v18 x0) = some ([Dyn.mk Ty.bool Bool.false], [], [Decidable.decide (v18 < (↑(List.length (bytesOf x0)) : Int)) = Bool.true, 0 ≤ v18, v18 < (↑(List.length (bytesOf x0)) : Int), Decidable.decide (List.getD (bytesOf x0) (Int.toNat v18) 0 ≥ 97) = Bool.true, Decidable.decide (List.getD (bytesOf x0) (Int.toNat v18) 0 ≥ 48) = Bool.false, (!Decidable.decide (List.getD (bytesOf x0) (Int.toNat v18) 0 ≤ 122)) = Bool.true, (v18 == 0) = Bool.true, Bool.true = Bool.true]) := by kernel_rfl
theorem p36_8 (v18 : Int) (x0 : ByteArray) : runF tab ext36 false 46 [] 2000 [] tys36 Tryz.f36.results [true, true, false, true, false, true] (cutAt b36 4) (E36_4 v18 x0) (L36_4 v18 x0) = some ([Dyn.mk Ty.bool Bool.false], [], [Decidable.decide (v18 < (↑(List.length (bytesOf x0)) : Int)) = Bool.true, 0 ≤ v18, v18 < (↑(List.length (bytesOf x0)) : Int), Decidable.decide (List.getD (bytesOf x0) (Int.toNat v18) 0 ≥ 97) = Bool.true, Decidable.decide (List.getD (bytesOf x0) (Int.toNat v18) 0 ≥ 48) = Bool.false, (!Decidable.decide (List.getD (bytesOf x0) (Int.toNat v18) 0 ≤ 122)) = Bool.true, (v18 == 0) = Bool.false, Bool.true = Bool.true]) := by kernel_rfl
theorem p36_9 (v18 : Int) (x0 : ByteArray) : Am.runN tab ext36 false 46 [] 2000 [] [] [16, 17, 18] [0] [true, true, false, false, false] (cutAt b36 4) (E36_4 v18 x0) (L36_4 v18 x0) = some (cutAt b36 4, E36_4 (v18 + 1) (x0), L36_4 (v18 + 1) (x0), [Decidable.decide (v18 < (↑(List.length (bytesOf x0)) : Int)) = Bool.true, 0 ≤ v18, v18 < (↑(List.length (bytesOf x0)) : Int), Decidable.decide (List.getD (bytesOf x0) (Int.toNat v18) 0 ≥ 97) = Bool.true, Decidable.decide (List.getD (bytesOf x0) (Int.toNat v18) 0 ≥ 48) = Bool.false, (!Decidable.decide (List.getD (bytesOf x0) (Int.toNat v18) 0 ≤ 122)) = Bool.false, Bool.false = Bool.false, InR IntKind.i64 (v18 + 1)]) := by kernel_rfl
theorem p36_10 (v18 : Int) (x0 : ByteArray) : runF tab ext36 false 46 [] 2000 [] tys36 Tryz.f36.results [true, false, true, true, true, true] (cutAt b36 4) (E36_4 v18 x0) (L36_4 v18 x0) = some ([Dyn.mk Ty.bool Bool.false], [], [Decidable.decide (v18 < (↑(List.length (bytesOf x0)) : Int)) = Bool.true, 0 ≤ v18, v18 < (↑(List.length (bytesOf x0)) : Int), Decidable.decide (List.getD (bytesOf x0) (Int.toNat v18) 0 ≥ 97) = Bool.false, Decidable.decide (List.getD (bytesOf x0) (Int.toNat v18) 0 ≥ 48) = Bool.true, Bool.true = Bool.true, (v18 == 0) = Bool.true, Bool.true = Bool.true]) := by kernel_rfl
theorem p36_11 (v18 : Int) (x0 : ByteArray) : runF tab ext36 false 46 [] 2000 [] tys36 Tryz.f36.results [true, false, true, true, false, true] (cutAt b36 4) (E36_4 v18 x0) (L36_4 v18 x0) = some ([Dyn.mk Ty.bool Bool.false], [], [Decidable.decide (v18 < (↑(List.length (bytesOf x0)) : Int)) = Bool.true, 0 ≤ v18, v18 < (↑(List.length (bytesOf x0)) : Int), Decidable.decide (List.getD (bytesOf x0) (Int.toNat v18) 0 ≥ 97) = Bool.false, Decidable.decide (List.getD (bytesOf x0) (Int.toNat v18) 0 ≥ 48) = Bool.true, Bool.true = Bool.true, (v18 == 0) = Bool.false, (!Decidable.decide (List.getD (bytesOf x0) (Int.toNat v18) 0 ≤ 57)) = Bool.true]) := by kernel_rfl
theorem p36_12 (v18 : Int) (x0 : ByteArray) : Am.runN tab ext36 false 46 [] 2000 [] [] [16, 17, 18] [0] [true, false, true, true, false, false] (cutAt b36 4) (E36_4 v18 x0) (L36_4 v18 x0) = some (cutAt b36 4, E36_4 (v18 + 1) (x0), L36_4 (v18 + 1) (x0), [Decidable.decide (v18 < (↑(List.length (bytesOf x0)) : Int)) = Bool.true, 0 ≤ v18, v18 < (↑(List.length (bytesOf x0)) : Int), Decidable.decide (List.getD (bytesOf x0) (Int.toNat v18) 0 ≥ 97) = Bool.false, Decidable.decide (List.getD (bytesOf x0) (Int.toNat v18) 0 ≥ 48) = Bool.true, Bool.true = Bool.true, (v18 == 0) = Bool.false, (!Decidable.decide (List.getD (bytesOf x0) (Int.toNat v18) 0 ≤ 57)) = Bool.false, InR IntKind.i64 (v18 + 1)]) := by kernel_rfl
theorem p36_13 (v18 : Int) (x0 : ByteArray) : runF tab ext36 false 46 [] 2000 [] tys36 Tryz.f36.results [true, false, false, true, true, true] (cutAt b36 4) (E36_4 v18 x0) (L36_4 v18 x0) = some ([Dyn.mk Ty.bool Bool.false], [], [Decidable.decide (v18 < (↑(List.length (bytesOf x0)) : Int)) = Bool.true, 0 ≤ v18, v18 < (↑(List.length (bytesOf x0)) : Int), Decidable.decide (List.getD (bytesOf x0) (Int.toNat v18) 0 ≥ 97) = Bool.false, Decidable.decide (List.getD (bytesOf x0) (Int.toNat v18) 0 ≥ 48) = Bool.false, Bool.true = Bool.true, (v18 == 0) = Bool.true, Bool.true = Bool.true]) := by kernel_rfl
theorem p36_14 (v18 : Int) (x0 : ByteArray) : runF tab ext36 false 46 [] 2000 [] tys36 Tryz.f36.results [true, false, false, true, false, true] (cutAt b36 4) (E36_4 v18 x0) (L36_4 v18 x0) = some ([Dyn.mk Ty.bool Bool.false], [], [Decidable.decide (v18 < (↑(List.length (bytesOf x0)) : Int)) = Bool.true, 0 ≤ v18, v18 < (↑(List.length (bytesOf x0)) : Int), Decidable.decide (List.getD (bytesOf x0) (Int.toNat v18) 0 ≥ 97) = Bool.false, Decidable.decide (List.getD (bytesOf x0) (Int.toNat v18) 0 ≥ 48) = Bool.false, Bool.true = Bool.true, (v18 == 0) = Bool.false, Bool.true = Bool.true]) := by kernel_rfl
theorem p36_15 (v18 : Int) (x0 : ByteArray) : runF tab ext36 false 46 [] 2000 [] tys36 Tryz.f36.results [false] (cutAt b36 4) (E36_4 v18 x0) (L36_4 v18 x0) = some ([Dyn.mk Ty.bool Bool.true], [], [Decidable.decide (v18 < (↑(List.length (bytesOf x0)) : Int)) = Bool.false]) := by kernel_rfl
theorem snd36 : ∀ n, (∀ (x0 : ByteArray) ds, R36 n x0 ds → ∀ w0 O q, AtV Tryz.prog 36 (PostR ds [] [] q w0 O) 46 w0 O q [] [.code b36] (entE 0 0 sig36 (x0, ())) (entL sig36 (x0, ()))) ∧ (∀ (v18 : Int) (x0 : ByteArray) ds, R36_4 n v18 x0 ds → ∀ w0 O q, AtV Tryz.prog 36 (PostR ds [] [] q w0 O) 46 w0 O q [] (cutAt b36 4) (E36_4 v18 x0) (L36_4 v18 x0)) := by
  intro n
  induction n with
  | zero => exact ⟨fun _ _ h => by simp only [R36] at h, fun _ _ _ h => by simp only [R36_4] at h⟩
  | succ n ih =>
  obtain ⟨ih, ih4⟩ := ih
  refine ⟨?_, ?_⟩
  · intro x0 ds h w0 O q
    rw [R36] at h
    by_cases b0 : (Decidable.decide ((↑(ByteArray.size x0) : Int) < 1)) = true
    · rw [if_pos b0] at h
      subst h
      exact AtV.fin Tryz.func36 tabOk ext36Ok mixed (p36_0 x0) ⟨b0, rfl, trivial⟩
    · rw [if_neg b0] at h
      replace b0 := Bool.eq_false_iff.2 b0
      by_cases b1 : (Decidable.decide ((↑(ByteArray.size x0) : Int) > 10)) = true
      · rw [if_pos b1] at h
        subst h
        exact AtV.fin Tryz.func36 tabOk ext36Ok mixed (p36_1 x0) ⟨b0, b1, trivial⟩
      · rw [if_neg b1] at h
        replace b1 := Bool.eq_false_iff.2 b1
        exact AtV.runN tabOk ext36Ok mixed (p36_2 x0) ⟨b0, b1, trivial⟩ (ih4 _ _ _ h w0 O q)

  · intro v18 x0 ds h w0 O q
    rw [R36_4] at h
    by_cases b0 : (Decidable.decide (v18 < (↑(List.length (bytesOf x0)) : Int))) = true
    · rw [if_pos b0] at h
      obtain ⟨s0, s1, h⟩ := h
      by_cases b1 : (Decidable.decide (List.getD (bytesOf x0) (Int.toNat v18) 0 ≥ 97)) = true
      · rw [if_pos b1] at h
        by_cases b2 : (Decidable.decide (List.getD (bytesOf x0) (Int.toNat v18) 0 ≥ 48)) = true
        · rw [if_pos b2] at h
          by_cases b3 : (!Decidable.decide (List.getD (bytesOf x0) (Int.toNat v18) 0 ≤ 122)) = true
          · rw [if_pos b3] at h
            by_cases b4 : (v18 == 0) = true
            · rw [if_pos b4] at h
              subst h
              exact AtV.fin Tryz.func36 tabOk ext36Ok mixed (p36_3 v18 x0) ⟨b0, s0, s1, b1, b2, b3, b4, rfl, trivial⟩
            · rw [if_neg b4] at h
              replace b4 := Bool.eq_false_iff.2 b4
              by_cases b5 : (!Decidable.decide (List.getD (bytesOf x0) (Int.toNat v18) 0 ≤ 57)) = true
              · rw [if_pos b5] at h
                subst h
                exact AtV.fin Tryz.func36 tabOk ext36Ok mixed (p36_4 v18 x0) ⟨b0, s0, s1, b1, b2, b3, b4, b5, trivial⟩
              · rw [if_neg b5] at h
                replace b5 := Bool.eq_false_iff.2 b5
                obtain ⟨s2, h⟩ := h
                exact AtV.runN tabOk ext36Ok mixed (p36_5 v18 x0) ⟨b0, s0, s1, b1, b2, b3, b4, b5, s2, trivial⟩ (ih4 _ _ _ h w0 O q)
          · rw [if_neg b3] at h
            replace b3 := Bool.eq_false_iff.2 b3
            obtain ⟨s2, h⟩ := h
            exact AtV.runN tabOk ext36Ok mixed (p36_6 v18 x0) ⟨b0, s0, s1, b1, b2, b3, rfl, s2, trivial⟩ (ih4 _ _ _ h w0 O q)
        · rw [if_neg b2] at h
          replace b2 := Bool.eq_false_iff.2 b2
          by_cases b3 : (!Decidable.decide (List.getD (bytesOf x0) (Int.toNat v18) 0 ≤ 122)) = true
          · rw [if_pos b3] at h
            by_cases b4 : (v18 == 0) = true
            · rw [if_pos b4] at h
              subst h
              exact AtV.fin Tryz.func36 tabOk ext36Ok mixed (p36_7 v18 x0) ⟨b0, s0, s1, b1, b2, b3, b4, rfl, trivial⟩
            · rw [if_neg b4] at h
              replace b4 := Bool.eq_false_iff.2 b4
              subst h
              exact AtV.fin Tryz.func36 tabOk ext36Ok mixed (p36_8 v18 x0) ⟨b0, s0, s1, b1, b2, b3, b4, rfl, trivial⟩
          · rw [if_neg b3] at h
            replace b3 := Bool.eq_false_iff.2 b3
            obtain ⟨s2, h⟩ := h
            exact AtV.runN tabOk ext36Ok mixed (p36_9 v18 x0) ⟨b0, s0, s1, b1, b2, b3, rfl, s2, trivial⟩ (ih4 _ _ _ h w0 O q)
      · rw [if_neg b1] at h
        replace b1 := Bool.eq_false_iff.2 b1
        by_cases b2 : (Decidable.decide (List.getD (bytesOf x0) (Int.toNat v18) 0 ≥ 48)) = true
        · rw [if_pos b2] at h
          by_cases b3 : (v18 == 0) = true
          · rw [if_pos b3] at h
            subst h
            exact AtV.fin Tryz.func36 tabOk ext36Ok mixed (p36_10 v18 x0) ⟨b0, s0, s1, b1, b2, rfl, b3, rfl, trivial⟩
          · rw [if_neg b3] at h
            replace b3 := Bool.eq_false_iff.2 b3
            by_cases b4 : (!Decidable.decide (List.getD (bytesOf x0) (Int.toNat v18) 0 ≤ 57)) = true
            · rw [if_pos b4] at h
              subst h
              exact AtV.fin Tryz.func36 tabOk ext36Ok mixed (p36_11 v18 x0) ⟨b0, s0, s1, b1, b2, rfl, b3, b4, trivial⟩
            · rw [if_neg b4] at h
              replace b4 := Bool.eq_false_iff.2 b4
              obtain ⟨s2, h⟩ := h
              exact AtV.runN tabOk ext36Ok mixed (p36_12 v18 x0) ⟨b0, s0, s1, b1, b2, rfl, b3, b4, s2, trivial⟩ (ih4 _ _ _ h w0 O q)
        · rw [if_neg b2] at h
          replace b2 := Bool.eq_false_iff.2 b2
          by_cases b3 : (v18 == 0) = true
          · rw [if_pos b3] at h
            subst h
            exact AtV.fin Tryz.func36 tabOk ext36Ok mixed (p36_13 v18 x0) ⟨b0, s0, s1, b1, b2, rfl, b3, rfl, trivial⟩
          · rw [if_neg b3] at h
            replace b3 := Bool.eq_false_iff.2 b3
            subst h
            exact AtV.fin Tryz.func36 tabOk ext36Ok mixed (p36_14 v18 x0) ⟨b0, s0, s1, b1, b2, rfl, b3, rfl, trivial⟩
    · rw [if_neg b0] at h
      replace b0 := Bool.eq_false_iff.2 b0
      subst h
      exact AtV.fin Tryz.func36 tabOk ext36Ok mixed (p36_15 v18 x0) ⟨b0, trivial⟩



/-- A byte of a name, at its place. -/
def ok36 (i : Nat) (b : Int) : Bool := (decide (97 ≤ b) && decide (b ≤ 122)) || (!(i == 0) && (decide (48 ≤ b) && decide (b ≤ 57)))
def g36_0 (x0 : ByteArray) : Bool := decide (1 ≤ x0.size) && decide (x0.size ≤ 10) && allI ok36 0 (bytesOf x0)
def P36 (x0 : ByteArray) : Prop := True

theorem step36 (n i : Nat) (x0 : ByteArray) (hw : Wf .str x0) (hi : i < (bytesOf x0).length) (ds : List Dyn) :
    R36_4 (n + 1) (i : Int) x0 ds ↔ (if ok36 i ((bytesOf x0).getD i 0) = true then R36_4 n ((i : Int) + 1) x0 ds else ds = [⟨.bool, false⟩]) := by
  have hu := inR_up (xs := bytesOf x0) (by rw [bytesOf_length]; exact hw) hi
  rw [R36_4, if_pos (by simp; omega)]
  simp only [Int.toNat_natCast]
  have hb : (0 : Int) ≤ (i : Int) ∧ (i : Int) < ((bytesOf x0).length : Int) := by omega
  have hz : ((i : Int) == 0) = (i == 0) := by
    cases i with
    | zero => rfl
    | succ k => simp; omega
  simp only [hz, ok36, hu, true_and, hb.1, hb.2, ge_iff_le]
  by_cases h1 : (97 : Int) ≤ (bytesOf x0).getD i 0 <;> by_cases h2 : (bytesOf x0).getD i 0 ≤ 122 <;> by_cases h3 : (48 : Int) ≤ (bytesOf x0).getD i 0 <;> by_cases h4 : (bytesOf x0).getD i 0 ≤ 57 <;> rcases Bool.eq_false_or_eq_true (i == 0) with e0 | e0 <;> first | (exfalso; omega) | simp only [h1, h2, h3, h4, e0, decide_true, decide_false, Bool.not_true, Bool.not_false, Bool.true_and, Bool.false_and, Bool.and_true, Bool.and_false, Bool.true_or, Bool.or_true, Bool.or_false, Bool.false_or, if_true, if_false, Bool.false_eq_true]

theorem top36 (x0 : ByteArray) (hw : Wf .str x0) : R36 (x0.size + 1 + 1) x0 [⟨.bool, g36_0 x0⟩] := by
  have hl := bytesOf_length x0
  rw [R36]
  by_cases h0 : (x0.size : Int) < 1
  · rw [if_pos (by simpa using h0)]
    have : ¬ 1 ≤ x0.size := by omega
    simp [g36_0, this]
  · rw [if_neg (by simpa using h0)]
    by_cases h1 : (x0.size : Int) > 10
    · rw [if_pos (by simpa using h1)]
      have : ¬ x0.size ≤ 10 := by omega
      simp [g36_0, this]
    · rw [if_neg (by simpa using h1)]
      have key := loop_testI (bytesOf x0) 0 ok36 [(⟨.bool, false⟩ : Dyn)] [⟨.bool, true⟩] (fun n i ds => R36_4 n i x0 ds) (fun n => ?_) (fun n i hi hok ds hr => ?_) (fun n i hi hok => ?_)
      · rw [hl] at key
        have e : g36_0 x0 = allI ok36 0 (bytesOf x0) := by
          have a : 1 ≤ x0.size := by omega
          have b : x0.size ≤ 10 := by omega
          simp [g36_0, a, b]
        rw [e]
        cases h : allI ok36 0 (bytesOf x0) with
        | true => rw [if_pos h] at key; exact key
        | false => rw [if_neg (by rw [h]; simp)] at key; exact key
      · show R36_4 (n + 1) ((bytesOf x0).length : Int) x0 _
        rw [R36_4, if_neg (by simp)]
      · exact (step36 n i x0 hw hi ds).2 (by rw [if_pos hok]; exact hr)
      · exact (step36 n i x0 hw hi _).2 (by rw [if_neg (by rw [hok]; simp)])

def S36 : Am.Spec := { sig := sig36, pre := fun ⟨x0, _⟩ => P36 x0, res := fun ⟨x0, _⟩ => [⟨Ty.bool, g36_0 x0⟩] }
theorem con36 : Contract Tryz.prog 36 S36 := contract_of Tryz.func36 hb36 (Nat.le_of_ble_eq_true (by kernel_rfl)) (fun ⟨x0, _⟩ h hwf w0 O q =>
  (snd36 _).1 x0 _ (top36 x0 hwf.1) w0 O q)

end Go.Proofs.YteojabdeehagnaaGreatDoor

/- The contracts of the library that this program uses, laid at this program. Written by a tool of the kit. -/
set_option linter.unusedVariables false
set_option maxRecDepth 100000
namespace Go.Proofs
open Go.Shelf
def Tryz.lays169_ren : Go.Shelf.Ren := ⟨fun | 169 => 67 | n => n, fun | 70 => 89 | 9 => 9 | 0 => 0 | 72 => 91 | 37 => 62 | 127 => 101 | 3 => 3 | 5 => 5 | n => n, fun | n => n⟩
theorem Tryz.lays169 : Go.Proofs.Lays.n169 Tryz.prog Tryz.lays169_ren := {
  mixed := by kernel_rfl
  f169 := Tryz.func67.trans (congrArg some (by kernel_rfl))
  t0 := Tryz.underlying0
  a0 := Tryz.isAgg0
  z0 := Tryz.sizeOf0
  v0 := Tryz.zeroValue0
  t3 := Tryz.underlying3
  a3 := Tryz.isAgg3
  z3 := Tryz.sizeOf3
  v3 := Tryz.zeroValue3
  t9 := Tryz.underlying9
  a9 := Tryz.isAgg9
  z9 := Tryz.sizeOf9
  v9 := Tryz.zeroValue9
  t37 := Tryz.underlying62
  a37 := Tryz.isAgg62
  z37 := Tryz.sizeOf62
  v37 := Tryz.zeroValue62
  t70 := Tryz.underlying89
  a70 := Tryz.isAgg89
  z70 := Tryz.sizeOf89
  v70 := Tryz.zeroValue89
  t72 := Tryz.underlying91
  a72 := Tryz.isAgg91
  z72 := Tryz.sizeOf91
  v72 := Tryz.zeroValue91
  t127 := Tryz.underlying101
  a127 := Tryz.isAgg101
  z127 := Tryz.sizeOf101
  v127 := Tryz.zeroValue101 }
theorem Tryz.Builder_Extra_169 : Builder.Extra Tryz.prog Tryz.lays169_ren := {
  sizeBuilder := by kernel_rfl
  liesBuilder := by kernel_rfl
  t5 := Tryz.underlying5
  a5 := Tryz.isAgg5
  z5 := Tryz.sizeOf5
  v5 := Tryz.zeroValue5
  infoByte := by kernel_rfl
  cellsByte := by kernel_rfl
  sizeByte := by kernel_rfl
  neB5 := by decide }
def Tryz.lays156_ren : Go.Shelf.Ren := ⟨fun | 156 => 58 | 165 => 65 | 166 => 66 | 169 => 67 | 240 => 78 | 241 => 79 | 276 => 95 | 277 => 96 | n => n, fun | 31 => 50 | 9 => 9 | 3 => 3 | 4 => 4 | 0 => 0 | 20 => 20 | 72 => 91 | 76 => 93 | 70 => 89 | 37 => 62 | 75 => 84 | 127 => 101 | 164 => 120 | 5 => 5 | 80 => 95 | n => n, fun | n => n⟩
theorem Tryz.lays156 : Go.Proofs.Lays.n156 Tryz.prog Tryz.lays156_ren := {
  mixed := by kernel_rfl
  f156 := Tryz.func58.trans (congrArg some (by kernel_rfl))
  f165 := Tryz.func65.trans (congrArg some (by kernel_rfl))
  f166 := Tryz.func66.trans (congrArg some (by kernel_rfl))
  f169 := Tryz.func67.trans (congrArg some (by kernel_rfl))
  f240 := Tryz.func78.trans (congrArg some (by kernel_rfl))
  f241 := Tryz.func79.trans (congrArg some (by kernel_rfl))
  f276 := Tryz.func95.trans (congrArg some (by kernel_rfl))
  f277 := Tryz.func96.trans (congrArg some (by kernel_rfl))
  t0 := Tryz.underlying0
  a0 := Tryz.isAgg0
  z0 := Tryz.sizeOf0
  v0 := Tryz.zeroValue0
  t3 := Tryz.underlying3
  a3 := Tryz.isAgg3
  z3 := Tryz.sizeOf3
  v3 := Tryz.zeroValue3
  t4 := Tryz.underlying4
  a4 := Tryz.isAgg4
  z4 := Tryz.sizeOf4
  v4 := Tryz.zeroValue4
  t9 := Tryz.underlying9
  a9 := Tryz.isAgg9
  z9 := Tryz.sizeOf9
  v9 := Tryz.zeroValue9
  t20 := Tryz.underlying20
  a20 := Tryz.isAgg20
  z20 := Tryz.sizeOf20
  v20 := Tryz.zeroValue20
  t31 := Tryz.underlying50
  a31 := Tryz.isAgg50
  z31 := Tryz.sizeOf50
  v31 := Tryz.zeroValue50
  t37 := Tryz.underlying62
  a37 := Tryz.isAgg62
  z37 := Tryz.sizeOf62
  v37 := Tryz.zeroValue62
  t70 := Tryz.underlying89
  a70 := Tryz.isAgg89
  z70 := Tryz.sizeOf89
  v70 := Tryz.zeroValue89
  t72 := Tryz.underlying91
  a72 := Tryz.isAgg91
  z72 := Tryz.sizeOf91
  v72 := Tryz.zeroValue91
  t75 := Tryz.underlying84
  a75 := Tryz.isAgg84
  z75 := Tryz.sizeOf84
  v75 := Tryz.zeroValue84
  t76 := Tryz.underlying93
  a76 := Tryz.isAgg93
  z76 := Tryz.sizeOf93
  v76 := Tryz.zeroValue93
  t127 := Tryz.underlying101
  a127 := Tryz.isAgg101
  z127 := Tryz.sizeOf101
  v127 := Tryz.zeroValue101
  t164 := Tryz.underlying120
  a164 := Tryz.isAgg120
  z164 := Tryz.sizeOf120
  v164 := Tryz.zeroValue120 }
theorem Tryz.Builder_Extra_156 : Builder.Extra Tryz.prog Tryz.lays156_ren := {
  sizeBuilder := by kernel_rfl
  liesBuilder := by kernel_rfl
  t5 := Tryz.underlying5
  a5 := Tryz.isAgg5
  z5 := Tryz.sizeOf5
  v5 := Tryz.zeroValue5
  infoByte := by kernel_rfl
  cellsByte := by kernel_rfl
  sizeByte := by kernel_rfl
  neB5 := by decide }
open Go.RowKit in theorem Tryz.strings_Join_none (a : Option Addr) (c : Nat) (sep : ByteArray) (w : World) :
    Calls Tryz.prog 58 #[.slice a 0 c, .string sep] w fun e w' => e = .returned (.string ⟨#[]⟩) ∧ w' = w := Any.strings_Join_none Tryz.lays156 Tryz.Builder_Extra_156 a c sep w
open Go.RowKit in theorem Tryz.strings_Join (bk o c : Nat) (xs : List ByteArray) (sep : ByteArray) (w : World) (hcells : ∀ (j : Nat) x, xs[j]? = some x → w.cell? ⟨bk, o + j, none⟩ = some (.string x)) (hbk : bk < w.heap.size) (hN : xs.length ≤ 140737488355328) (hcap : xs.length ≤ c) (hlen : (Lib.join (xs.map (·.data.toList)) sep.data.toList).length ≤ 140737488355328) :
    Calls Tryz.prog 58 #[.slice (some ⟨bk, o, none⟩) xs.length c, .string sep] w fun e w' => e = .returned (.string ⟨(Lib.join (xs.map (·.data.toList)) sep.data.toList).toArray⟩) ∧ Below w.heap.size w w' := Any.strings_Join Tryz.lays156 Tryz.Builder_Extra_156 bk o c xs sep w hcells hbk hN hcap hlen
open Go.RowKit in theorem Tryz.Builder_String_any_k (B b : Nat) (l : List UInt8) (w : World) (h : Lib.IsBuilderF 91 5 B b (Lib.byteCells l) w) (hBw : B ≤ w.heap.size) :
    Calls Tryz.prog 67 #[.pointer (some ⟨b, 0, none⟩)] w fun e w' => e = .returned (.string ⟨l.toArray⟩) ∧ (Lib.IsBuilderF 91 5 B b (Lib.byteCells l) w' ∧ Below B w w' ∧ Lib.OthersKept 5 (some b) w w') := Any.Builder_String_any_k Tryz.lays169 Tryz.Builder_Extra_169 B b l w h hBw
def Tryz.laysM173_ren : Go.Shelf.Ren := ⟨fun | 173 => 64 | 246 => 77 | 283 => 91 | 284 => 92 | 285 => 93 | 286 => 94 | 129 => 104 | 317 => 103 | 318 => 105 | 319 => 106 | 320 => 107 | 337 => 109 | 338 => 110 | n => n, fun | 2 => 2 | 3 => 3 | 9 => 9 | 4 => 4 | 171 => 115 | 0 => 0 | 53 => 109 | 37 => 62 | 5 => 5 | 173 => 118 | 212 => 129 | 51 => 102 | 20 => 20 | 213 => 130 | 46 => 98 | 232 => 141 | 233 => 142 | n => n, fun | 17 => 3 | 18 => 6 | 19 => 7 | n => n⟩
theorem Tryz.laysM173 : Go.Proofs.LaysM.n173 Tryz.prog Tryz.laysM173_ren := {
  mixed := by kernel_rfl
  f129 := Tryz.func104.trans (congrArg some (by kernel_rfl))
  f173 := Tryz.func64.trans (congrArg some (by kernel_rfl))
  f246 := Tryz.func77.trans (congrArg some (by kernel_rfl))
  f283 := Tryz.func91.trans (congrArg some (by kernel_rfl))
  f284 := Tryz.func92.trans (congrArg some (by kernel_rfl))
  f285 := Tryz.func93.trans (congrArg some (by kernel_rfl))
  f286 := Tryz.func94.trans (congrArg some (by kernel_rfl))
  f317 := Tryz.func103.trans (congrArg some (by kernel_rfl))
  f318 := Tryz.func105.trans (congrArg some (by kernel_rfl))
  f319 := Tryz.func106.trans (congrArg some (by kernel_rfl))
  f320 := Tryz.func107.trans (congrArg some (by kernel_rfl))
  f337 := Tryz.func109.trans (congrArg some (by kernel_rfl))
  f338 := Tryz.func110.trans (congrArg some (by kernel_rfl))
  t0 := Tryz.underlying0
  a0 := Tryz.isAgg0
  z0 := Tryz.sizeOf0
  v0 := Tryz.zeroValue0
  t2 := Tryz.underlying2
  a2 := Tryz.isAgg2
  z2 := Tryz.sizeOf2
  v2 := Tryz.zeroValue2
  t3 := Tryz.underlying3
  a3 := Tryz.isAgg3
  z3 := Tryz.sizeOf3
  v3 := Tryz.zeroValue3
  t4 := Tryz.underlying4
  a4 := Tryz.isAgg4
  z4 := Tryz.sizeOf4
  v4 := Tryz.zeroValue4
  t5 := Tryz.underlying5
  a5 := Tryz.isAgg5
  z5 := Tryz.sizeOf5
  v5 := Tryz.zeroValue5
  t9 := Tryz.underlying9
  a9 := Tryz.isAgg9
  z9 := Tryz.sizeOf9
  v9 := Tryz.zeroValue9
  t20 := Tryz.underlying20
  a20 := Tryz.isAgg20
  z20 := Tryz.sizeOf20
  v20 := Tryz.zeroValue20
  t37 := Tryz.underlying62
  a37 := Tryz.isAgg62
  z37 := Tryz.sizeOf62
  v37 := Tryz.zeroValue62
  t46 := Tryz.underlying98
  a46 := Tryz.isAgg98
  z46 := Tryz.sizeOf98
  v46 := Tryz.zeroValue98
  t51 := Tryz.underlying102
  a51 := Tryz.isAgg102
  z51 := Tryz.sizeOf102
  v51 := Tryz.zeroValue102
  t53 := Tryz.underlying109
  a53 := Tryz.isAgg109
  z53 := Tryz.sizeOf109
  v53 := Tryz.zeroValue109
  t171 := Tryz.underlying115
  a171 := Tryz.isAgg115
  z171 := Tryz.sizeOf115
  v171 := Tryz.zeroValue115
  t173 := Tryz.underlying118
  a173 := Tryz.isAgg118
  z173 := Tryz.sizeOf118
  v173 := Tryz.zeroValue118
  t212 := Tryz.underlying129
  a212 := Tryz.isAgg129
  z212 := Tryz.sizeOf129
  v212 := Tryz.zeroValue129
  t213 := Tryz.underlying130
  a213 := Tryz.isAgg130
  z213 := Tryz.sizeOf130
  t232 := Tryz.underlying141
  a232 := Tryz.isAgg141
  z232 := Tryz.sizeOf141
  v232 := Tryz.zeroValue141
  t233 := Tryz.underlying142
  a233 := Tryz.isAgg142
  z233 := Tryz.sizeOf142
  v233 := Tryz.zeroValue142
  g17 := by kernel_rfl
  g18 := by kernel_rfl
  g19 := by kernel_rfl
  i0 := by kernel_rfl
  i2 := by kernel_rfl
  i3 := by kernel_rfl
  i4 := by kernel_rfl
  i5 := by kernel_rfl
  i9 := by kernel_rfl
  i20 := by kernel_rfl
  i37 := by kernel_rfl
  i46 := by kernel_rfl
  i51 := by kernel_rfl
  i53 := by kernel_rfl
  i171 := by kernel_rfl
  i173 := by kernel_rfl
  i212 := by kernel_rfl
  i232 := by kernel_rfl
  i233 := by kernel_rfl
  m17 := by kernel_rfl
  m18 := by kernel_rfl
  m19 := by kernel_rfl }
open Go.RowKit Go.Sort Go.Lib in theorem Tryz.strconv_FormatInt_10 (n : Int) (h0 : -9223372036854775808 ≤ n) (h1 : n ≤ 9223372036854775807) (w : World) (htab : Lib.TabIs Tryz.prog w "internal/strconv.uint64pow10" .u64 Lib.pow10Tab) :
    Calls Tryz.prog 64 #[.int .i64 n, .int .i64 10] w fun e w' => e = .returned (.string ⟨(Lib.itoa n).toArray⟩) ∧ ∃ k os, w' = grow (w.drewN k) os := Any.strconv_FormatInt_10 Tryz.laysM173 n h0 h1 w htab
def Tryz.laysC174_ren : Go.Shelf.Ren := ⟨fun | 174 => 62 | 247 => 75 | 245 => 76 | 287 => 86 | 279 => 87 | 280 => 88 | 281 => 89 | 282 => 90 | 321 => 98 | 322 => 99 | 316 => 100 | 171 => 102 | 205 => 101 | 243 => 108 | 246 => 77 | 283 => 91 | 284 => 92 | 285 => 93 | 286 => 94 | 129 => 104 | 317 => 103 | 318 => 105 | 319 => 106 | 320 => 107 | 337 => 109 | 338 => 110 | n => n, fun | 9 => 9 | 3 => 3 | 2 => 2 | 75 => 84 | 85 => 85 | 4 => 4 | 167 => 108 | 5 => 5 | 53 => 109 | 175 => 110 | 46 => 98 | 168 => 112 | 37 => 62 | 0 => 0 | 210 => 126 | 21 => 21 | 127 => 101 | 145 => 139 | 143 => 137 | 171 => 115 | 173 => 118 | 212 => 129 | 51 => 102 | 20 => 20 | 213 => 130 | 232 => 141 | 233 => 142 | 80 => 95 | n => n, fun | 15 => 1 | 16 => 2 | 17 => 3 | 18 => 6 | 19 => 7 | n => n⟩
theorem Tryz.laysC174 : Go.Proofs.LaysC.n174 Tryz.prog Tryz.laysC174_ren := {
  mixed := by kernel_rfl
  f129 := Tryz.func104.trans (congrArg some (by kernel_rfl))
  f171 := Tryz.func102.trans (congrArg some (by kernel_rfl))
  f174 := Tryz.func62.trans (congrArg some (by kernel_rfl))
  f205 := Tryz.func101.trans (congrArg some (by kernel_rfl))
  f243 := Tryz.func108.trans (congrArg some (by kernel_rfl))
  f245 := Tryz.func76.trans (congrArg some (by kernel_rfl))
  f246 := Tryz.func77.trans (congrArg some (by kernel_rfl))
  f247 := Tryz.func75.trans (congrArg some (by kernel_rfl))
  f279 := Tryz.func87.trans (congrArg some (by kernel_rfl))
  f280 := Tryz.func88.trans (congrArg some (by kernel_rfl))
  f281 := Tryz.func89.trans (congrArg some (by kernel_rfl))
  f282 := Tryz.func90.trans (congrArg some (by kernel_rfl))
  f283 := Tryz.func91.trans (congrArg some (by kernel_rfl))
  f284 := Tryz.func92.trans (congrArg some (by kernel_rfl))
  f285 := Tryz.func93.trans (congrArg some (by kernel_rfl))
  f286 := Tryz.func94.trans (congrArg some (by kernel_rfl))
  f287 := Tryz.func86.trans (congrArg some (by kernel_rfl))
  f316 := Tryz.func100.trans (congrArg some (by kernel_rfl))
  f317 := Tryz.func103.trans (congrArg some (by kernel_rfl))
  f318 := Tryz.func105.trans (congrArg some (by kernel_rfl))
  f319 := Tryz.func106.trans (congrArg some (by kernel_rfl))
  f320 := Tryz.func107.trans (congrArg some (by kernel_rfl))
  f321 := Tryz.func98.trans (congrArg some (by kernel_rfl))
  f322 := Tryz.func99.trans (congrArg some (by kernel_rfl))
  f337 := Tryz.func109.trans (congrArg some (by kernel_rfl))
  f338 := Tryz.func110.trans (congrArg some (by kernel_rfl))
  t0 := Tryz.underlying0
  a0 := Tryz.isAgg0
  z0 := Tryz.sizeOf0
  v0 := Tryz.zeroValue0
  t2 := Tryz.underlying2
  a2 := Tryz.isAgg2
  z2 := Tryz.sizeOf2
  v2 := Tryz.zeroValue2
  t3 := Tryz.underlying3
  a3 := Tryz.isAgg3
  z3 := Tryz.sizeOf3
  v3 := Tryz.zeroValue3
  t4 := Tryz.underlying4
  a4 := Tryz.isAgg4
  z4 := Tryz.sizeOf4
  v4 := Tryz.zeroValue4
  t5 := Tryz.underlying5
  a5 := Tryz.isAgg5
  z5 := Tryz.sizeOf5
  v5 := Tryz.zeroValue5
  t9 := Tryz.underlying9
  a9 := Tryz.isAgg9
  z9 := Tryz.sizeOf9
  v9 := Tryz.zeroValue9
  t20 := Tryz.underlying20
  a20 := Tryz.isAgg20
  z20 := Tryz.sizeOf20
  v20 := Tryz.zeroValue20
  t21 := Tryz.underlying21
  a21 := Tryz.isAgg21
  z21 := Tryz.sizeOf21
  v21 := Tryz.zeroValue21
  t37 := Tryz.underlying62
  a37 := Tryz.isAgg62
  z37 := Tryz.sizeOf62
  v37 := Tryz.zeroValue62
  t46 := Tryz.underlying98
  a46 := Tryz.isAgg98
  z46 := Tryz.sizeOf98
  v46 := Tryz.zeroValue98
  t51 := Tryz.underlying102
  a51 := Tryz.isAgg102
  z51 := Tryz.sizeOf102
  v51 := Tryz.zeroValue102
  t53 := Tryz.underlying109
  a53 := Tryz.isAgg109
  z53 := Tryz.sizeOf109
  v53 := Tryz.zeroValue109
  t75 := Tryz.underlying84
  a75 := Tryz.isAgg84
  z75 := Tryz.sizeOf84
  v75 := Tryz.zeroValue84
  t85 := Tryz.underlying85
  a85 := Tryz.isAgg85
  z85 := Tryz.sizeOf85
  v85 := Tryz.zeroValue85
  t127 := Tryz.underlying101
  a127 := Tryz.isAgg101
  z127 := Tryz.sizeOf101
  v127 := Tryz.zeroValue101
  t143 := Tryz.underlying137
  a143 := Tryz.isAgg137
  z143 := Tryz.sizeOf137
  v143 := Tryz.zeroValue137
  t145 := Tryz.underlying139
  a145 := Tryz.isAgg139
  z145 := Tryz.sizeOf139
  v145 := Tryz.zeroValue139
  t167 := Tryz.underlying108
  a167 := Tryz.isAgg108
  z167 := Tryz.sizeOf108
  v167 := Tryz.zeroValue108
  t168 := Tryz.underlying112
  a168 := Tryz.isAgg112
  z168 := Tryz.sizeOf112
  v168 := Tryz.zeroValue112
  t171 := Tryz.underlying115
  a171 := Tryz.isAgg115
  z171 := Tryz.sizeOf115
  v171 := Tryz.zeroValue115
  t173 := Tryz.underlying118
  a173 := Tryz.isAgg118
  z173 := Tryz.sizeOf118
  v173 := Tryz.zeroValue118
  t175 := Tryz.underlying110
  a175 := Tryz.isAgg110
  z175 := Tryz.sizeOf110
  v175 := Tryz.zeroValue110
  t210 := Tryz.underlying126
  a210 := Tryz.isAgg126
  z210 := Tryz.sizeOf126
  v210 := Tryz.zeroValue126
  t212 := Tryz.underlying129
  a212 := Tryz.isAgg129
  z212 := Tryz.sizeOf129
  v212 := Tryz.zeroValue129
  t213 := Tryz.underlying130
  a213 := Tryz.isAgg130
  z213 := Tryz.sizeOf130
  t232 := Tryz.underlying141
  a232 := Tryz.isAgg141
  z232 := Tryz.sizeOf141
  v232 := Tryz.zeroValue141
  t233 := Tryz.underlying142
  a233 := Tryz.isAgg142
  z233 := Tryz.sizeOf142
  v233 := Tryz.zeroValue142
  g15 := by kernel_rfl
  g16 := by kernel_rfl
  g17 := by kernel_rfl
  g18 := by kernel_rfl
  g19 := by kernel_rfl
  t80 := Tryz.underlying95
  a80 := Tryz.isAgg95
  z80 := Tryz.sizeOf95
  v80 := Tryz.zeroValue95
  i0 := by kernel_rfl
  i2 := by kernel_rfl
  i3 := by kernel_rfl
  i4 := by kernel_rfl
  i5 := by kernel_rfl
  i9 := by kernel_rfl
  i20 := by kernel_rfl
  i21 := by kernel_rfl
  i37 := by kernel_rfl
  i46 := by kernel_rfl
  i51 := by kernel_rfl
  i53 := by kernel_rfl
  i75 := by kernel_rfl
  i80 := by kernel_rfl
  i85 := by kernel_rfl
  i127 := by kernel_rfl
  i143 := by kernel_rfl
  i145 := by kernel_rfl
  i167 := by kernel_rfl
  i168 := by kernel_rfl
  i171 := by kernel_rfl
  i173 := by kernel_rfl
  i175 := by kernel_rfl
  i210 := by kernel_rfl
  i212 := by kernel_rfl
  i232 := by kernel_rfl
  i233 := by kernel_rfl
  m15 := by kernel_rfl
  m16 := by kernel_rfl
  m17 := by kernel_rfl
  m18 := by kernel_rfl
  m19 := by kernel_rfl
  c0 := by kernel_rfl
  c2 := by kernel_rfl
  c3 := by kernel_rfl
  c4 := by kernel_rfl
  c5 := by kernel_rfl
  c9 := by kernel_rfl
  c20 := by kernel_rfl
  c21 := by kernel_rfl
  c37 := by kernel_rfl
  c46 := by kernel_rfl
  c51 := by kernel_rfl
  c53 := by kernel_rfl
  c75 := by kernel_rfl
  c80 := by kernel_rfl
  c85 := by kernel_rfl
  c127 := by kernel_rfl
  c143 := by kernel_rfl
  c145 := by kernel_rfl
  c167 := by kernel_rfl
  c168 := by kernel_rfl
  c171 := by kernel_rfl
  c173 := by kernel_rfl
  c175 := by kernel_rfl
  c210 := by kernel_rfl
  c212 := by kernel_rfl
  c213 := by kernel_rfl
  c232 := by kernel_rfl
  c233 := by kernel_rfl }
open Go.RowKit in theorem Tryz.strconv_ParseInt_10_at64_ok (s : ByteArray) (hmax : s.size ≤ 9223372036854775806) (v : Int) (h : Lib.parseIntB 64 s.data.toList = .ok v) (w : World) :
    Calls Tryz.prog 62 #[.string s, .int .i64 10, .int .i64 64] w fun e w' => e = .returned (.tuple #[.int .i64 v, .nilIface]) ∧ (w' = w ∨ ∃ t, w' = Lib.bytesWorld w 5 t) := Any.strconv_ParseInt_10_at64_ok Tryz.laysC174 s hmax v h w
open Go.RowKit in theorem Tryz.strconv_ParseInt_10_at64_syntax (s : ByteArray) (hlim : s.size ≤ 281474976710656) (h : Lib.parseIntB 64 s.data.toList = .syntax) (ev : Value) (w : World) (hv : w.cell? ⟨1, 0, none⟩ = some ev) (hev : ev = .nilIface ∨ ∃ te pe, ev = .iface te pe) :
    Calls Tryz.prog 62 #[.string s, .int .i64 10, .int .i64 64] w fun e w' => ∃ N, e = .returned (.tuple #[.int .i64 (0), .iface 112 (.pointer (some ⟨N, 0, none⟩))]) ∧ w.heap.size ≤ N ∧ w'.heap[N]? = some (.cells #[.string ⟨#[80, 97, 114, 115, 101, 73, 110, 116]⟩, .string s, ev] 126 (0, 0)) ∧ Below w.heap.size w w' := Any.strconv_ParseInt_10_at64_syntax Tryz.laysC174 s hlim h ev w hv hev
open Go.RowKit in theorem Tryz.strconv_ParseInt_10_at64_range (s : ByteArray) (hlim : s.size ≤ 281474976710656) (h : Lib.parseIntB 64 s.data.toList = .range) (ev : Value) (w : World) (hv : w.cell? ⟨2, 0, none⟩ = some ev) (hev : ev = .nilIface ∨ ∃ te pe, ev = .iface te pe) :
    Calls Tryz.prog 62 #[.string s, .int .i64 10, .int .i64 64] w fun e w' => ∃ N, e = .returned (.tuple #[.int .i64 (Lib.intSat 64 s.data.toList), .iface 112 (.pointer (some ⟨N, 0, none⟩))]) ∧ w.heap.size ≤ N ∧ w'.heap[N]? = some (.cells #[.string ⟨#[80, 97, 114, 115, 101, 73, 110, 116]⟩, .string s, ev] 126 (0, 0)) ∧ Below w.heap.size w w' := Any.strconv_ParseInt_10_at64_range Tryz.laysC174 s hlim h ev w hv hev
def Tryz.lays144_ren : Go.Shelf.Ren := ⟨fun | 144 => 37 | 143 => 46 | 219 => 59 | 217 => 68 | 225 => 69 | 224 => 70 | 267 => 71 | 266 => 80 | 314 => 81 | n => n, fun | 9 => 9 | 4 => 4 | 3 => 3 | 5 => 5 | 46 => 98 | 146 => 103 | 51 => 102 | n => n, fun | 1 => 0 | n => n⟩
theorem Tryz.lays144 : Go.Proofs.Lays.n144 Tryz.prog Tryz.lays144_ren := {
  mixed := by kernel_rfl
  f143 := Tryz.func46.trans (congrArg some (by kernel_rfl))
  f144 := Tryz.func37.trans (congrArg some (by kernel_rfl))
  f217 := Tryz.func68.trans (congrArg some (by kernel_rfl))
  f219 := Tryz.func59.trans (congrArg some (by kernel_rfl))
  f224 := Tryz.func70.trans (congrArg some (by kernel_rfl))
  f225 := Tryz.func69.trans (congrArg some (by kernel_rfl))
  f266 := Tryz.func80.trans (congrArg some (by kernel_rfl))
  f267 := Tryz.func71.trans (congrArg some (by kernel_rfl))
  f314 := Tryz.func81.trans (congrArg some (by kernel_rfl))
  t3 := Tryz.underlying3
  a3 := Tryz.isAgg3
  z3 := Tryz.sizeOf3
  v3 := Tryz.zeroValue3
  t4 := Tryz.underlying4
  a4 := Tryz.isAgg4
  z4 := Tryz.sizeOf4
  v4 := Tryz.zeroValue4
  t5 := Tryz.underlying5
  a5 := Tryz.isAgg5
  z5 := Tryz.sizeOf5
  v5 := Tryz.zeroValue5
  t9 := Tryz.underlying9
  a9 := Tryz.isAgg9
  z9 := Tryz.sizeOf9
  v9 := Tryz.zeroValue9
  t46 := Tryz.underlying98
  a46 := Tryz.isAgg98
  z46 := Tryz.sizeOf98
  v46 := Tryz.zeroValue98
  t51 := Tryz.underlying102
  a51 := Tryz.isAgg102
  z51 := Tryz.sizeOf102
  v51 := Tryz.zeroValue102
  t146 := Tryz.underlying103
  a146 := Tryz.isAgg103
  z146 := Tryz.sizeOf103
  v146 := Tryz.zeroValue103
  g1 := by kernel_rfl }
open Go.RowKit Go.Lib in theorem Tryz.strings_Contains (s sub : ByteArray) (m : Int) (w : World) (hs : s.size < 4294967281) (hm : w.cell? ⟨0, 0, none⟩ = some (.int .i64 m)) :
    Calls Tryz.prog 37 #[.string s, .string sub] w fun e w' => e = .returned (.bool (Lib.contains s.data.toList sub.data.toList)) ∧ w' = w := Any.strings_Contains Tryz.lays144 s sub m w hs hm
def Tryz.lays145_ren : Go.Shelf.Ren := ⟨fun | 145 => 40 | 220 => 48 | 219 => 59 | 217 => 68 | 225 => 69 | 224 => 70 | 267 => 71 | 266 => 80 | 314 => 81 | n => n, fun | 9 => 9 | 4 => 4 | 59 => 71 | 3 => 3 | 5 => 5 | 46 => 98 | 146 => 103 | 51 => 102 | n => n, fun | 1 => 0 | n => n⟩
theorem Tryz.lays145 : Go.Proofs.Lays.n145 Tryz.prog Tryz.lays145_ren := {
  mixed := by kernel_rfl
  f145 := Tryz.func40.trans (congrArg some (by kernel_rfl))
  f217 := Tryz.func68.trans (congrArg some (by kernel_rfl))
  f219 := Tryz.func59.trans (congrArg some (by kernel_rfl))
  f220 := Tryz.func48.trans (congrArg some (by kernel_rfl))
  f224 := Tryz.func70.trans (congrArg some (by kernel_rfl))
  f225 := Tryz.func69.trans (congrArg some (by kernel_rfl))
  f266 := Tryz.func80.trans (congrArg some (by kernel_rfl))
  f267 := Tryz.func71.trans (congrArg some (by kernel_rfl))
  f314 := Tryz.func81.trans (congrArg some (by kernel_rfl))
  t3 := Tryz.underlying3
  a3 := Tryz.isAgg3
  z3 := Tryz.sizeOf3
  v3 := Tryz.zeroValue3
  t4 := Tryz.underlying4
  a4 := Tryz.isAgg4
  z4 := Tryz.sizeOf4
  v4 := Tryz.zeroValue4
  t5 := Tryz.underlying5
  a5 := Tryz.isAgg5
  z5 := Tryz.sizeOf5
  v5 := Tryz.zeroValue5
  t9 := Tryz.underlying9
  a9 := Tryz.isAgg9
  z9 := Tryz.sizeOf9
  v9 := Tryz.zeroValue9
  t46 := Tryz.underlying98
  a46 := Tryz.isAgg98
  z46 := Tryz.sizeOf98
  v46 := Tryz.zeroValue98
  t51 := Tryz.underlying102
  a51 := Tryz.isAgg102
  z51 := Tryz.sizeOf102
  v51 := Tryz.zeroValue102
  t59 := Tryz.underlying71
  a59 := Tryz.isAgg71
  z59 := Tryz.sizeOf71
  v59 := Tryz.zeroValue71
  t146 := Tryz.underlying103
  a146 := Tryz.isAgg103
  z146 := Tryz.sizeOf103
  v146 := Tryz.zeroValue103
  g1 := by kernel_rfl }
open Go.RowKit Go.Lib in theorem Tryz.strings_Cut (s sep : ByteArray) (m : Int) (w : World) (hs : s.size < 4294967281) (hm : w.cell? ⟨0, 0, none⟩ = some (.int .i64 m)) :
    Calls Tryz.prog 40 #[.string s, .string sep] w fun e w' => e = .returned (.tuple #[.string ⟨(Lib.cut s.data.toList sep.data.toList).1.toArray⟩, .string ⟨(Lib.cut s.data.toList sep.data.toList).2.1.toArray⟩, .bool (Lib.cut s.data.toList sep.data.toList).2.2]) ∧ ∃ n, w' = w.drewN n := Any.strings_Cut Tryz.lays145 s sep m w hs hm
def Tryz.lays101_ren : Go.Shelf.Ren := ⟨fun | 101 => 61 | 208 => 74 | 206 => 85 | n => n, fun | 9 => 9 | 4 => 4 | 3 => 3 | n => n, fun | n => n⟩
theorem Tryz.lays101 : Go.Proofs.Lays.n101 Tryz.prog Tryz.lays101_ren := {
  mixed := by kernel_rfl
  f101 := Tryz.func61.trans (congrArg some (by kernel_rfl))
  f206 := Tryz.func85.trans (congrArg some (by kernel_rfl))
  f208 := Tryz.func74.trans (congrArg some (by kernel_rfl))
  t3 := Tryz.underlying3
  a3 := Tryz.isAgg3
  z3 := Tryz.sizeOf3
  v3 := Tryz.zeroValue3
  t4 := Tryz.underlying4
  a4 := Tryz.isAgg4
  z4 := Tryz.sizeOf4
  v4 := Tryz.zeroValue4
  t9 := Tryz.underlying9
  a9 := Tryz.isAgg9
  z9 := Tryz.sizeOf9
  v9 := Tryz.zeroValue9 }
open Go.RowKit Go.Lib in theorem Tryz.strings_TrimPrefix (s p : ByteArray) (w : World) :
    Calls Tryz.prog 61 #[.string s, .string p] w fun e w' => e = .returned (.string ⟨(Lib.trimPrefix s.data.toList p.data.toList).toArray⟩) ∧ w' = w := Any.strings_TrimPrefix Tryz.lays101 s p w
def Tryz.lays146_ren : Go.Shelf.Ren := ⟨fun | 146 => 49 | 221 => 60 | 268 => 72 | 138 => 73 | 143 => 46 | 195 => 82 | 197 => 83 | 218 => 84 | 219 => 59 | 260 => 97 | 217 => 68 | 225 => 69 | 224 => 70 | 267 => 71 | 266 => 80 | 314 => 81 | n => n, fun | 9 => 9 | 31 => 50 | 3 => 3 | 4 => 4 | 0 => 0 | 105 => 106 | 21 => 21 | 5 => 5 | 46 => 98 | 119 => 133 | 139 => 136 | 138 => 135 | 146 => 103 | 51 => 102 | n => n, fun | 1 => 0 | 3 => 4 | 4 => 5 | n => n⟩
theorem Tryz.lays146 : Go.Proofs.Lays.n146 Tryz.prog Tryz.lays146_ren := {
  mixed := by kernel_rfl
  f138 := Tryz.func73.trans (congrArg some (by kernel_rfl))
  f143 := Tryz.func46.trans (congrArg some (by kernel_rfl))
  f146 := Tryz.func49.trans (congrArg some (by kernel_rfl))
  f195 := Tryz.func82.trans (congrArg some (by kernel_rfl))
  f197 := Tryz.func83.trans (congrArg some (by kernel_rfl))
  f217 := Tryz.func68.trans (congrArg some (by kernel_rfl))
  f218 := Tryz.func84.trans (congrArg some (by kernel_rfl))
  f219 := Tryz.func59.trans (congrArg some (by kernel_rfl))
  f221 := Tryz.func60.trans (congrArg some (by kernel_rfl))
  f224 := Tryz.func70.trans (congrArg some (by kernel_rfl))
  f225 := Tryz.func69.trans (congrArg some (by kernel_rfl))
  f260 := Tryz.func97.trans (congrArg some (by kernel_rfl))
  f266 := Tryz.func80.trans (congrArg some (by kernel_rfl))
  f267 := Tryz.func71.trans (congrArg some (by kernel_rfl))
  f268 := Tryz.func72.trans (congrArg some (by kernel_rfl))
  f314 := Tryz.func81.trans (congrArg some (by kernel_rfl))
  t0 := Tryz.underlying0
  a0 := Tryz.isAgg0
  z0 := Tryz.sizeOf0
  v0 := Tryz.zeroValue0
  t3 := Tryz.underlying3
  a3 := Tryz.isAgg3
  z3 := Tryz.sizeOf3
  v3 := Tryz.zeroValue3
  t4 := Tryz.underlying4
  a4 := Tryz.isAgg4
  z4 := Tryz.sizeOf4
  v4 := Tryz.zeroValue4
  t5 := Tryz.underlying5
  a5 := Tryz.isAgg5
  z5 := Tryz.sizeOf5
  v5 := Tryz.zeroValue5
  t9 := Tryz.underlying9
  a9 := Tryz.isAgg9
  z9 := Tryz.sizeOf9
  v9 := Tryz.zeroValue9
  t21 := Tryz.underlying21
  a21 := Tryz.isAgg21
  z21 := Tryz.sizeOf21
  v21 := Tryz.zeroValue21
  t31 := Tryz.underlying50
  a31 := Tryz.isAgg50
  z31 := Tryz.sizeOf50
  v31 := Tryz.zeroValue50
  t46 := Tryz.underlying98
  a46 := Tryz.isAgg98
  z46 := Tryz.sizeOf98
  v46 := Tryz.zeroValue98
  t51 := Tryz.underlying102
  a51 := Tryz.isAgg102
  z51 := Tryz.sizeOf102
  v51 := Tryz.zeroValue102
  t105 := Tryz.underlying106
  a105 := Tryz.isAgg106
  z105 := Tryz.sizeOf106
  v105 := Tryz.zeroValue106
  t119 := Tryz.underlying133
  a119 := Tryz.isAgg133
  z119 := Tryz.sizeOf133
  t138 := Tryz.underlying135
  a138 := Tryz.isAgg135
  z138 := Tryz.sizeOf135
  v138 := Tryz.zeroValue135
  t139 := Tryz.underlying136
  a139 := Tryz.isAgg136
  z139 := Tryz.sizeOf136
  v139 := Tryz.zeroValue136
  t146 := Tryz.underlying103
  a146 := Tryz.isAgg103
  z146 := Tryz.sizeOf103
  v146 := Tryz.zeroValue103
  g1 := by kernel_rfl
  g3 := by kernel_rfl
  g4 := by kernel_rfl }
open Go.RowKit Go.Lib in theorem Tryz.strings_Split (s sep : ByteArray) (m : Int) (w : World) (hs : s.size < 4294967281) (hm : w.cell? ⟨0, 0, none⟩ = some (.int .i64 m)) (h1 : 1 ≤ sep.size) :
    Calls Tryz.prog 49 #[.string s, .string sep] w fun e w' =>
      e = .returned (.slice (some ⟨w.heap.size, 0, none⟩) (Lib.countB s sep + 1) (Lib.countB s sep + 1)) ∧ w' = w.alloc (.cells ((Lib.splitB sep 0 (Lib.countB s sep) s).map Value.string).toArray 9) := Any.strings_Split Tryz.lays146 (by kernel_rfl) s sep m w hs hm h1
end Go.Proofs

/- Function 37 (strings.Contains): its contract, off what is known of the library. -/
set_option linter.unusedVariables false
set_option linter.unusedSimpArgs false
set_option maxRecDepth 100000
namespace Go.Proofs.YteojabdeehagnaaGreatDoor
open Go Go.Am Go.Proofs

def sig37 : List AT := [AT.v Ty.str, AT.v Ty.str]
def g37_0 (x0 x1 : ByteArray) : Bool := Lib.contains x0.data.toList x1.data.toList
def P37 (x0 x1 : ByteArray) : Prop := x0.size < 4294967281
def S37 : Am.Spec := { sig := sig37, pre := fun ⟨x0, x1, _⟩ => P37 x0 x1, res := fun ⟨x0, x1, _⟩ => [⟨Ty.bool, g37_0 x0 x1⟩] }
theorem con37 : Contract Tryz.prog 37 S37 := contract_flat rfl fun w ⟨x0, x1, _⟩ vs bss hg hp hw ha => by
  obtain ⟨v0, s0, _, _, rfl, _, ⟨_, rfl, _⟩, v1, s1, _, _, rfl, _, ⟨_, rfl, _⟩, rfl, _⟩ := ha
  refine ⟨fun d hd => by rw [List.mem_singleton.1 hd]; exact ⟨rfl, trivial⟩, ?_⟩
  obtain ⟨m, hm⟩ := maxLenG hg
  refine (Tryz.strings_Contains x0 x1 m w hp hm).mono ?_
  rintro e w' ⟨rfl, rfl⟩
  exact ⟨rfl, Kept.refl _ _⟩

end Go.Proofs.YteojabdeehagnaaGreatDoor

/- Function 27 (impl.ValidBlock): its runs between cut points. Written by a program of this repo (gen). -/
set_option linter.unusedVariables false
set_option linter.unusedSimpArgs false
set_option maxRecDepth 100000
namespace Go.Proofs.YteojabdeehagnaaGreatDoor
open Go Go.Am Go.Proofs
def ext27 : Ext := [(36, S36), (37, S37)]
theorem call27_36 : Callable Tryz.prog 36 := ⟨Tryz.f36, Tryz.func36, by kernel_rfl, by kernel_rfl⟩
theorem call27_37 : Callable Tryz.prog 37 := ⟨Tryz.f37, Tryz.func37, by kernel_rfl, by kernel_rfl⟩
theorem ext27Ok : ExtOk Tryz.prog ext27 := ⟨⟨call27_36, con36⟩, ⟨call27_37, con37⟩, trivial⟩
/-! Function 27. -/
noncomputable def b27 : Code := bodyOf Tryz.f27
theorem hb27 : Tryz.f27.body = some b27 := by kernel_rfl
def sig27 : List AT := [AT.v (Ty.cons Ty.str (Ty.cons Ty.str (Ty.cons Ty.str Ty.unit)))]
def tys27 : List Ty := [Ty.bool]
def P27 (x0 : ByteArray × ByteArray × ByteArray × Unit) : Prop := (if (g36_0 (Prod.fst x0)) = true then (if (g36_0 (Prod.fst (Prod.snd x0))) = true then (if (Decidable.decide ((↑(ByteArray.size (Prod.fst (Prod.snd (Prod.snd x0)))) : Int) ≤ 400)) = true then ((P37 (Prod.fst (Prod.snd (Prod.snd x0))) (ByteArray.mk #[10])) ∧ True) else True) else True) else True)
def g27_0 (x0 : ByteArray × ByteArray × ByteArray × Unit) : Bool := (if (g36_0 (Prod.fst x0)) = true then (if (g36_0 (Prod.fst (Prod.snd x0))) = true then (if (Decidable.decide ((↑(ByteArray.size (Prod.fst (Prod.snd (Prod.snd x0)))) : Int) ≤ 400)) = true then !g37_0 (Prod.fst (Prod.snd (Prod.snd x0))) (ByteArray.mk #[10]) else Bool.false) else Bool.false) else Bool.false)
theorem p27_0 (x0 : ByteArray × ByteArray × ByteArray × Unit) : runF tab ext27 false 23 [] 2000 [] tys27 Tryz.f27.results [true, true, true] [.code b27] (entE 0 0 sig27 (x0, ())) (entL sig27 (x0, ())) = some ([Dyn.mk Ty.bool !g37_0 (Prod.fst (Prod.snd (Prod.snd x0))) (ByteArray.mk #[10])], [], [True, g36_0 (Prod.fst x0) = Bool.true, True, g36_0 (Prod.fst (Prod.snd x0)) = Bool.true, Decidable.decide ((↑(ByteArray.size (Prod.fst (Prod.snd (Prod.snd x0)))) : Int) ≤ 400) = Bool.true, P37 (Prod.fst (Prod.snd (Prod.snd x0))) (ByteArray.mk #[10])]) := by kernel_rfl
theorem p27_1 (x0 : ByteArray × ByteArray × ByteArray × Unit) : runF tab ext27 false 23 [] 2000 [] tys27 Tryz.f27.results [true, true, false] [.code b27] (entE 0 0 sig27 (x0, ())) (entL sig27 (x0, ())) = some ([Dyn.mk Ty.bool Bool.false], [], [True, g36_0 (Prod.fst x0) = Bool.true, True, g36_0 (Prod.fst (Prod.snd x0)) = Bool.true, Decidable.decide ((↑(ByteArray.size (Prod.fst (Prod.snd (Prod.snd x0)))) : Int) ≤ 400) = Bool.false]) := by kernel_rfl
theorem p27_2 (x0 : ByteArray × ByteArray × ByteArray × Unit) : runF tab ext27 false 23 [] 2000 [] tys27 Tryz.f27.results [true, false, false] [.code b27] (entE 0 0 sig27 (x0, ())) (entL sig27 (x0, ())) = some ([Dyn.mk Ty.bool Bool.false], [], [True, g36_0 (Prod.fst x0) = Bool.true, True, g36_0 (Prod.fst (Prod.snd x0)) = Bool.false, Bool.false = Bool.false]) := by kernel_rfl
theorem p27_3 (x0 : ByteArray × ByteArray × ByteArray × Unit) : runF tab ext27 false 23 [] 2000 [] tys27 Tryz.f27.results [false, false, false] [.code b27] (entE 0 0 sig27 (x0, ())) (entL sig27 (x0, ())) = some ([Dyn.mk Ty.bool Bool.false], [], [True, g36_0 (Prod.fst x0) = Bool.false, Bool.false = Bool.false, Bool.false = Bool.false]) := by kernel_rfl
theorem at27 (x0 : ByteArray × ByteArray × ByteArray × Unit) (h : P27 x0) (w0 : World) (O : List Nat) (q : Nat → Value) : AtV Tryz.prog 27 (PostR [⟨Ty.bool, g27_0 x0⟩] [] [] q w0 O) 23 w0 O q [] [.code b27] (entE 0 0 sig27 (x0, ())) (entL sig27 (x0, ())) := by
  unfold P27 at h
  unfold g27_0
  by_cases b0 : (g36_0 (Prod.fst x0)) = true
  · try simp only [if_pos b0] at h ⊢
    by_cases b1 : (g36_0 (Prod.fst (Prod.snd x0))) = true
    · try simp only [if_pos b1] at h ⊢
      by_cases b2 : (Decidable.decide ((↑(ByteArray.size (Prod.fst (Prod.snd (Prod.snd x0)))) : Int) ≤ 400)) = true
      · try simp only [if_pos b2] at h ⊢
        obtain ⟨s0, h⟩ := h
        exact AtV.fin Tryz.func27 tabOk ext27Ok mixed (p27_0 x0) ⟨trivial, b0, trivial, b1, b2, s0, trivial⟩
      · try simp only [if_neg b2] at h ⊢
        replace b2 := Bool.eq_false_iff.2 b2
        exact AtV.fin Tryz.func27 tabOk ext27Ok mixed (p27_1 x0) ⟨trivial, b0, trivial, b1, b2, trivial⟩
    · try simp only [if_neg b1] at h ⊢
      replace b1 := Bool.eq_false_iff.2 b1
      exact AtV.fin Tryz.func27 tabOk ext27Ok mixed (p27_2 x0) ⟨trivial, b0, trivial, b1, rfl, trivial⟩
  · try simp only [if_neg b0] at h ⊢
    replace b0 := Bool.eq_false_iff.2 b0
    exact AtV.fin Tryz.func27 tabOk ext27Ok mixed (p27_3 x0) ⟨trivial, b0, rfl, rfl, trivial⟩

def S27 : Am.Spec := { sig := sig27, pre := fun ⟨x0, _⟩ => P27 x0, res := fun ⟨x0, _⟩ => [⟨Ty.bool, g27_0 x0⟩] }
theorem con27 : Contract Tryz.prog 27 S27 := contract_of Tryz.func27 hb27 (Nat.le_of_ble_eq_true (by kernel_rfl)) (fun ⟨x0, _⟩ h _ w0 O q => at27 x0 h w0 O q)


theorem pre27 (x : ByteArray × ByteArray × ByteArray × Unit) : P27 x := by
  unfold P27
  split
  · split
    · split
      · rename_i h
        simp only [decide_eq_true_eq] at h
        refine ⟨?_, trivial⟩
        show x.2.2.1.size < 4294967281
        omega
      · trivial
    · trivial
  · trivial

end Go.Proofs.YteojabdeehagnaaGreatDoor

/- Function 47 (cmp.isNaN[string]): its runs between cut points. Written by a program of this repo (gen). -/
set_option linter.unusedVariables false
set_option linter.unusedSimpArgs false
set_option maxRecDepth 100000
namespace Go.Proofs.YteojabdeehagnaaGreatDoor
open Go Go.Am Go.Proofs
def ext47 : Ext := []
theorem ext47Ok : ExtOk Tryz.prog ext47 := trivial
/-! Function 47. -/
noncomputable def b47 : Code := bodyOf Tryz.f47
theorem hb47 : Tryz.f47.body = some b47 := by kernel_rfl
def sig47 : List AT := [AT.v (Ty.str)]
def tys47 : List Ty := [Ty.bool]
def P47 (x0 : ByteArray) : Prop := True
def g47_0 (x0 : ByteArray) : Bool := !ByteArray.toList x0 == ByteArray.toList x0
theorem p47_0 (x0 : ByteArray) : runF tab ext47 false 6 [] 2000 [] tys47 Tryz.f47.results [] [.code b47] (entE 0 0 sig47 (x0, ())) (entL sig47 (x0, ())) = some ([Dyn.mk Ty.bool !ByteArray.toList x0 == ByteArray.toList x0], [], []) := by kernel_rfl
theorem at47 (x0 : ByteArray) (h : P47 x0) (w0 : World) (O : List Nat) (q : Nat → Value) : AtV Tryz.prog 47 (PostR [⟨Ty.bool, g47_0 x0⟩] [] [] q w0 O) 6 w0 O q [] [.code b47] (entE 0 0 sig47 (x0, ())) (entL sig47 (x0, ())) := by
  unfold P47 at h
  unfold g47_0
  exact AtV.fin Tryz.func47 tabOk ext47Ok mixed (p47_0 x0) trivial

def S47 : Am.Spec := { sig := sig47, pre := fun ⟨x0, _⟩ => P47 x0, res := fun ⟨x0, _⟩ => [⟨Ty.bool, g47_0 x0⟩] }
theorem con47 : Contract Tryz.prog 47 S47 := contract_of Tryz.func47 hb47 (Nat.le_of_ble_eq_true (by kernel_rfl)) (fun ⟨x0, _⟩ h _ w0 O q => at47 x0 h w0 O q)


end Go.Proofs.YteojabdeehagnaaGreatDoor

/- Function 39 (cmp.Compare[string]): its runs between cut points. Written by a program of this repo (gen). -/
set_option linter.unusedVariables false
set_option linter.unusedSimpArgs false
set_option maxRecDepth 100000
namespace Go.Proofs.YteojabdeehagnaaGreatDoor
open Go Go.Am Go.Proofs
def ext39 : Ext := [(47, S47)]
theorem call39_47 : Callable Tryz.prog 47 := ⟨Tryz.f47, Tryz.func47, by kernel_rfl, by kernel_rfl⟩
theorem ext39Ok : ExtOk Tryz.prog ext39 := ⟨⟨call39_47, con47⟩, trivial⟩
/-! Function 39. -/
noncomputable def b39 : Code := bodyOf Tryz.f39
theorem hb39 : Tryz.f39.body = some b39 := by kernel_rfl
def sig39 : List AT := [AT.v (Ty.str), AT.v (Ty.str)]
def tys39 : List Ty := [Ty.int IntKind.i64]
def P39 (x0 : ByteArray) (x1 : ByteArray) : Prop := True
def g39_0 (x0 : ByteArray) (x1 : ByteArray) : Int := (if (g47_0 x0) = true then (if (g47_0 x1) = true then 0 else -1) else (if (g47_0 x1) = true then 1 else (if (Op.bytesLess (ByteArray.toList x0) (ByteArray.toList x1)) = true then -1 else (if (!(Op.bytesLess (ByteArray.toList x0) (ByteArray.toList x1) || ByteArray.toList x0 == ByteArray.toList x1)) = true then 1 else 0))))
theorem p39_0 (x0 : ByteArray) (x1 : ByteArray) : runF tab ext39 false 20 [] 2000 [] tys39 Tryz.f39.results [true, true] [.code b39] (entE 0 0 sig39 (x0, x1, ())) (entL sig39 (x0, x1, ())) = some ([Dyn.mk (Ty.int IntKind.i64) 0], [], [True, True, g47_0 x0 = Bool.true, g47_0 x1 = Bool.true]) := by kernel_rfl
theorem p39_1 (x0 : ByteArray) (x1 : ByteArray) : runF tab ext39 false 20 [] 2000 [] tys39 Tryz.f39.results [true, false] [.code b39] (entE 0 0 sig39 (x0, x1, ())) (entL sig39 (x0, x1, ())) = some ([Dyn.mk (Ty.int IntKind.i64) (-1)], [], [True, True, g47_0 x0 = Bool.true, g47_0 x1 = Bool.false]) := by kernel_rfl
theorem p39_2 (x0 : ByteArray) (x1 : ByteArray) : runF tab ext39 false 20 [] 2000 [] tys39 Tryz.f39.results [false, true] [.code b39] (entE 0 0 sig39 (x0, x1, ())) (entL sig39 (x0, x1, ())) = some ([Dyn.mk (Ty.int IntKind.i64) 1], [], [True, True, g47_0 x0 = Bool.false, g47_0 x1 = Bool.true]) := by kernel_rfl
theorem p39_3 (x0 : ByteArray) (x1 : ByteArray) : runF tab ext39 false 20 [] 2000 [] tys39 Tryz.f39.results [false, false, true] [.code b39] (entE 0 0 sig39 (x0, x1, ())) (entL sig39 (x0, x1, ())) = some ([Dyn.mk (Ty.int IntKind.i64) (-1)], [], [True, True, g47_0 x0 = Bool.false, g47_0 x1 = Bool.false, Op.bytesLess (ByteArray.toList x0) (ByteArray.toList x1) = Bool.true]) := by kernel_rfl
theorem p39_4 (x0 : ByteArray) (x1 : ByteArray) : runF tab ext39 false 20 [] 2000 [] tys39 Tryz.f39.results [false, false, false, true] [.code b39] (entE 0 0 sig39 (x0, x1, ())) (entL sig39 (x0, x1, ())) = some ([Dyn.mk (Ty.int IntKind.i64) 1], [], [True, True, g47_0 x0 = Bool.false, g47_0 x1 = Bool.false, Op.bytesLess (ByteArray.toList x0) (ByteArray.toList x1) = Bool.false, (!(Op.bytesLess (ByteArray.toList x0) (ByteArray.toList x1) || ByteArray.toList x0 == ByteArray.toList x1)) = Bool.true]) := by kernel_rfl
theorem p39_5 (x0 : ByteArray) (x1 : ByteArray) : runF tab ext39 false 20 [] 2000 [] tys39 Tryz.f39.results [false, false, false, false] [.code b39] (entE 0 0 sig39 (x0, x1, ())) (entL sig39 (x0, x1, ())) = some ([Dyn.mk (Ty.int IntKind.i64) 0], [], [True, True, g47_0 x0 = Bool.false, g47_0 x1 = Bool.false, Op.bytesLess (ByteArray.toList x0) (ByteArray.toList x1) = Bool.false, (!(Op.bytesLess (ByteArray.toList x0) (ByteArray.toList x1) || ByteArray.toList x0 == ByteArray.toList x1)) = Bool.false]) := by kernel_rfl
theorem at39 (x0 : ByteArray) (x1 : ByteArray) (h : P39 x0 x1) (w0 : World) (O : List Nat) (q : Nat → Value) : AtV Tryz.prog 39 (PostR [⟨Ty.int IntKind.i64, g39_0 x0 x1⟩] [] [] q w0 O) 20 w0 O q [] [.code b39] (entE 0 0 sig39 (x0, x1, ())) (entL sig39 (x0, x1, ())) := by
  unfold P39 at h
  unfold g39_0
  by_cases b0 : (g47_0 x0) = true
  · try simp only [if_pos b0] at h ⊢
    by_cases b1 : (g47_0 x1) = true
    · try simp only [if_pos b1] at h ⊢
      exact AtV.fin Tryz.func39 tabOk ext39Ok mixed (p39_0 x0 x1) ⟨trivial, trivial, b0, b1, trivial⟩
    · try simp only [if_neg b1] at h ⊢
      replace b1 := Bool.eq_false_iff.2 b1
      exact AtV.fin Tryz.func39 tabOk ext39Ok mixed (p39_1 x0 x1) ⟨trivial, trivial, b0, b1, trivial⟩
  · try simp only [if_neg b0] at h ⊢
    replace b0 := Bool.eq_false_iff.2 b0
    by_cases b1 : (g47_0 x1) = true
    · try simp only [if_pos b1] at h ⊢
      exact AtV.fin Tryz.func39 tabOk ext39Ok mixed (p39_2 x0 x1) ⟨trivial, trivial, b0, b1, trivial⟩
    · try simp only [if_neg b1] at h ⊢
      replace b1 := Bool.eq_false_iff.2 b1
      by_cases b2 : (Op.bytesLess (ByteArray.toList x0) (ByteArray.toList x1)) = true
      · try simp only [if_pos b2] at h ⊢
        exact AtV.fin Tryz.func39 tabOk ext39Ok mixed (p39_3 x0 x1) ⟨trivial, trivial, b0, b1, b2, trivial⟩
      · try simp only [if_neg b2] at h ⊢
        replace b2 := Bool.eq_false_iff.2 b2
        by_cases b3 : (!(Op.bytesLess (ByteArray.toList x0) (ByteArray.toList x1) || ByteArray.toList x0 == ByteArray.toList x1)) = true
        · try simp only [if_pos b3] at h ⊢
          exact AtV.fin Tryz.func39 tabOk ext39Ok mixed (p39_4 x0 x1) ⟨trivial, trivial, b0, b1, b2, b3, trivial⟩
        · try simp only [if_neg b3] at h ⊢
          replace b3 := Bool.eq_false_iff.2 b3
          exact AtV.fin Tryz.func39 tabOk ext39Ok mixed (p39_5 x0 x1) ⟨trivial, trivial, b0, b1, b2, b3, trivial⟩

def S39 : Am.Spec := { sig := sig39, pre := fun ⟨x0, x1, _⟩ => P39 x0 x1, res := fun ⟨x0, x1, _⟩ => [⟨Ty.int IntKind.i64, g39_0 x0 x1⟩] }
theorem con39 : Contract Tryz.prog 39 S39 := contract_of Tryz.func39 hb39 (Nat.le_of_ble_eq_true (by kernel_rfl)) (fun ⟨x0, x1, _⟩ h _ w0 O q => at39 x0 x1 h w0 O q)


end Go.Proofs.YteojabdeehagnaaGreatDoor

/- Function 38 (cmp.Or[int]): its runs between cut points. Written by a program of this repo (gen). -/
set_option linter.unusedVariables false
set_option linter.unusedSimpArgs false
set_option maxRecDepth 100000
namespace Go.Proofs.YteojabdeehagnaaGreatDoor
open Go Go.Am Go.Proofs
def ext38 : Ext := []
theorem ext38Ok : ExtOk Tryz.prog ext38 := trivial
/-! Function 38. -/
noncomputable def b38 : Code := bodyOf Tryz.f38
theorem hb38 : Tryz.f38.body = some b38 := by kernel_rfl
def sig38 : List AT := [AT.v (Ty.sl (Ty.int IntKind.i64))]
def tys38 : List Ty := [Ty.int IntKind.i64]
def E38_3 (v8 : Int) (x0 : List Int) : Env := [(3, PV.a (Atom.val (Value.int IntKind.i64 0))), (6, PV.a (Atom.sl (Ty.int IntKind.i64) x0)), (7, PV.a (Atom.val (Value.int IntKind.i64 (↑(List.length x0) : Int)))), (8, PV.a (Atom.val (Value.int IntKind.i64 v8)))]
def L38_3 (v8 : Int) (x0 : List Int) : Heap := []
mutual
def R38 : Nat → List Int → List Dyn → Prop
  | 0, _, _ => False
  | n + 1, x0, ds => (R38_3 n (0) (x0) ds)
def R38_3 : Nat → Int → List Int → List Dyn → Prop
  | 0, _, _, _ => False
  | n + 1, v8, x0, ds => (if (Decidable.decide (v8 < (↑(List.length x0) : Int))) = true then ((0 ≤ v8) ∧ (v8 < (↑(List.length x0) : Int)) ∧ (if (List.getD x0 (Int.toNat v8) 0 != 0) = true then (ds = [Dyn.mk (Ty.int IntKind.i64) (List.getD x0 (Int.toNat v8) 0)]) else ((InR IntKind.i64 (v8 + 1)) ∧ (R38_3 n (v8 + 1) (x0) ds)))) else (ds = [Dyn.mk (Ty.int IntKind.i64) 0]))
end
theorem p38_0 (x0 : List Int) : Am.runN tab ext38 false 18 [] 2000 [] [] [3, 6, 7, 8] [] [] [.code b38] (entE 0 0 sig38 (x0, ())) (entL sig38 (x0, ())) = some (cutAt b38 3, E38_3 (0) (x0), L38_3 (0) (x0), []) := by kernel_rfl
theorem p38_1 (v8 : Int) (x0 : List Int) : runF tab ext38 false 18 [] 2000 [] tys38 Tryz.f38.results [true, true] (cutAt b38 3) (E38_3 v8 x0) (L38_3 v8 x0) = some ([Dyn.mk (Ty.int IntKind.i64) (List.getD x0 (Int.toNat v8) 0)], [], [Decidable.decide (v8 < (↑(List.length x0) : Int)) = Bool.true, 0 ≤ v8, v8 < (↑(List.length x0) : Int), (List.getD x0 (Int.toNat v8) 0 != 0) = Bool.true]) := by kernel_rfl
theorem p38_2 (v8 : Int) (x0 : List Int) : Am.runN tab ext38 false 18 [] 2000 [] [] [3, 6, 7, 8] [] [true, false] (cutAt b38 3) (E38_3 v8 x0) (L38_3 v8 x0) = some (cutAt b38 3, E38_3 (v8 + 1) (x0), L38_3 (v8 + 1) (x0), [Decidable.decide (v8 < (↑(List.length x0) : Int)) = Bool.true, 0 ≤ v8, v8 < (↑(List.length x0) : Int), (List.getD x0 (Int.toNat v8) 0 != 0) = Bool.false, InR IntKind.i64 (v8 + 1)]) := by kernel_rfl
theorem p38_3 (v8 : Int) (x0 : List Int) : runF tab ext38 false 18 [] 2000 [] tys38 Tryz.f38.results [false] (cutAt b38 3) (E38_3 v8 x0) (L38_3 v8 x0) = some ([Dyn.mk (Ty.int IntKind.i64) 0], [], [Decidable.decide (v8 < (↑(List.length x0) : Int)) = Bool.false]) := by kernel_rfl
theorem snd38 : ∀ n, (∀ (x0 : List Int) ds, R38 n x0 ds → ∀ w0 O q, AtV Tryz.prog 38 (PostR ds [] [] q w0 O) 18 w0 O q [] [.code b38] (entE 0 0 sig38 (x0, ())) (entL sig38 (x0, ()))) ∧ (∀ (v8 : Int) (x0 : List Int) ds, R38_3 n v8 x0 ds → ∀ w0 O q, AtV Tryz.prog 38 (PostR ds [] [] q w0 O) 18 w0 O q [] (cutAt b38 3) (E38_3 v8 x0) (L38_3 v8 x0)) := by
  intro n
  induction n with
  | zero => exact ⟨fun _ _ h => by simp only [R38] at h, fun _ _ _ h => by simp only [R38_3] at h⟩
  | succ n ih =>
  obtain ⟨ih, ih3⟩ := ih
  refine ⟨?_, ?_⟩
  · intro x0 ds h w0 O q
    rw [R38] at h
    exact AtV.runN tabOk ext38Ok mixed (p38_0 x0) trivial (ih3 _ _ _ h w0 O q)

  · intro v8 x0 ds h w0 O q
    rw [R38_3] at h
    by_cases b0 : (Decidable.decide (v8 < (↑(List.length x0) : Int))) = true
    · rw [if_pos b0] at h
      obtain ⟨s0, s1, h⟩ := h
      by_cases b1 : (List.getD x0 (Int.toNat v8) 0 != 0) = true
      · rw [if_pos b1] at h
        subst h
        exact AtV.fin Tryz.func38 tabOk ext38Ok mixed (p38_1 v8 x0) ⟨b0, s0, s1, b1, trivial⟩
      · rw [if_neg b1] at h
        replace b1 := Bool.eq_false_iff.2 b1
        obtain ⟨s2, h⟩ := h
        exact AtV.runN tabOk ext38Ok mixed (p38_2 v8 x0) ⟨b0, s0, s1, b1, s2, trivial⟩ (ih3 _ _ _ h w0 O q)
    · rw [if_neg b0] at h
      replace b0 := Bool.eq_false_iff.2 b0
      subst h
      exact AtV.fin Tryz.func38 tabOk ext38Ok mixed (p38_3 v8 x0) ⟨b0, trivial⟩



def g38_0 : List Int → Int
  | [] => 0
  | x :: r => if x != 0 then x else g38_0 r
def P38 (x0 : List Int) : Prop := True

theorem goL38 : ∀ (xs : List Int), goL (fun (_ : Unit) (x : Int) => if (x != 0) = true then Except.error [(⟨.int .i64, x⟩ : Dyn)] else .ok ()) (fun _ => [⟨.int .i64, (0 : Int)⟩]) () xs = [⟨.int .i64, g38_0 xs⟩]
  | [] => rfl
  | x :: r => by
    simp only [goL, g38_0]
    cases h : x != 0 with
    | true => simp
    | false => simpa using goL38 r

theorem top38 (x0 : List Int) (hm : x0.length ≤ maxLen) : R38 (x0.length + 1 + 1) x0 [⟨.int .i64, g38_0 x0⟩] := by
  rw [R38, ← goL38]
  refine loop_all x0 0 _ _ (fun _ _ => True) (fun n i _ ds => R38_3 n i x0 ds) trivial ?_ ?_
  · intro n b _
    show R38_3 (n + 1) x0.length x0 _
    rw [R38_3, if_neg (by simp)]
  · intro n i b hi _
    cases h : (x0.getD i 0 != 0) with
    | true =>
      show R38_3 (n + 1) (i : Int) x0 _
      rw [R38_3, if_pos (by simp; omega)]
      refine ⟨by omega, by omega, ?_⟩
      simp only [Int.toNat_natCast]
      rw [if_pos h] <;> trivial
    | false =>
      refine ⟨trivial, fun ds hr => ?_⟩
      rw [R38_3, if_pos (by simp; omega)]
      refine ⟨by omega, by omega, ?_⟩
      simp only [Int.toNat_natCast]
      rw [if_neg (by rw [h]; simp)]
      exact ⟨inR_up hm hi, hr⟩

def S38 : Am.Spec := { sig := sig38, pre := fun ⟨x0, _⟩ => P38 x0, res := fun ⟨x0, _⟩ => [⟨Ty.int .i64, g38_0 x0⟩] }
theorem con38 : Contract Tryz.prog 38 S38 := contract_of Tryz.func38 hb38 (Nat.le_of_ble_eq_true (by kernel_rfl)) (fun ⟨x0, _⟩ h hwf w0 O q =>
  (snd38 _).1 x0 _ (top38 x0 hwf.1.1) w0 O q)

end Go.Proofs.YteojabdeehagnaaGreatDoor

/- Function 28 (impl.compareBlocks): its runs between cut points. Written by a program of this repo (gen). -/
set_option linter.unusedVariables false
set_option linter.unusedSimpArgs false
set_option maxRecDepth 100000
namespace Go.Proofs.YteojabdeehagnaaGreatDoor
open Go Go.Am Go.Proofs
def ext28 : Ext := [(39, S39), (38, S38)]
theorem call28_39 : Callable Tryz.prog 39 := ⟨Tryz.f39, Tryz.func39, by kernel_rfl, by kernel_rfl⟩
theorem call28_38 : Callable Tryz.prog 38 := ⟨Tryz.f38, Tryz.func38, by kernel_rfl, by kernel_rfl⟩
theorem ext28Ok : ExtOk Tryz.prog ext28 := ⟨⟨call28_39, con39⟩, ⟨call28_38, con38⟩, trivial⟩
/-! Function 28. -/
noncomputable def b28 : Code := bodyOf Tryz.f28
theorem hb28 : Tryz.f28.body = some b28 := by kernel_rfl
def sig28 : List AT := [AT.v (Ty.cons Ty.str (Ty.cons Ty.str (Ty.cons Ty.str Ty.unit))), AT.v (Ty.cons Ty.str (Ty.cons Ty.str (Ty.cons Ty.str Ty.unit)))]
def tys28 : List Ty := [Ty.int IntKind.i64]
def P28 (x0 : ByteArray × ByteArray × ByteArray × Unit) (x1 : ByteArray × ByteArray × ByteArray × Unit) : Prop := True
def g28_0 (x0 : ByteArray × ByteArray × ByteArray × Unit) (x1 : ByteArray × ByteArray × ByteArray × Unit) : Int := g38_0 [g39_0 (Prod.fst x0) (Prod.fst x1), g39_0 (Prod.fst (Prod.snd x0)) (Prod.fst (Prod.snd x1))]
theorem p28_0 (x0 : ByteArray × ByteArray × ByteArray × Unit) (x1 : ByteArray × ByteArray × ByteArray × Unit) : runF tab ext28 false 17 [] 2000 [] tys28 Tryz.f28.results [] [.code b28] (entE 0 0 sig28 (x0, x1, ())) (entL sig28 (x0, x1, ())) = some ([Dyn.mk (Ty.int IntKind.i64) (g38_0 [g39_0 (Prod.fst x0) (Prod.fst x1), g39_0 (Prod.fst (Prod.snd x0)) (Prod.fst (Prod.snd x1))])], [], [True, True, True]) := by kernel_rfl
theorem at28 (x0 : ByteArray × ByteArray × ByteArray × Unit) (x1 : ByteArray × ByteArray × ByteArray × Unit) (h : P28 x0 x1) (w0 : World) (O : List Nat) (q : Nat → Value) : AtV Tryz.prog 28 (PostR [⟨Ty.int IntKind.i64, g28_0 x0 x1⟩] [] [] q w0 O) 17 w0 O q [] [.code b28] (entE 0 0 sig28 (x0, x1, ())) (entL sig28 (x0, x1, ())) := by
  unfold P28 at h
  unfold g28_0
  exact AtV.fin Tryz.func28 tabOk ext28Ok mixed (p28_0 x0 x1) ⟨trivial, trivial, trivial, trivial⟩

def S28 : Am.Spec := { sig := sig28, pre := fun ⟨x0, x1, _⟩ => P28 x0 x1, res := fun ⟨x0, x1, _⟩ => [⟨Ty.int IntKind.i64, g28_0 x0 x1⟩] }
theorem con28 : Contract Tryz.prog 28 S28 := contract_of Tryz.func28 hb28 (Nat.le_of_ble_eq_true (by kernel_rfl)) (fun ⟨x0, x1, _⟩ h _ w0 O q => at28 x0 x1 h w0 O q)


end Go.Proofs.YteojabdeehagnaaGreatDoor

/- Function 17 (impl.ValidBlocks): its runs between cut points. Written by a program of this repo (gen). -/
set_option linter.unusedVariables false
set_option linter.unusedSimpArgs false
set_option maxRecDepth 100000
namespace Go.Proofs.YteojabdeehagnaaGreatDoor
open Go Go.Am Go.Proofs
def ext17 : Ext := [(27, S27), (28, S28)]
theorem call17_27 : Callable Tryz.prog 27 := ⟨Tryz.f27, Tryz.func27, by kernel_rfl, by kernel_rfl⟩
theorem call17_28 : Callable Tryz.prog 28 := ⟨Tryz.f28, Tryz.func28, by kernel_rfl, by kernel_rfl⟩
theorem ext17Ok : ExtOk Tryz.prog ext17 := ⟨⟨call17_27, con27⟩, ⟨call17_28, con28⟩, trivial⟩
/-! Function 17. -/
noncomputable def b17 : Code := bodyOf Tryz.f17
theorem hb17 : Tryz.f17.body = some b17 := by kernel_rfl
def sig17 : List AT := [AT.v (Ty.sl (Ty.cons Ty.str (Ty.cons Ty.str (Ty.cons Ty.str Ty.unit))))]
def tys17 : List Ty := [Ty.bool]
def E17_2 (v7 : Int) (x0 : List (ByteArray × ByteArray × ByteArray × Unit)) : Env := [(0, PV.a (Atom.sl (Ty.cons Ty.str (Ty.cons Ty.str (Ty.cons Ty.str Ty.unit))) x0)), (5, PV.a (Atom.sl (Ty.cons Ty.str (Ty.cons Ty.str (Ty.cons Ty.str Ty.unit))) x0)), (6, PV.a (Atom.val (Value.int IntKind.i64 (↑(List.length x0) : Int)))), (7, PV.a (Atom.val (Value.int IntKind.i64 v7)))]
def L17_2 (v7 : Int) (x0 : List (ByteArray × ByteArray × ByteArray × Unit)) : Heap := []
mutual
def R17 : Nat → List (ByteArray × ByteArray × ByteArray × Unit) → List Dyn → Prop
  | 0, _, _ => False
  | n + 1, x0, ds => (R17_2 n (0) (x0) ds)
def R17_2 : Nat → Int → List (ByteArray × ByteArray × ByteArray × Unit) → List Dyn → Prop
  | 0, _, _, _ => False
  | n + 1, v7, x0, ds => (if (Decidable.decide (v7 < (↑(List.length x0) : Int))) = true then ((0 ≤ v7) ∧ (v7 < (↑(List.length x0) : Int)) ∧ ((P27 (List.getD x0 (Int.toNat v7) (ByteArray.empty, ByteArray.empty, ByteArray.empty, ()))) ∧ (if (!g27_0 (List.getD x0 (Int.toNat v7) (ByteArray.empty, ByteArray.empty, ByteArray.empty, ()))) = true then (ds = [Dyn.mk Ty.bool Bool.false]) else (if (Decidable.decide (v7 > 0)) = true then ((InR IntKind.i64 (v7 - 1)) ∧ ((0 ≤ v7 - 1) ∧ (v7 - 1 < (↑(List.length x0) : Int)) ∧ (if (Decidable.decide (g28_0 (List.getD x0 (Int.toNat (v7 - 1)) (ByteArray.empty, ByteArray.empty, ByteArray.empty, ())) (List.getD x0 (Int.toNat v7) (ByteArray.empty, ByteArray.empty, ByteArray.empty, ())) ≥ 0)) = true then (ds = [Dyn.mk Ty.bool Bool.false]) else ((InR IntKind.i64 (v7 + 1)) ∧ (R17_2 n (v7 + 1) (x0) ds))))) else ((InR IntKind.i64 (v7 + 1)) ∧ (R17_2 n (v7 + 1) (x0) ds)))))) else (ds = [Dyn.mk Ty.bool (Decidable.decide ((↑(List.length x0) : Int) ≤ 32))]))
end
theorem p17_0 (x0 : List (ByteArray × ByteArray × ByteArray × Unit)) : Am.runN tab ext17 false 33 [] 2000 [] [] [0, 5, 6, 7] [] [] [.code b17] (entE 0 0 sig17 (x0, ())) (entL sig17 (x0, ())) = some (cutAt b17 2, E17_2 (0) (x0), L17_2 (0) (x0), []) := by kernel_rfl
theorem p17_1 (v7 : Int) (x0 : List (ByteArray × ByteArray × ByteArray × Unit)) : runF tab ext17 false 33 [] 2000 [] tys17 Tryz.f17.results [true, true, true] (cutAt b17 2) (E17_2 v7 x0) (L17_2 v7 x0) = some ([Dyn.mk Ty.bool Bool.false], [], [Decidable.decide (v7 < (↑(List.length x0) : Int)) = Bool.true, 0 ≤ v7, v7 < (↑(List.length x0) : Int), P27 (List.getD x0 (Int.toNat v7) (ByteArray.empty, ByteArray.empty, ByteArray.empty, ())), (!g27_0 (List.getD x0 (Int.toNat v7) (ByteArray.empty, ByteArray.empty, ByteArray.empty, ()))) = Bool.true, Bool.true = Bool.true]) := by kernel_rfl
theorem p17_2 (v7 : Int) (x0 : List (ByteArray × ByteArray × ByteArray × Unit)) : runF tab ext17 false 33 [] 2000 [] tys17 Tryz.f17.results [true, false, true, true] (cutAt b17 2) (E17_2 v7 x0) (L17_2 v7 x0) = some ([Dyn.mk Ty.bool Bool.false], [], [Decidable.decide (v7 < (↑(List.length x0) : Int)) = Bool.true, 0 ≤ v7, v7 < (↑(List.length x0) : Int), P27 (List.getD x0 (Int.toNat v7) (ByteArray.empty, ByteArray.empty, ByteArray.empty, ())), (!g27_0 (List.getD x0 (Int.toNat v7) (ByteArray.empty, ByteArray.empty, ByteArray.empty, ()))) = Bool.false, Decidable.decide (v7 > 0) = Bool.true, InR IntKind.i64 (v7 - 1), 0 ≤ v7 - 1, v7 - 1 < (↑(List.length x0) : Int), True, Decidable.decide (g28_0 (List.getD x0 (Int.toNat (v7 - 1)) (ByteArray.empty, ByteArray.empty, ByteArray.empty, ())) (List.getD x0 (Int.toNat v7) (ByteArray.empty, ByteArray.empty, ByteArray.empty, ())) ≥ 0) = Bool.true]) := by kernel_rfl
theorem p17_3 (v7 : Int) (x0 : List (ByteArray × ByteArray × ByteArray × Unit)) : Am.runN tab ext17 false 33 [] 2000 [] [] [0, 5, 6, 7] [] [true, false, true, false] (cutAt b17 2) (E17_2 v7 x0) (L17_2 v7 x0) = some (cutAt b17 2, E17_2 (v7 + 1) (x0), L17_2 (v7 + 1) (x0), [Decidable.decide (v7 < (↑(List.length x0) : Int)) = Bool.true, 0 ≤ v7, v7 < (↑(List.length x0) : Int), P27 (List.getD x0 (Int.toNat v7) (ByteArray.empty, ByteArray.empty, ByteArray.empty, ())), (!g27_0 (List.getD x0 (Int.toNat v7) (ByteArray.empty, ByteArray.empty, ByteArray.empty, ()))) = Bool.false, Decidable.decide (v7 > 0) = Bool.true, InR IntKind.i64 (v7 - 1), 0 ≤ v7 - 1, v7 - 1 < (↑(List.length x0) : Int), True, Decidable.decide (g28_0 (List.getD x0 (Int.toNat (v7 - 1)) (ByteArray.empty, ByteArray.empty, ByteArray.empty, ())) (List.getD x0 (Int.toNat v7) (ByteArray.empty, ByteArray.empty, ByteArray.empty, ())) ≥ 0) = Bool.false, InR IntKind.i64 (v7 + 1)]) := by kernel_rfl
theorem p17_4 (v7 : Int) (x0 : List (ByteArray × ByteArray × ByteArray × Unit)) : Am.runN tab ext17 false 33 [] 2000 [] [] [0, 5, 6, 7] [] [true, false, false, false] (cutAt b17 2) (E17_2 v7 x0) (L17_2 v7 x0) = some (cutAt b17 2, E17_2 (v7 + 1) (x0), L17_2 (v7 + 1) (x0), [Decidable.decide (v7 < (↑(List.length x0) : Int)) = Bool.true, 0 ≤ v7, v7 < (↑(List.length x0) : Int), P27 (List.getD x0 (Int.toNat v7) (ByteArray.empty, ByteArray.empty, ByteArray.empty, ())), (!g27_0 (List.getD x0 (Int.toNat v7) (ByteArray.empty, ByteArray.empty, ByteArray.empty, ()))) = Bool.false, Decidable.decide (v7 > 0) = Bool.false, Bool.false = Bool.false, InR IntKind.i64 (v7 + 1)]) := by kernel_rfl
theorem p17_5 (v7 : Int) (x0 : List (ByteArray × ByteArray × ByteArray × Unit)) : runF tab ext17 false 33 [] 2000 [] tys17 Tryz.f17.results [false] (cutAt b17 2) (E17_2 v7 x0) (L17_2 v7 x0) = some ([Dyn.mk Ty.bool (Decidable.decide ((↑(List.length x0) : Int) ≤ 32))], [], [Decidable.decide (v7 < (↑(List.length x0) : Int)) = Bool.false]) := by kernel_rfl
theorem snd17 : ∀ n, (∀ (x0 : List (ByteArray × ByteArray × ByteArray × Unit)) ds, R17 n x0 ds → ∀ w0 O q, AtV Tryz.prog 17 (PostR ds [] [] q w0 O) 33 w0 O q [] [.code b17] (entE 0 0 sig17 (x0, ())) (entL sig17 (x0, ()))) ∧ (∀ (v7 : Int) (x0 : List (ByteArray × ByteArray × ByteArray × Unit)) ds, R17_2 n v7 x0 ds → ∀ w0 O q, AtV Tryz.prog 17 (PostR ds [] [] q w0 O) 33 w0 O q [] (cutAt b17 2) (E17_2 v7 x0) (L17_2 v7 x0)) := by
  intro n
  induction n with
  | zero => exact ⟨fun _ _ h => by simp only [R17] at h, fun _ _ _ h => by simp only [R17_2] at h⟩
  | succ n ih =>
  obtain ⟨ih, ih2⟩ := ih
  refine ⟨?_, ?_⟩
  · intro x0 ds h w0 O q
    rw [R17] at h
    exact AtV.runN tabOk ext17Ok mixed (p17_0 x0) trivial (ih2 _ _ _ h w0 O q)

  · intro v7 x0 ds h w0 O q
    rw [R17_2] at h
    by_cases b0 : (Decidable.decide (v7 < (↑(List.length x0) : Int))) = true
    · rw [if_pos b0] at h
      obtain ⟨s0, s1, h⟩ := h
      obtain ⟨s2, h⟩ := h
      by_cases b1 : (!g27_0 (List.getD x0 (Int.toNat v7) (ByteArray.empty, ByteArray.empty, ByteArray.empty, ()))) = true
      · rw [if_pos b1] at h
        subst h
        exact AtV.fin Tryz.func17 tabOk ext17Ok mixed (p17_1 v7 x0) ⟨b0, s0, s1, s2, b1, rfl, trivial⟩
      · rw [if_neg b1] at h
        replace b1 := Bool.eq_false_iff.2 b1
        by_cases b2 : (Decidable.decide (v7 > 0)) = true
        · rw [if_pos b2] at h
          obtain ⟨s3, h⟩ := h
          obtain ⟨s4, s5, h⟩ := h
          by_cases b3 : (Decidable.decide (g28_0 (List.getD x0 (Int.toNat (v7 - 1)) (ByteArray.empty, ByteArray.empty, ByteArray.empty, ())) (List.getD x0 (Int.toNat v7) (ByteArray.empty, ByteArray.empty, ByteArray.empty, ())) ≥ 0)) = true
          · rw [if_pos b3] at h
            subst h
            exact AtV.fin Tryz.func17 tabOk ext17Ok mixed (p17_2 v7 x0) ⟨b0, s0, s1, s2, b1, b2, s3, s4, s5, trivial, b3, trivial⟩
          · rw [if_neg b3] at h
            replace b3 := Bool.eq_false_iff.2 b3
            obtain ⟨s6, h⟩ := h
            exact AtV.runN tabOk ext17Ok mixed (p17_3 v7 x0) ⟨b0, s0, s1, s2, b1, b2, s3, s4, s5, trivial, b3, s6, trivial⟩ (ih2 _ _ _ h w0 O q)
        · rw [if_neg b2] at h
          replace b2 := Bool.eq_false_iff.2 b2
          obtain ⟨s3, h⟩ := h
          exact AtV.runN tabOk ext17Ok mixed (p17_4 v7 x0) ⟨b0, s0, s1, s2, b1, b2, rfl, s3, trivial⟩ (ih2 _ _ _ h w0 O q)
    · rw [if_neg b0] at h
      replace b0 := Bool.eq_false_iff.2 b0
      subst h
      exact AtV.fin Tryz.func17 tabOk ext17Ok mixed (p17_5 v7 x0) ⟨b0, trivial⟩



/-- A block at its place. -/
def ok17 (x0 : List (ByteArray × ByteArray × ByteArray × Unit)) (i : Nat) (x : ByteArray × ByteArray × ByteArray × Unit) : Bool :=
  g27_0 x && (i == 0 || !decide (g28_0 (x0.getD (i - 1) (ByteArray.empty, ByteArray.empty, ByteArray.empty, ())) x ≥ 0))
def g17_0 (x0 : List (ByteArray × ByteArray × ByteArray × Unit)) : Bool := allI (ok17 x0) 0 x0 && decide (x0.length ≤ 32)
def P17 (x0 : List (ByteArray × ByteArray × ByteArray × Unit)) : Prop := True

theorem step17 (n i : Nat) (x0 : List (ByteArray × ByteArray × ByteArray × Unit)) (hm : x0.length ≤ maxLen) (hi : i < x0.length) (ds : List Dyn) :
    (if ok17 x0 i (x0.getD i (ByteArray.empty, ByteArray.empty, ByteArray.empty, ())) = true then R17_2 n ((i : Int) + 1) x0 ds else ds = [⟨.bool, false⟩]) → R17_2 (n + 1) (i : Int) x0 ds := by
  intro h
  have hu := inR_up hm hi
  rw [R17_2, if_pos (by simp; omega)]
  refine ⟨by omega, by omega, ?_⟩
  simp only [Int.toNat_natCast]
  unfold ok17 at h
  refine ⟨pre27 _, ?_⟩
  by_cases h1 : g27_0 (x0.getD i (ByteArray.empty, ByteArray.empty, ByteArray.empty, ())) = true
  case neg =>
    have h1 := Bool.eq_false_iff.2 h1
    rw [h1] at h
    rw [if_pos (by rw [h1]; rfl)]
    simpa using h
  case pos =>
    rw [h1] at h
    rw [if_neg (by rw [h1]; simp)]
    by_cases h0 : (i : Int) > 0
    · rw [if_pos (by simpa using h0)]
      have hi0 : (i == 0) = false := by simp; omega
      have e : ((i : Int) - 1).toNat = i - 1 := by omega
      refine ⟨by rw [i64_iff]; have : maxLen ≤ 9223372036854775807 := by decide
                 omega, by omega, by omega, ?_⟩
      rw [e]
      by_cases h2 : g28_0 (x0.getD (i - 1) (ByteArray.empty, ByteArray.empty, ByteArray.empty, ())) (x0.getD i (ByteArray.empty, ByteArray.empty, ByteArray.empty, ())) ≥ 0
      · rw [if_pos (by simpa using h2)]
        rw [hi0, decide_eq_true h2] at h
        simpa using h
      · rw [if_neg (by simpa using h2)]
        rw [hi0, decide_eq_false h2] at h
        exact ⟨hu, by simpa using h⟩
    · rw [if_neg (by simpa using h0)]
      have hi0 : (i == 0) = true := by simp; omega
      rw [hi0] at h
      exact ⟨hu, by simpa using h⟩

theorem top17 (x0 : List (ByteArray × ByteArray × ByteArray × Unit)) (hw : x0.length ≤ maxLen) : R17 (x0.length + 1 + 1) x0 [⟨.bool, g17_0 x0⟩] := by
  rw [R17]
  have key := loop_testI x0 (ByteArray.empty, ByteArray.empty, ByteArray.empty, ()) (ok17 x0) [(⟨.bool, false⟩ : Dyn)] [⟨.bool, decide (x0.length ≤ 32)⟩] (fun n i ds => R17_2 n i x0 ds) (fun n => ?_) (fun n i hi hok ds hr => ?_) (fun n i hi hok => ?_)
  · unfold g17_0
    cases h : allI (ok17 x0) 0 x0 with
    | true => rw [if_pos h] at key; simpa using key
    | false => rw [if_neg (by rw [h]; simp)] at key; simpa using key
  · rw [R17_2, if_neg (by simp)]
    have hc : decide ((x0.length : Int) ≤ 32) = decide (x0.length ≤ 32) := by
      congr 1; exact propext ⟨fun h => by omega, fun h => by omega⟩
    rw [hc]
  · exact step17 n i x0 hw hi ds (by rw [if_pos hok]; exact hr)
  · exact step17 n i x0 hw hi _ (by rw [if_neg (by rw [hok]; simp)])

def S17 : Am.Spec := { sig := sig17, pre := fun ⟨x0, _⟩ => P17 x0, res := fun ⟨x0, _⟩ => [⟨Ty.bool, g17_0 x0⟩] }
theorem con17 : Contract Tryz.prog 17 S17 := contract_of Tryz.func17 hb17 (Nat.le_of_ble_eq_true (by kernel_rfl)) (fun ⟨x0, _⟩ h hwf w0 O q =>
  (snd17 _).1 x0 _ (top17 x0 hwf.1.1) w0 O q)

end Go.Proofs.YteojabdeehagnaaGreatDoor

/- Function 40 (strings.Cut): its contract, off what is known of the library. -/
set_option linter.unusedVariables false
set_option linter.unusedSimpArgs false
set_option maxRecDepth 100000
namespace Go.Proofs.YteojabdeehagnaaGreatDoor
open Go Go.Am Go.Proofs

def sig40 : List AT := [AT.v Ty.str, AT.v Ty.str]
def g40_0 (x0 x1 : ByteArray) : ByteArray := ⟨(Lib.cut x0.data.toList x1.data.toList).1.toArray⟩
def g40_1 (x0 x1 : ByteArray) : ByteArray := ⟨(Lib.cut x0.data.toList x1.data.toList).2.1.toArray⟩
def g40_2 (x0 x1 : ByteArray) : Bool := (Lib.cut x0.data.toList x1.data.toList).2.2
def P40 (x0 x1 : ByteArray) : Prop := x0.size < 4294967281
def S40 : Am.Spec := { sig := sig40, pre := fun ⟨x0, x1, _⟩ => P40 x0 x1, res := fun ⟨x0, x1, _⟩ => [⟨Ty.str, g40_0 x0 x1⟩, ⟨Ty.str, g40_1 x0 x1⟩, ⟨Ty.bool, g40_2 x0 x1⟩] }
theorem cutLen40 (s sep : List UInt8) : (Lib.cut s sep).1.length ≤ s.length ∧ (Lib.cut s sep).2.1.length ≤ s.length := by
  unfold Lib.cut
  split
  · exact ⟨by simp; omega, by simp⟩
  · exact ⟨Nat.le_refl _, Nat.zero_le _⟩
theorem con40 : Contract Tryz.prog 40 S40 := contract_flat rfl fun w ⟨x0, x1, _⟩ vs bss hg hp hw ha => by
  obtain ⟨v0, s0, _, _, rfl, _, ⟨_, rfl, _⟩, v1, s1, _, _, rfl, _, ⟨_, rfl, _⟩, rfl, _⟩ := ha
  have hp : x0.size < 4294967281 := hp
  obtain ⟨l1, l2⟩ := cutLen40 x0.data.toList x1.data.toList
  have e : x0.data.toList.length = x0.size := rfl
  refine ⟨fun d hd => ?_, ?_⟩
  · simp only [S40, List.mem_cons, List.mem_nil_iff, or_false] at hd
    rcases hd with rfl | rfl | rfl
    · refine ⟨rfl, ?_⟩
      show (List.toArray _).size ≤ maxLen
      rw [List.size_toArray]; unfold maxLen; omega
    · refine ⟨rfl, ?_⟩
      show (List.toArray _).size ≤ maxLen
      rw [List.size_toArray]; unfold maxLen; omega
    · exact ⟨rfl, trivial⟩
  · obtain ⟨m, hm⟩ := maxLenG hg
    refine (Tryz.strings_Cut x0 x1 m w hp hm).mono ?_
    rintro e w' ⟨rfl, n, rfl⟩
    exact ⟨rfl, ⟨rfl, rfl, rfl, Nat.le_refl _, fun _ _ _ => rfl⟩⟩

end Go.Proofs.YteojabdeehagnaaGreatDoor

/- Function 49 (strings.Split): its contract, off what is known of the library. -/
set_option linter.unusedVariables false
set_option linter.unusedSimpArgs false
set_option maxRecDepth 100000
namespace Go.Proofs.YteojabdeehagnaaGreatDoor
open Go Go.Am Go.Proofs

def sig49 : List AT := [AT.v Ty.str, AT.v Ty.str]
def g49_0 (x0 x1 : ByteArray) : List ByteArray := Lib.splitB x1 0 (Lib.countB x0 x1) x0
def P49 (x0 x1 : ByteArray) : Prop := x0.size < 4294967281 ∧ 1 ≤ x1.size
def S49 : Am.Spec := { sig := sig49, pre := fun ⟨x0, x1, _⟩ => P49 x0 x1, res := fun ⟨x0, x1, _⟩ => [⟨Ty.sl Ty.str, g49_0 x0 x1⟩] }

theorem con49 : Contract Tryz.prog 49 S49 := by
  rintro w ⟨x0, x1, u⟩ vs bss hgo hp ⟨v0, s0, b0, bs0, rfl, rfl, ⟨rfl, rfl, _⟩, v1, s1, b1, bs1, rfl, rfl, ⟨rfl, rfl, _⟩, rfl, rfl⟩ hn
  obtain ⟨hs, h1⟩ : x0.size < 4294967281 ∧ 1 ≤ x1.size := hp
  obtain ⟨m, hm⟩ := maxLenG hgo.inv
  refine (Tryz.strings_Split x0 x1 m w hs hm h1).mono ?_
  rintro e w' ⟨rfl, rfl⟩
  have hlen : (g49_0 x0 x1).length = Lib.countB x0 x1 + 1 := Lib.splitB_all x1 h1 0 _ _ rfl
  have hle := Lib.countB_le x1 h1 x0.size x0 (Nat.le_refl _)
  have hparts : ∀ y ∈ g49_0 x0 x1, y.size ≤ maxLen := fun y hy => by
    have := splitB_part x1 0 _ _ y hy
    unfold maxLen; omega
  have e1 : ∀ xs : List ByteArray, fcs .str xs = xs.map Value.string := by
    intro xs
    induction xs with
    | nil => rfl
    | cons a r ih => unfold fcs at ih ⊢; rw [List.map_cons, List.flatten_cons, ih]; rfl
  have ho : OwnC (w.alloc (.cells ((g49_0 x0 x1).map Value.string).toArray 9)) (.sl .str) (g49_0 x0 x1) [.slice (some ⟨w.heap.size, 0, none⟩) (Lib.countB x0 x1 + 1) (Lib.countB x0 x1 + 1)] [w.heap.size] :=
    own_flat_mk rfl hparts hlen.symm (Nat.le_of_eq hlen) (by unfold maxLen; omega) (by rw [List.size_toArray, List.length_map, hlen]; simp [Ty.size]) (heap_new w _) (freeS_zero _ _) (fun j u hj => by
      rw [e1] at hj
      rw [Nat.zero_add, ← Array.getElem?_toList]
      exact hj)
  refine ⟨[_], [], [[w.heap.size]], rfl, (Kept.refl _ _).alloc _, ⟨_, _, _, _, _, rfl, rfl, ho, rfl, rfl, rfl⟩, ⟨rfl, rfl⟩, by simp, fun b hb hg => ?_⟩
  simp at hb
  have := hg.1
  omega

end Go.Proofs.YteojabdeehagnaaGreatDoor

/- Function 62 (strconv.ParseInt): its contract, off what is known of the library. -/
set_option linter.unusedVariables false
set_option linter.unusedSimpArgs false
set_option maxRecDepth 100000
namespace Go.Proofs.YteojabdeehagnaaGreatDoor
open Go Go.Am Go.Proofs

/-- What ParseInt(s, 10, 64) gives. -/
theorem parseOk62 (s : ByteArray) (hs : s.size ≤ 281474976710656) (v : Int) (h : Lib.parseIntB 64 s.data.toList = .ok v) (W : World) :
    Calls Tryz.prog 62 #[.string s, .int .i64 10, .int .i64 64] W fun e w' => e = .returned (.tuple #[.int .i64 v, .nilIface]) ∧ Go.RowKit.Below W.heap.size W w' := by
  refine (Tryz.strconv_ParseInt_10_at64_ok s (by omega) v h W).mono ?_
  rintro e w' ⟨rfl, hw⟩
  refine ⟨rfl, ?_⟩
  rcases hw with rfl | ⟨t, rfl⟩
  · exact Go.RowKit.Below.refl _ _
  · exact Lib.bytesWorld_below _ _ _

theorem parseNo62 (s : ByteArray) (hs : s.size ≤ 281474976710656) (h : ∀ v, Lib.parseIntB 64 s.data.toList ≠ .ok v) (W : World) (hg : GInv W) :
    Calls Tryz.prog 62 #[.string s, .int .i64 10, .int .i64 64] W fun e w' => ∃ n t N, e = .returned (.tuple #[.int .i64 n, .iface t (.pointer (some ⟨N, 0, none⟩))]) ∧ Go.RowKit.Below W.heap.size W w' := by
  obtain ⟨es, hes, hes2⟩ := errSyntaxG hg
  obtain ⟨er, her, her2⟩ := errRangeG hg
  rcases hp : Lib.parseIntB 64 s.data.toList with v | _ | _
  · exact absurd hp (h v)
  · refine (Tryz.strconv_ParseInt_10_at64_syntax s hs hp es W hes hes2).mono ?_
    rintro e w' ⟨N, rfl, _, _, hb⟩
    exact ⟨_, _, _, rfl, hb⟩
  · refine (Tryz.strconv_ParseInt_10_at64_range s hs hp er W her her2).mono ?_
    rintro e w' ⟨N, rfl, _, _, hb⟩
    exact ⟨_, _, _, rfl, hb⟩

end Go.Proofs.YteojabdeehagnaaGreatDoor

/- Function 61 (strings.TrimPrefix): its contract, off what is known of the library. -/
set_option linter.unusedVariables false
set_option linter.unusedSimpArgs false
set_option maxRecDepth 100000
namespace Go.Proofs.YteojabdeehagnaaGreatDoor
open Go Go.Am Go.Proofs
def sig61 : List AT := [AT.v Ty.str, AT.v Ty.str]
def g61_0 (x0 x1 : ByteArray) : ByteArray := ⟨(Lib.trimPrefix x0.data.toList x1.data.toList).toArray⟩
def P61 (x0 x1 : ByteArray) : Prop := True
def S61 : Am.Spec := { sig := sig61, pre := fun ⟨x0, x1, _⟩ => P61 x0 x1, res := fun ⟨x0, x1, _⟩ => [⟨Ty.str, g61_0 x0 x1⟩] }
theorem con61 : Contract Tryz.prog 61 S61 := contract_flat rfl fun w ⟨x0, x1, _⟩ vs bss hg hp hw ha => by
  obtain ⟨v0, s0, _, _, rfl, _, ⟨_, rfl, _⟩, v1, s1, _, _, rfl, _, ⟨_, rfl, _⟩, rfl, _⟩ := ha
  have hi : x0.size ≤ maxLen := hw.1
  refine ⟨fun d hd => ?_, ?_⟩
  · rw [List.mem_singleton.1 hd]
    refine ⟨rfl, ?_⟩
    show (List.toArray _).size ≤ maxLen
    rw [List.size_toArray]
    have e : x0.data.toList.length = x0.size := rfl
    unfold Lib.trimPrefix
    split
    · rw [List.length_drop]; omega
    · omega
  · refine (Tryz.strings_TrimPrefix x0 x1 w).mono ?_
    rintro e w' ⟨rfl, rfl⟩
    exact ⟨rfl, Kept.refl _ _⟩

end Go.Proofs.YteojabdeehagnaaGreatDoor

/- Function 64 (strconv.FormatInt): its contract, off what is known of the library. -/
set_option linter.unusedVariables false
set_option linter.unusedSimpArgs false
set_option maxRecDepth 100000
namespace Go.Proofs.YteojabdeehagnaaGreatDoor
open Go Go.Am Go.Proofs

def sig64 : List AT := [AT.v (Ty.int .i64), AT.v (Ty.int .i64)]
def g64_0 (x0 x1 : Int) : ByteArray := numB x0
def P64 (x0 x1 : Int) : Prop := x1 = 10
def S64 : Am.Spec := { sig := sig64, pre := fun ⟨x0, x1, _⟩ => P64 x0 x1, res := fun ⟨x0, x1, _⟩ => [⟨Ty.str, g64_0 x0 x1⟩] }
theorem con64 : Contract Tryz.prog 64 S64 := contract_flat rfl fun w ⟨x0, x1, _⟩ vs bss hg hp hw ha => by
  obtain ⟨v0, s0, _, _, rfl, _, ⟨_, rfl, hi⟩, v1, s1, _, _, rfl, _, ⟨_, rfl, _⟩, rfl, _⟩ := ha
  obtain rfl : x1 = 10 := hp
  have hi : InR .i64 x0 := hi
  rw [i64_iff] at hi
  refine ⟨fun d hd => ?_, ?_⟩
  · rw [List.mem_singleton.1 hd]
    refine ⟨rfl, ?_⟩
    show (numB x0).size ≤ maxLen
    have := numB_size x0 hi.1 hi.2
    unfold maxLen; omega
  · refine (Tryz.strconv_FormatInt_10 x0 hi.1 hi.2 w (pow10G hg)).mono ?_
    rintro e w' ⟨rfl, n, os, rfl⟩
    exact ⟨rfl, kept_grow _ _ _⟩

end Go.Proofs.YteojabdeehagnaaGreatDoor

/- Function 57 (impl.Decimal): its runs between cut points. Written by a program of this repo (gen). -/
set_option linter.unusedVariables false
set_option linter.unusedSimpArgs false
set_option maxRecDepth 100000
namespace Go.Proofs.YteojabdeehagnaaGreatDoor
open Go Go.Am Go.Proofs
def ext57 : Ext := [(64, S64)]
theorem call57_64 : Callable Tryz.prog 64 := ⟨Tryz.f64, Tryz.func64, by kernel_rfl, by kernel_rfl⟩
theorem ext57Ok : ExtOk Tryz.prog ext57 := ⟨⟨call57_64, con64⟩, trivial⟩
/-! Function 57. -/
noncomputable def b57 : Code := bodyOf Tryz.f57
theorem hb57 : Tryz.f57.body = some b57 := by kernel_rfl
def sig57 : List AT := [AT.v (Ty.int IntKind.i64)]
def tys57 : List Ty := [Ty.str]
def P57 (x0 : Int) : Prop := ((P64 x0 10) ∧ True)
def g57_0 (x0 : Int) : ByteArray := g64_0 x0 10
theorem p57_0 (x0 : Int) : runF tab ext57 false 5 [] 2000 [] tys57 Tryz.f57.results [] [.code b57] (entE 0 0 sig57 (x0, ())) (entL sig57 (x0, ())) = some ([Dyn.mk Ty.str (g64_0 x0 10)], [], [P64 x0 10]) := by kernel_rfl
theorem at57 (x0 : Int) (h : P57 x0) (w0 : World) (O : List Nat) (q : Nat → Value) : AtV Tryz.prog 57 (PostR [⟨Ty.str, g57_0 x0⟩] [] [] q w0 O) 5 w0 O q [] [.code b57] (entE 0 0 sig57 (x0, ())) (entL sig57 (x0, ())) := by
  unfold P57 at h
  unfold g57_0
  obtain ⟨s0, h⟩ := h
  exact AtV.fin Tryz.func57 tabOk ext57Ok mixed (p57_0 x0) ⟨s0, trivial⟩

def S57 : Am.Spec := { sig := sig57, pre := fun ⟨x0, _⟩ => P57 x0, res := fun ⟨x0, _⟩ => [⟨Ty.str, g57_0 x0⟩] }
theorem con57 : Contract Tryz.prog 57 S57 := contract_of Tryz.func57 hb57 (Nat.le_of_ble_eq_true (by kernel_rfl)) (fun ⟨x0, _⟩ h _ w0 O q => at57 x0 h w0 O q)


end Go.Proofs.YteojabdeehagnaaGreatDoor

/- Function 50 (impl.ReadDecimal): its contract; by the kit's walk, the callees by their contracts. -/
set_option linter.unusedVariables false
set_option linter.unusedSimpArgs false
set_option maxRecDepth 100000
namespace Go.Proofs.YteojabdeehagnaaGreatDoor
open Go Go.Am Go.Proofs Go.RowKit

theorem dec50 (W : World) (n : Int) (hi : InR .i64 n) (hgo : GOk W []) :
    Calls Tryz.prog 57 #[.int .i64 n] W fun e w' => e = .returned (.string (numB n)) ∧ Below W.heap.size W w' := by
  have h := con57 W (n, ()) [.int .i64 n] [[]] hgo ⟨rfl, trivial⟩ ⟨_, [], [], [], rfl, rfl, ⟨rfl, rfl, hi⟩, rfl, rfl⟩ (by simp)
  refine h.mono ?_
  rintro e w' ⟨rs, ubs, rbs, rfl, hk, ⟨u, s, b1, bs1, cs, rfl, rfl, ho, hv, rfl, rfl⟩, _⟩
  obtain ⟨ho, _⟩ := ho
  have hv : cs = [u] := hv
  rw [ho] at hv
  cases hv
  exact ⟨rfl, hk.below⟩

theorem trim50 (W : World) (s d : ByteArray) (h : g61_0 s ⟨#[45]⟩ = d) : Calls Tryz.prog 61 #[.string s, .string ⟨#[45]⟩] W fun e w' => e = .returned (.string d) ∧ w' = W := by
  rw [← h]
  exact Tryz.strings_TrimPrefix s ⟨#[45]⟩ W

theorem gok50 {w W : World} (h : GOk w []) (hb : Below w.heap.size w W) : GOk W [] where
  inv := h.inv.keep fun b _ hs => hb.5 b hs
  size := Nat.le_trans h.size hb.4
  out := h.out

theorem range50 {l : List UInt8} {v : Int} (h : Lib.parseIntB 64 l = .ok v) : InR .i64 v := by
  unfold Lib.parseIntB at h
  split at h
  · cases h
  · simp only at h
    split at h
    · cases h
    · cases h
    · split at h
      · cases h
      · split at h
        · cases h
        · rename_i u _ h1 h2
          have e1 : (2 : Nat) ^ (64 - 1) = 9223372036854775808 := by decide
          rw [e1] at h1 h2
          rw [i64_iff]
          split at h
          · cases h; rename_i hn; have : ¬ 9223372036854775808 < u := fun hh => h2 ⟨hn, hh⟩; omega
          · cases h; rename_i hn; have : ¬ 9223372036854775808 ≤ u := fun hh => h1 ⟨hn, hh⟩; omega

def long50 (s : ByteArray) : Bool := decide ((g61_0 s ⟨#[45]⟩).size < 1) || decide (18 < (g61_0 s ⟨#[45]⟩).size)
def rd50 (s : ByteArray) : Option Int := if long50 s = true then none else match Lib.parseIntB 64 s.data.toList with
  | .ok v => if numB v = s then some v else none
  | _ => none

set_option maxHeartbeats 4000000 in
theorem walkShort50 (w : World) (s d : ByteArray) (HD : Aside (g61_0 s ⟨#[45]⟩ = d)) (h1 : (d.size : Int) < 1) :
    Calls Tryz.prog 50 #[.string s] w fun e w' => e = .returned (.tuple #[.int .i64 0, .bool false]) ∧ Below w.heap.size w w' := by
  have mixed := mixed
  go_enter Tryz.func50, Tryz.ntmps50
  go_wp2_with (go_at_call 61; refine (trim50 _ s d HD.out).mono ?_; rintro e w1 ⟨rfl, rfl⟩)
  go_ret2
  exact ⟨rfl, Below.refl _ _⟩

set_option maxHeartbeats 4000000 in
theorem walkLong50 (w : World) (s d : ByteArray) (HD : Aside (g61_0 s ⟨#[45]⟩ = d)) (h1 : ¬ (d.size : Int) < 1) (h2 : (d.size : Int) > 18) :
    Calls Tryz.prog 50 #[.string s] w fun e w' => e = .returned (.tuple #[.int .i64 0, .bool false]) ∧ Below w.heap.size w w' := by
  have mixed := mixed
  go_enter Tryz.func50, Tryz.ntmps50
  go_wp2_with (go_at_call 61; refine (trim50 _ s d HD.out).mono ?_; rintro e w1 ⟨rfl, rfl⟩)
  go_ret2
  exact ⟨rfl, Below.refl _ _⟩

set_option maxHeartbeats 4000000 in
theorem walkEq50 (w : World) (s d : ByteArray) (hs : s.size ≤ 281474976710656) (hgo : GOk w []) (HD : Aside (g61_0 s ⟨#[45]⟩ = d)) (h1 : ¬ (d.size : Int) < 1) (h2 : ¬ (d.size : Int) > 18) (v : Int) (HP : Aside (Lib.parseIntB 64 s.data.toList = .ok v)) (HE : Aside (numB v = s)) :
    Calls Tryz.prog 50 #[.string s] w fun e w' => e = .returned (.tuple #[.int .i64 v, .bool true]) ∧ Below w.heap.size w w' := by
  have mixed := mixed
  go_enter Tryz.func50, Tryz.ntmps50
  go_wp2_with (go_at_call 61; refine (trim50 _ s d HD.out).mono ?_; rintro e w1 ⟨rfl, rfl⟩)
  have HR : Aside (InR .i64 v) := range50 HP.out
  go_wp2_with (go_at_call 62; refine (parseOk62 s hs v HP.out _).mono ?_)
  rintro e w2 ⟨rfl, b2⟩
  go_wp2_with (go_at_call 57; refine (dec50 _ v HR.out (gok50 hgo b2)).mono ?_)
  rintro e w3 ⟨rfl, b3⟩
  rw [HE.out]
  go_wp2
  go_ret2
  exact ⟨rfl, b2.trans (b3.mono b2.size)⟩

set_option maxHeartbeats 4000000 in
theorem walkNe50 (w : World) (s d : ByteArray) (hs : s.size ≤ 281474976710656) (hgo : GOk w []) (HD : Aside (g61_0 s ⟨#[45]⟩ = d)) (h1 : ¬ (d.size : Int) < 1) (h2 : ¬ (d.size : Int) > 18) (v : Int) (HP : Aside (Lib.parseIntB 64 s.data.toList = .ok v)) (HE : Aside (¬ numB v = s)) :
    Calls Tryz.prog 50 #[.string s] w fun e w' => e = .returned (.tuple #[.int .i64 0, .bool false]) ∧ Below w.heap.size w w' := by
  have mixed := mixed
  go_enter Tryz.func50, Tryz.ntmps50
  go_wp2_with (go_at_call 61; refine (trim50 _ s d HD.out).mono ?_; rintro e w1 ⟨rfl, rfl⟩)
  have HR : Aside (InR .i64 v) := range50 HP.out
  go_wp2_with (go_at_call 62; refine (parseOk62 s hs v HP.out _).mono ?_)
  rintro e w2 ⟨rfl, b2⟩
  go_wp2_with (go_at_call 57; refine (dec50 _ v HR.out (gok50 hgo b2)).mono ?_)
  rintro e w3 ⟨rfl, b3⟩
  have he' : ((numB v).toList == s.toList) = false := by
    rw [Bool.eq_false_iff]; exact fun hh => HE.out ((bytes_eq _ _).1 hh)
  go_wp2
  go_ret2
  exact ⟨rfl, b2.trans (b3.mono b2.size)⟩

set_option maxHeartbeats 4000000 in
theorem walkNo50 (w : World) (s d : ByteArray) (hs : s.size ≤ 281474976710656) (hgo : GOk w []) (HD : Aside (g61_0 s ⟨#[45]⟩ = d)) (h1 : ¬ (d.size : Int) < 1) (h2 : ¬ (d.size : Int) > 18) (HP : Aside (∀ v, Lib.parseIntB 64 s.data.toList ≠ .ok v)) :
    Calls Tryz.prog 50 #[.string s] w fun e w' => e = .returned (.tuple #[.int .i64 0, .bool false]) ∧ Below w.heap.size w w' := by
  have mixed := mixed
  go_enter Tryz.func50, Tryz.ntmps50
  go_wp2_with (go_at_call 61; refine (trim50 _ s d HD.out).mono ?_; rintro e w1 ⟨rfl, rfl⟩)
  go_wp2_with (go_at_call 62; refine (parseNo62 s hs HP.out _ hgo.inv).mono ?_)
  rintro e w2 ⟨n, t, N, rfl, b2⟩
  go_wp2
  go_ret2
  exact ⟨rfl, b2⟩

def sig50 : List AT := [AT.v .str]
def g50_0 (x0 : ByteArray) : Int := (rd50 x0).getD 0
def g50_1 (x0 : ByteArray) : Bool := (rd50 x0).isSome
def P50 (x0 : ByteArray) : Prop := x0.size ≤ 281474976710656
def S50 : Am.Spec := { sig := sig50, pre := fun ⟨x0, _⟩ => P50 x0, res := fun ⟨x0, _⟩ => [⟨.int .i64, g50_0 x0⟩, ⟨.bool, g50_1 x0⟩] }

theorem con50 : Contract Tryz.prog 50 S50 := contract_flat rfl fun w ⟨x0, _⟩ vs bss hg hp hw ha => by
  obtain ⟨v0, s0, _, _, rfl, _, ⟨_, rfl, _⟩, rfl, _⟩ := ha
  have hs : x0.size ≤ 281474976710656 := hp
  have hgo : GOk w [] := ⟨hg, hg.size, fun b hb => by cases hb⟩
  refine ⟨fun d hd => ?_, ?_⟩
  · simp only [List.mem_cons, List.mem_nil_iff, or_false] at hd
    rcases hd with rfl | rfl
    · refine ⟨rfl, ?_⟩
      show InR .i64 ((rd50 x0).getD 0)
      have z : InR .i64 0 := by rw [i64_iff]; omega
      unfold rd50
      split
      · exact z
      · split
        · rename_i v h
          split
          · exact range50 h
          · exact z
        · exact z
    · exact ⟨rfl, trivial⟩
  · show Calls Tryz.prog 50 #[.string x0] w fun e w' => e = .returned (.tuple #[.int .i64 ((rd50 x0).getD 0), .bool (rd50 x0).isSome]) ∧ Kept [] w w'
    have hd : Aside (g61_0 x0 ⟨#[45]⟩ = g61_0 x0 ⟨#[45]⟩) := rfl
    unfold rd50 long50
    by_cases h1 : (g61_0 x0 ⟨#[45]⟩).size < 1
    · rw [if_pos (by simp [h1])]
      refine (walkShort50 w x0 _ hd (by omega)).mono ?_
      rintro e w' ⟨rfl, hb⟩
      exact ⟨rfl, Kept.of_below hb⟩
    · by_cases h2 : 18 < (g61_0 x0 ⟨#[45]⟩).size
      · rw [if_pos (by simp [h2])]
        refine (walkLong50 w x0 _ hd (by omega) (by omega)).mono ?_
        rintro e w' ⟨rfl, hb⟩
        exact ⟨rfl, Kept.of_below hb⟩
      · rw [if_neg (by simp [h1, h2])]
        by_cases hok : ∃ v, Lib.parseIntB 64 x0.data.toList = .ok v
        · obtain ⟨v, hv⟩ := hok
          rw [hv]
          by_cases he : numB v = x0
          · simp only [if_pos he]
            refine (walkEq50 w x0 _ hs hgo hd (by omega) (by omega) v hv he).mono ?_
            rintro e w' ⟨rfl, hb⟩
            exact ⟨rfl, Kept.of_below hb⟩
          · simp only [if_neg he]
            refine (walkNe50 w x0 _ hs hgo hd (by omega) (by omega) v hv he).mono ?_
            rintro e w' ⟨rfl, hb⟩
            exact ⟨rfl, Kept.of_below hb⟩
        · have hno : ∀ v, Lib.parseIntB 64 x0.data.toList ≠ .ok v := fun v hv => hok ⟨v, hv⟩
          have e : (match Lib.parseIntB 64 x0.data.toList with
            | .ok v => if numB v = x0 then some v else none
            | _ => none : Option Int) = none := by
            split
            · rename_i v hv; exact absurd hv (hno v)
            · rfl
          rw [e]
          refine (walkNo50 w x0 _ hs hgo hd (by omega) (by omega) hno).mono ?_
          rintro e w' ⟨rfl, hb⟩
          exact ⟨rfl, Kept.of_below hb⟩
end Go.Proofs.YteojabdeehagnaaGreatDoor

/- Function 58 (strings.Join): its contract, off what is known of the library. -/
set_option linter.unusedVariables false
set_option linter.unusedSimpArgs false
set_option maxRecDepth 100000
namespace Go.Proofs.YteojabdeehagnaaGreatDoor
open Go Go.Am Go.Proofs

def sig58 : List AT := [AT.v (Ty.sl Ty.str), AT.v Ty.str]
def g58_0 (x0 : List ByteArray) (x1 : ByteArray) : ByteArray := ⟨(Lib.join (x0.map fun x => x.data.toList) x1.data.toList).toArray⟩
def P58 (x0 : List ByteArray) (x1 : ByteArray) : Prop := x0.length ≤ 1048576 ∧ (Lib.join (x0.map fun x => x.data.toList) x1.data.toList).length ≤ 140737488355328
def S58 : Am.Spec := { sig := sig58, pre := fun ⟨x0, x1, _⟩ => P58 x0 x1, res := fun ⟨x0, x1, _⟩ => [⟨Ty.str, g58_0 x0 x1⟩] }
theorem con58 : Contract Tryz.prog 58 S58 := contract_flat rfl fun w ⟨x0, x1, _⟩ vs bss hg hp hw ha => by
  obtain ⟨v0, s0, _, _, rfl, _, ⟨_, ho⟩, v1, s1, _, _, rfl, _, ⟨_, rfl, _⟩, rfl, _⟩ := ha
  obtain ⟨h0, h1⟩ : x0.length ≤ 1048576 ∧ (Lib.join (x0.map fun x => x.data.toList) x1.data.toList).length ≤ 140737488355328 := hp
  refine ⟨fun d hd => ?_, ?_⟩
  · rw [List.mem_singleton.1 hd]
    refine ⟨rfl, ?_⟩
    show (List.toArray _).size ≤ maxLen
    rw [List.size_toArray]; exact Nat.le_trans h1 (by decide)
  · obtain ⟨_, _, hcase⟩ := slAt_flat (t := .str) rfl ho
    rcases hcase with ⟨ad, rfl, rfl⟩ | ⟨b', off, cap, rfl, h2, h3, hG, hcells⟩
    · refine (Tryz.strings_Join_none ad 0 x1 w).mono ?_
      rintro e w' ⟨rfl, rfl⟩
      exact ⟨rfl, Kept.refl _ _⟩
    · refine (Tryz.strings_Join b' off cap x0 x1 w (fun j x hx => ?_) hG.1 (by omega) h2 h1).mono ?_
      · refine hcells j _ ?_
        have e : fcs .str x0 = x0.map Value.string := by
          have : ∀ xs : List ByteArray, fcs .str xs = xs.map Value.string := by
            intro xs
            induction xs with
            | nil => rfl
            | cons a r ih => unfold fcs at ih ⊢; rw [List.map_cons, List.flatten_cons, ih]; rfl
          exact this x0
        rw [e, List.getElem?_map, hx]
        rfl
      · rintro e w' ⟨rfl, hb⟩
        exact ⟨rfl, Kept.of_below hb⟩

end Go.Proofs.YteojabdeehagnaaGreatDoor

/- Function 51 (impl.within): its runs between cut points. Written by a program of this repo (gen). -/
set_option linter.unusedVariables false
set_option linter.unusedSimpArgs false
set_option maxRecDepth 100000
namespace Go.Proofs.YteojabdeehagnaaGreatDoor
open Go Go.Am Go.Proofs
def ext51 : Ext := []
theorem ext51Ok : ExtOk Tryz.prog ext51 := trivial
/-! Function 51. -/
noncomputable def b51 : Code := bodyOf Tryz.f51
theorem hb51 : Tryz.f51.body = some b51 := by kernel_rfl
def sig51 : List AT := [AT.v (Ty.int IntKind.i64), AT.v (Ty.int IntKind.i64), AT.v (Ty.int IntKind.i64)]
def tys51 : List Ty := [Ty.bool]
def P51 (x0 : Int) (x1 : Int) (x2 : Int) : Prop := True
def g51_0 (x0 : Int) (x1 : Int) (x2 : Int) : Bool := (if (Decidable.decide (x0 ≥ x1)) = true then Decidable.decide (x0 ≤ x2) else Bool.false)
theorem p51_0 (x0 : Int) (x1 : Int) (x2 : Int) : runF tab ext51 false 15 [] 2000 [] tys51 Tryz.f51.results [true] [.code b51] (entE 0 0 sig51 (x0, x1, x2, ())) (entL sig51 (x0, x1, x2, ())) = some ([Dyn.mk Ty.bool (Decidable.decide (x0 ≤ x2))], [], [Decidable.decide (x0 ≥ x1) = Bool.true]) := by kernel_rfl
theorem p51_1 (x0 : Int) (x1 : Int) (x2 : Int) : runF tab ext51 false 15 [] 2000 [] tys51 Tryz.f51.results [false] [.code b51] (entE 0 0 sig51 (x0, x1, x2, ())) (entL sig51 (x0, x1, x2, ())) = some ([Dyn.mk Ty.bool Bool.false], [], [Decidable.decide (x0 ≥ x1) = Bool.false]) := by kernel_rfl
theorem at51 (x0 : Int) (x1 : Int) (x2 : Int) (h : P51 x0 x1 x2) (w0 : World) (O : List Nat) (q : Nat → Value) : AtV Tryz.prog 51 (PostR [⟨Ty.bool, g51_0 x0 x1 x2⟩] [] [] q w0 O) 15 w0 O q [] [.code b51] (entE 0 0 sig51 (x0, x1, x2, ())) (entL sig51 (x0, x1, x2, ())) := by
  unfold P51 at h
  unfold g51_0
  by_cases b0 : (Decidable.decide (x0 ≥ x1)) = true
  · try simp only [if_pos b0] at h ⊢
    exact AtV.fin Tryz.func51 tabOk ext51Ok mixed (p51_0 x0 x1 x2) ⟨b0, trivial⟩
  · try simp only [if_neg b0] at h ⊢
    replace b0 := Bool.eq_false_iff.2 b0
    exact AtV.fin Tryz.func51 tabOk ext51Ok mixed (p51_1 x0 x1 x2) ⟨b0, trivial⟩

def S51 : Am.Spec := { sig := sig51, pre := fun ⟨x0, x1, x2, _⟩ => P51 x0 x1 x2, res := fun ⟨x0, x1, x2, _⟩ => [⟨Ty.bool, g51_0 x0 x1 x2⟩] }
theorem con51 : Contract Tryz.prog 51 S51 := contract_of Tryz.func51 hb51 (Nat.le_of_ble_eq_true (by kernel_rfl)) (fun ⟨x0, x1, x2, _⟩ h _ w0 O q => at51 x0 x1 x2 h w0 O q)


end Go.Proofs.YteojabdeehagnaaGreatDoor

/- Function 56 (impl.isValue): its runs between cut points. Written by a program of this repo (gen). -/
set_option linter.unusedVariables false
set_option linter.unusedSimpArgs false
set_option maxRecDepth 100000
namespace Go.Proofs.YteojabdeehagnaaGreatDoor
open Go Go.Am Go.Proofs
def ext56 : Ext := [(51, S51)]
theorem call56_51 : Callable Tryz.prog 51 := ⟨Tryz.f51, Tryz.func51, by kernel_rfl, by kernel_rfl⟩
theorem ext56Ok : ExtOk Tryz.prog ext56 := ⟨⟨call56_51, con51⟩, trivial⟩
/-! Function 56. -/
noncomputable def b56 : Code := bodyOf Tryz.f56
theorem hb56 : Tryz.f56.body = some b56 := by kernel_rfl
def sig56 : List AT := [AT.v (Ty.int IntKind.i64)]
def tys56 : List Ty := [Ty.bool]
def P56 (x0 : Int) : Prop := True
def g56_0 (x0 : Int) : Bool := g51_0 x0 (-1000000000000) 1000000000000
theorem p56_0 (x0 : Int) : runF tab ext56 false 5 [] 2000 [] tys56 Tryz.f56.results [] [.code b56] (entE 0 0 sig56 (x0, ())) (entL sig56 (x0, ())) = some ([Dyn.mk Ty.bool (g51_0 x0 (-1000000000000) 1000000000000)], [], [True]) := by kernel_rfl
theorem at56 (x0 : Int) (h : P56 x0) (w0 : World) (O : List Nat) (q : Nat → Value) : AtV Tryz.prog 56 (PostR [⟨Ty.bool, g56_0 x0⟩] [] [] q w0 O) 5 w0 O q [] [.code b56] (entE 0 0 sig56 (x0, ())) (entL sig56 (x0, ())) := by
  unfold P56 at h
  unfold g56_0
  exact AtV.fin Tryz.func56 tabOk ext56Ok mixed (p56_0 x0) ⟨trivial, trivial⟩

def S56 : Am.Spec := { sig := sig56, pre := fun ⟨x0, _⟩ => P56 x0, res := fun ⟨x0, _⟩ => [⟨Ty.bool, g56_0 x0⟩] }
theorem con56 : Contract Tryz.prog 56 S56 := contract_of Tryz.func56 hb56 (Nat.le_of_ble_eq_true (by kernel_rfl)) (fun ⟨x0, _⟩ h _ w0 O q => at56 x0 h w0 O q)


end Go.Proofs.YteojabdeehagnaaGreatDoor

/- Function 55 (impl.ListText$1): its runs between cut points. Written by a program of this repo (gen). -/
set_option linter.unusedVariables false
set_option linter.unusedSimpArgs false
set_option maxRecDepth 100000
namespace Go.Proofs.YteojabdeehagnaaGreatDoor
open Go Go.Am Go.Proofs
def ext55 : Ext := [(56, S56)]
theorem call55_56 : Callable Tryz.prog 56 := ⟨Tryz.f56, Tryz.func56, by kernel_rfl, by kernel_rfl⟩
theorem ext55Ok : ExtOk Tryz.prog ext55 := ⟨⟨call55_56, con56⟩, trivial⟩
/-! Function 55. -/
noncomputable def b55 : Code := bodyOf Tryz.f55
theorem hb55 : Tryz.f55.body = some b55 := by kernel_rfl
def sig55 : List AT := [AT.v (Ty.int IntKind.i64)]
def tys55 : List Ty := [Ty.bool]
def P55 (x0 : Int) : Prop := True
def g55_0 (x0 : Int) : Bool := !g56_0 x0
theorem p55_0 (x0 : Int) : runF tab ext55 false 6 [] 2000 [] tys55 Tryz.f55.results [] [.code b55] (entE 0 0 sig55 (x0, ())) (entL sig55 (x0, ())) = some ([Dyn.mk Ty.bool !g56_0 x0], [], [True]) := by kernel_rfl
theorem at55 (x0 : Int) (h : P55 x0) (w0 : World) (O : List Nat) (q : Nat → Value) : AtV Tryz.prog 55 (PostR [⟨Ty.bool, g55_0 x0⟩] [] [] q w0 O) 6 w0 O q [] [.code b55] (entE 0 0 sig55 (x0, ())) (entL sig55 (x0, ())) := by
  unfold P55 at h
  unfold g55_0
  exact AtV.fin Tryz.func55 tabOk ext55Ok mixed (p55_0 x0) ⟨trivial, trivial⟩

def S55 : Am.Spec := { sig := sig55, pre := fun ⟨x0, _⟩ => P55 x0, res := fun ⟨x0, _⟩ => [⟨Ty.bool, g55_0 x0⟩] }
theorem con55 : Contract Tryz.prog 55 S55 := contract_of Tryz.func55 hb55 (Nat.le_of_ble_eq_true (by kernel_rfl)) (fun ⟨x0, _⟩ h _ w0 O q => at55 x0 h w0 O q)


end Go.Proofs.YteojabdeehagnaaGreatDoor

/- Function 63 (slices.IndexFunc[[]int64,int64]): its runs between cut points. Written by a program of this repo (gen). -/
set_option linter.unusedVariables false
set_option linter.unusedSimpArgs false
set_option maxRecDepth 100000
namespace Go.Proofs.YteojabdeehagnaaGreatDoor
open Go Go.Am Go.Proofs
def ext63c55 : Ext := [(55, S55)]
theorem call63c55_55 : Callable Tryz.prog 55 := ⟨Tryz.f55, Tryz.func55, by kernel_rfl, by kernel_rfl⟩
theorem ext63c55Ok : ExtOk Tryz.prog ext63c55 := ⟨⟨call63c55_55, con55⟩, trivial⟩
/-! Function 63c55. -/
noncomputable def b63c55 : Code := bodyOf Tryz.f63
theorem hb63c55 : Tryz.f63.body = some b63c55 := by kernel_rfl
def sig63c55 : List AT := [AT.v (Ty.sl (Ty.int IntKind.i64)), AT.fn 55 []]
def tys63c55 : List Ty := [Ty.int IntKind.i64]
def E63c55_2 (v8 : Int) (x0 : List Int) : Env := [(0, PV.a (Atom.sl (Ty.int IntKind.i64) x0)), (1, PV.fn 55 []), (7, PV.a (Atom.val (Value.int IntKind.i64 (↑(List.length x0) : Int)))), (8, PV.a (Atom.val (Value.int IntKind.i64 v8)))]
def L63c55_2 (v8 : Int) (x0 : List Int) : Heap := []
mutual
def R63c55 : Nat → List Int → List Dyn → Prop
  | 0, _, _ => False
  | n + 1, x0, ds => (R63c55_2 n (0) (x0) ds)
def R63c55_2 : Nat → Int → List Int → List Dyn → Prop
  | 0, _, _, _ => False
  | n + 1, v8, x0, ds => (if (Decidable.decide (v8 < (↑(List.length x0) : Int))) = true then ((0 ≤ v8) ∧ (v8 < (↑(List.length x0) : Int)) ∧ (if (g55_0 (List.getD x0 (Int.toNat v8) 0)) = true then (ds = [Dyn.mk (Ty.int IntKind.i64) v8]) else ((InR IntKind.i64 (v8 + 1)) ∧ (R63c55_2 n (v8 + 1) (x0) ds)))) else (ds = [Dyn.mk (Ty.int IntKind.i64) (-1)]))
end
theorem p63c55_0 (x0 : List Int) : Am.runN tab ext63c55 false 19 [] 2000 [] [] [0, 1, 7, 8] [] [] [.code b63c55] (entE 0 0 sig63c55 (x0, (), ())) (entL sig63c55 (x0, (), ())) = some (cutAt b63c55 2, E63c55_2 (0) (x0), L63c55_2 (0) (x0), []) := by kernel_rfl
theorem p63c55_1 (v8 : Int) (x0 : List Int) : runF tab ext63c55 false 19 [] 2000 [] tys63c55 Tryz.f63.results [true, true] (cutAt b63c55 2) (E63c55_2 v8 x0) (L63c55_2 v8 x0) = some ([Dyn.mk (Ty.int IntKind.i64) v8], [], [Decidable.decide (v8 < (↑(List.length x0) : Int)) = Bool.true, 0 ≤ v8, v8 < (↑(List.length x0) : Int), True, g55_0 (List.getD x0 (Int.toNat v8) 0) = Bool.true]) := by kernel_rfl
theorem p63c55_2 (v8 : Int) (x0 : List Int) : Am.runN tab ext63c55 false 19 [] 2000 [] [] [0, 1, 7, 8] [] [true, false] (cutAt b63c55 2) (E63c55_2 v8 x0) (L63c55_2 v8 x0) = some (cutAt b63c55 2, E63c55_2 (v8 + 1) (x0), L63c55_2 (v8 + 1) (x0), [Decidable.decide (v8 < (↑(List.length x0) : Int)) = Bool.true, 0 ≤ v8, v8 < (↑(List.length x0) : Int), True, g55_0 (List.getD x0 (Int.toNat v8) 0) = Bool.false, InR IntKind.i64 (v8 + 1)]) := by kernel_rfl
theorem p63c55_3 (v8 : Int) (x0 : List Int) : runF tab ext63c55 false 19 [] 2000 [] tys63c55 Tryz.f63.results [false] (cutAt b63c55 2) (E63c55_2 v8 x0) (L63c55_2 v8 x0) = some ([Dyn.mk (Ty.int IntKind.i64) (-1)], [], [Decidable.decide (v8 < (↑(List.length x0) : Int)) = Bool.false]) := by kernel_rfl
theorem snd63c55 : ∀ n, (∀ (x0 : List Int) ds, R63c55 n x0 ds → ∀ w0 O q, AtV Tryz.prog 63 (PostR ds [] [] q w0 O) 19 w0 O q [] [.code b63c55] (entE 0 0 sig63c55 (x0, (), ())) (entL sig63c55 (x0, (), ()))) ∧ (∀ (v8 : Int) (x0 : List Int) ds, R63c55_2 n v8 x0 ds → ∀ w0 O q, AtV Tryz.prog 63 (PostR ds [] [] q w0 O) 19 w0 O q [] (cutAt b63c55 2) (E63c55_2 v8 x0) (L63c55_2 v8 x0)) := by
  intro n
  induction n with
  | zero => exact ⟨fun _ _ h => by simp only [R63c55] at h, fun _ _ _ h => by simp only [R63c55_2] at h⟩
  | succ n ih =>
  obtain ⟨ih, ih2⟩ := ih
  refine ⟨?_, ?_⟩
  · intro x0 ds h w0 O q
    rw [R63c55] at h
    exact AtV.runN tabOk ext63c55Ok mixed (p63c55_0 x0) trivial (ih2 _ _ _ h w0 O q)

  · intro v8 x0 ds h w0 O q
    rw [R63c55_2] at h
    by_cases b0 : (Decidable.decide (v8 < (↑(List.length x0) : Int))) = true
    · rw [if_pos b0] at h
      obtain ⟨s0, s1, h⟩ := h
      by_cases b1 : (g55_0 (List.getD x0 (Int.toNat v8) 0)) = true
      · rw [if_pos b1] at h
        subst h
        exact AtV.fin Tryz.func63 tabOk ext63c55Ok mixed (p63c55_1 v8 x0) ⟨b0, s0, s1, trivial, b1, trivial⟩
      · rw [if_neg b1] at h
        replace b1 := Bool.eq_false_iff.2 b1
        obtain ⟨s2, h⟩ := h
        exact AtV.runN tabOk ext63c55Ok mixed (p63c55_2 v8 x0) ⟨b0, s0, s1, trivial, b1, s2, trivial⟩ (ih2 _ _ _ h w0 O q)
    · rw [if_neg b0] at h
      replace b0 := Bool.eq_false_iff.2 b0
      subst h
      exact AtV.fin Tryz.func63 tabOk ext63c55Ok mixed (p63c55_3 v8 x0) ⟨b0, trivial⟩



def g63c55_0 (x0 : List (Int)) : Int := idx (x0.findIdx? g55_0)
def P63c55 (x0 : List (Int)) : Prop := True

theorem top63c55 (x0 : List (Int)) (hm : x0.length ≤ maxLen) : R63c55 (x0.length + 1 + 1) x0 [⟨.int .i64, g63c55_0 x0⟩] := by
  rw [R63c55]
  have key := loop_find x0 (0 : Int) g55_0 [(⟨.int .i64, -1⟩ : Dyn)] (fun k => [⟨.int .i64, k⟩]) (fun n i ds => R63c55_2 n i x0 ds) (fun n => ?_) (fun n i hi hok ds hr => ?_) (fun n i hi hok => ?_)
  · unfold g63c55_0
    cases h : x0.findIdx? g55_0 <;> rw [h] at key <;> exact key
  · rw [R63c55_2, if_neg (by simp)]
  · rw [R63c55_2, if_pos (by simp; omega)]
    simp only [Int.toNat_natCast]
    refine ⟨by omega, by omega, ?_⟩
    rw [if_neg (by rw [hok]; simp)]
    exact ⟨inR_up hm hi, hr⟩
  · rw [R63c55_2, if_pos (by simp; omega)]
    simp only [Int.toNat_natCast]
    refine ⟨by omega, by omega, ?_⟩
    rw [if_pos hok] <;> trivial

def S63c55 : Am.Spec := { sig := sig63c55, pre := fun ⟨x0, _⟩ => P63c55 x0, res := fun ⟨x0, _⟩ => [⟨Ty.int .i64, g63c55_0 x0⟩] }
theorem con63c55 : Contract Tryz.prog 63 S63c55 := contract_of Tryz.func63 hb63c55 (Nat.le_of_ble_eq_true (by kernel_rfl)) (fun ⟨x0, _⟩ h hwf w0 O q =>
  (snd63c55 _).1 x0 _ (top63c55 x0 hwf.1.1) w0 O q)

theorem any63c55 (x0 : List (Int)) : decide (g63c55_0 x0 ≥ 0) = x0.any g55_0 := by
  have := findIdx_any g55_0 x0
  unfold g63c55_0
  cases h : x0.any g55_0 with
  | true => rw [h] at this; simpa using this
  | false => rw [h] at this; simpa using this

end Go.Proofs.YteojabdeehagnaaGreatDoor

/- Function 54 (slices.ContainsFunc[[]int64,int64]): its runs between cut points. Written by a program of this repo (gen). -/
set_option linter.unusedVariables false
set_option linter.unusedSimpArgs false
set_option maxRecDepth 100000
namespace Go.Proofs.YteojabdeehagnaaGreatDoor
open Go Go.Am Go.Proofs
def ext54c55 : Ext := [(63, S63c55), (55, S55)]
theorem call54c55_63 : Callable Tryz.prog 63 := ⟨Tryz.f63, Tryz.func63, by kernel_rfl, by kernel_rfl⟩
theorem call54c55_55 : Callable Tryz.prog 55 := ⟨Tryz.f55, Tryz.func55, by kernel_rfl, by kernel_rfl⟩
theorem ext54c55Ok : ExtOk Tryz.prog ext54c55 := ⟨⟨call54c55_63, con63c55⟩, ⟨call54c55_55, con55⟩, trivial⟩
/-! Function 54c55. -/
noncomputable def b54c55 : Code := bodyOf Tryz.f54
theorem hb54c55 : Tryz.f54.body = some b54c55 := by kernel_rfl
def sig54c55 : List AT := [AT.v (Ty.sl (Ty.int IntKind.i64)), AT.fn 55 []]
def tys54c55 : List Ty := [Ty.bool]
def P54c55 (x0 : List Int) : Prop := True
def g54c55_0 (x0 : List Int) : Bool := Decidable.decide (g63c55_0 x0 ≥ 0)
theorem p54c55_0 (x0 : List Int) : runF tab ext54c55 false 9 [] 2000 [] tys54c55 Tryz.f54.results [] [.code b54c55] (entE 0 0 sig54c55 (x0, (), ())) (entL sig54c55 (x0, (), ())) = some ([Dyn.mk Ty.bool (Decidable.decide (g63c55_0 x0 ≥ 0))], [], [True]) := by kernel_rfl
theorem at54c55 (x0 : List Int) (h : P54c55 x0) (w0 : World) (O : List Nat) (q : Nat → Value) : AtV Tryz.prog 54 (PostR [⟨Ty.bool, g54c55_0 x0⟩] [] [] q w0 O) 9 w0 O q [] [.code b54c55] (entE 0 0 sig54c55 (x0, (), ())) (entL sig54c55 (x0, (), ())) := by
  unfold P54c55 at h
  unfold g54c55_0
  exact AtV.fin Tryz.func54 tabOk ext54c55Ok mixed (p54c55_0 x0) ⟨trivial, trivial⟩

def S54c55 : Am.Spec := { sig := sig54c55, pre := fun ⟨x0, _⟩ => P54c55 x0, res := fun ⟨x0, _⟩ => [⟨Ty.bool, g54c55_0 x0⟩] }
theorem con54c55 : Contract Tryz.prog 54 S54c55 := contract_of Tryz.func54 hb54c55 (Nat.le_of_ble_eq_true (by kernel_rfl)) (fun ⟨x0, _⟩ h _ w0 O q => at54c55 x0 h w0 O q)


end Go.Proofs.YteojabdeehagnaaGreatDoor

/- Function 43 (impl.ListText): its runs between cut points. Written by a program of this repo (gen). -/
set_option linter.unusedVariables false
set_option linter.unusedSimpArgs false
set_option maxRecDepth 100000
namespace Go.Proofs.YteojabdeehagnaaGreatDoor
open Go Go.Am Go.Proofs
def ext43 : Ext := [(57, S57), (58, S58), (54, S54c55)]
theorem call43_57 : Callable Tryz.prog 57 := ⟨Tryz.f57, Tryz.func57, by kernel_rfl, by kernel_rfl⟩
theorem call43_58 : Callable Tryz.prog 58 := ⟨Tryz.f58, Tryz.func58, by kernel_rfl, by kernel_rfl⟩
theorem call43_54 : Callable Tryz.prog 54 := ⟨Tryz.f54, Tryz.func54, by kernel_rfl, by kernel_rfl⟩
theorem ext43Ok : ExtOk Tryz.prog ext43 := ⟨⟨call43_57, con57⟩, ⟨call43_58, con58⟩, ⟨call43_54, con54c55⟩, trivial⟩
/-! Function 43. -/
noncomputable def b43 : Code := bodyOf Tryz.f43
theorem hb43 : Tryz.f43.body = some b43 := by kernel_rfl
def sig43 : List AT := [AT.v (Ty.sl (Ty.int IntKind.i64))]
def tys43 : List Ty := [Ty.str]
def E43_7 (v18 : Int) (h0 : List ByteArray) (x0 : List Int) : Env := [(3, PV.a (Atom.osl 0 Option.none)), (16, PV.a (Atom.sl (Ty.int IntKind.i64) x0)), (17, PV.a (Atom.val (Value.int IntKind.i64 (↑(List.length x0) : Int)))), (18, PV.a (Atom.val (Value.int IntKind.i64 v18)))]
def L43_7 (v18 : Int) (h0 : List ByteArray) (x0 : List Int) : Heap := [Option.some (Arr.mk Ty.str h0 Bool.false)]
mutual
def R43 : Nat → List Int → List Dyn → Prop
  | 0, _, _ => False
  | n + 1, x0, ds => (if (Decidable.decide ((↑(List.length x0) : Int) > 64)) = true then (ds = [Dyn.mk Ty.str (ByteArray.mk #[])]) else (if (g54c55_0 x0) = true then (ds = [Dyn.mk Ty.str (ByteArray.mk #[])]) else (if ((↑(List.length x0) : Int) == 0) = true then (ds = [Dyn.mk Ty.str (ByteArray.mk #[45])]) else (R43_7 n (0) ([]) (x0) ds))))
def R43_7 : Nat → Int → List ByteArray → List Int → List Dyn → Prop
  | 0, _, _, _, _ => False
  | n + 1, v18, h0, x0, ds => (if (Decidable.decide (v18 < (↑(List.length x0) : Int))) = true then ((0 ≤ v18) ∧ (v18 < (↑(List.length x0) : Int)) ∧ ((P57 (List.getD x0 (Int.toNat v18) 0)) ∧ (((List.length h0 + 1) * 16 ≤ 140737488355328) ∧ ((InR IntKind.i64 (v18 + 1)) ∧ (R43_7 n (v18 + 1) (h0 ++ [g57_0 (List.getD x0 (Int.toNat v18) 0)]) (x0) ds))))) else ((P58 h0 (ByteArray.mk #[44])) ∧ (ds = [Dyn.mk Ty.str (g58_0 h0 (ByteArray.mk #[44]))])))
end
theorem p43_0 (x0 : List Int) : runF tab ext43 false 30 [] 2000 [] tys43 Tryz.f43.results [true, true] [.code b43] (entE 0 0 sig43 (x0, ())) (entL sig43 (x0, ())) = some ([Dyn.mk Ty.str (ByteArray.mk #[])], [], [Decidable.decide ((↑(List.length x0) : Int) > 64) = Bool.true, Bool.true = Bool.true]) := by kernel_rfl
theorem p43_1 (x0 : List Int) : runF tab ext43 false 30 [] 2000 [] tys43 Tryz.f43.results [false, true] [.code b43] (entE 0 0 sig43 (x0, ())) (entL sig43 (x0, ())) = some ([Dyn.mk Ty.str (ByteArray.mk #[])], [], [Decidable.decide ((↑(List.length x0) : Int) > 64) = Bool.false, True, g54c55_0 x0 = Bool.true]) := by kernel_rfl
theorem p43_2 (x0 : List Int) : runF tab ext43 false 30 [] 2000 [] tys43 Tryz.f43.results [false, false, true] [.code b43] (entE 0 0 sig43 (x0, ())) (entL sig43 (x0, ())) = some ([Dyn.mk Ty.str (ByteArray.mk #[45])], [], [Decidable.decide ((↑(List.length x0) : Int) > 64) = Bool.false, True, g54c55_0 x0 = Bool.false, ((↑(List.length x0) : Int) == 0) = Bool.true]) := by kernel_rfl
theorem p43_3 (x0 : List Int) : Am.runN tab ext43 false 30 [] 2000 [] [(3, Ty.str)] [3, 16, 17, 18] [0] [false, false, false] [.code b43] (entE 0 0 sig43 (x0, ())) (entL sig43 (x0, ())) = some (cutAt b43 7, E43_7 (0) ([]) (x0), L43_7 (0) ([]) (x0), [Decidable.decide ((↑(List.length x0) : Int) > 64) = Bool.false, True, g54c55_0 x0 = Bool.false, ((↑(List.length x0) : Int) == 0) = Bool.false]) := by kernel_rfl
theorem p43_4 (v18 : Int) (h0 : List ByteArray) (x0 : List Int) : Am.runN tab ext43 false 30 [] 2000 [] [(3, Ty.str)] [3, 16, 17, 18] [0] [true] (cutAt b43 7) (E43_7 v18 h0 x0) (L43_7 v18 h0 x0) = some (cutAt b43 7, E43_7 (v18 + 1) (h0 ++ [g57_0 (List.getD x0 (Int.toNat v18) 0)]) (x0), L43_7 (v18 + 1) (h0 ++ [g57_0 (List.getD x0 (Int.toNat v18) 0)]) (x0), [Decidable.decide (v18 < (↑(List.length x0) : Int)) = Bool.true, 0 ≤ v18, v18 < (↑(List.length x0) : Int), P57 (List.getD x0 (Int.toNat v18) 0), (List.length h0 + 1) * 16 ≤ 140737488355328, InR IntKind.i64 (v18 + 1)]) := by kernel_rfl
theorem p43_5 (v18 : Int) (h0 : List ByteArray) (x0 : List Int) : runF tab ext43 false 30 [] 2000 [] tys43 Tryz.f43.results [false] (cutAt b43 7) (E43_7 v18 h0 x0) (L43_7 v18 h0 x0) = some ([Dyn.mk Ty.str (g58_0 h0 (ByteArray.mk #[44]))], [], [Decidable.decide (v18 < (↑(List.length x0) : Int)) = Bool.false, P58 h0 (ByteArray.mk #[44])]) := by kernel_rfl
theorem snd43 : ∀ n, (∀ (x0 : List Int) ds, R43 n x0 ds → ∀ w0 O q, AtV Tryz.prog 43 (PostR ds [] [] q w0 O) 30 w0 O q [] [.code b43] (entE 0 0 sig43 (x0, ())) (entL sig43 (x0, ()))) ∧ (∀ (v18 : Int) (h0 : List ByteArray) (x0 : List Int) ds, R43_7 n v18 h0 x0 ds → ∀ w0 O q, AtV Tryz.prog 43 (PostR ds [] [] q w0 O) 30 w0 O q [] (cutAt b43 7) (E43_7 v18 h0 x0) (L43_7 v18 h0 x0)) := by
  intro n
  induction n with
  | zero => exact ⟨fun _ _ h => by simp only [R43] at h, fun _ _ _ _ h => by simp only [R43_7] at h⟩
  | succ n ih =>
  obtain ⟨ih, ih7⟩ := ih
  refine ⟨?_, ?_⟩
  · intro x0 ds h w0 O q
    rw [R43] at h
    by_cases b0 : (Decidable.decide ((↑(List.length x0) : Int) > 64)) = true
    · rw [if_pos b0] at h
      subst h
      exact AtV.fin Tryz.func43 tabOk ext43Ok mixed (p43_0 x0) ⟨b0, rfl, trivial⟩
    · rw [if_neg b0] at h
      replace b0 := Bool.eq_false_iff.2 b0
      by_cases b1 : (g54c55_0 x0) = true
      · rw [if_pos b1] at h
        subst h
        exact AtV.fin Tryz.func43 tabOk ext43Ok mixed (p43_1 x0) ⟨b0, trivial, b1, trivial⟩
      · rw [if_neg b1] at h
        replace b1 := Bool.eq_false_iff.2 b1
        by_cases b2 : ((↑(List.length x0) : Int) == 0) = true
        · rw [if_pos b2] at h
          subst h
          exact AtV.fin Tryz.func43 tabOk ext43Ok mixed (p43_2 x0) ⟨b0, trivial, b1, b2, trivial⟩
        · rw [if_neg b2] at h
          replace b2 := Bool.eq_false_iff.2 b2
          exact AtV.runN tabOk ext43Ok mixed (p43_3 x0) ⟨b0, trivial, b1, b2, trivial⟩ (ih7 _ _ _ _ h w0 O q)

  · intro v18 h0 x0 ds h w0 O q
    rw [R43_7] at h
    by_cases b0 : (Decidable.decide (v18 < (↑(List.length x0) : Int))) = true
    · rw [if_pos b0] at h
      obtain ⟨s0, s1, h⟩ := h
      obtain ⟨s2, h⟩ := h
      obtain ⟨s3, h⟩ := h
      obtain ⟨s4, h⟩ := h
      exact AtV.runN tabOk ext43Ok mixed (p43_4 v18 h0 x0) ⟨b0, s0, s1, s2, s3, s4, trivial⟩ (ih7 _ _ _ _ h w0 O q)
    · rw [if_neg b0] at h
      replace b0 := Bool.eq_false_iff.2 b0
      obtain ⟨s0, h⟩ := h
      subst h
      exact AtV.fin Tryz.func43 tabOk ext43Ok mixed (p43_5 v18 h0 x0) ⟨b0, s0, trivial⟩



def g43_0 (x0 : List Int) : ByteArray := if x0.length > 64 then ByteArray.mk #[] else if g54c55_0 x0 = true then ByteArray.mk #[] else if x0.length = 0 then ByteArray.mk #[45] else g58_0 (x0.map g57_0) (ByteArray.mk #[44])
def P43 (x0 : List Int) : Prop := True

theorem dsz43 (x : Int) (h : InR .i64 x) : (g57_0 x).size ≤ 21 := by
  rw [i64_iff] at h
  exact numB_size x (by omega) (by omega)

theorem pdec43 (x : Int) : P57 x := ⟨rfl, trivial⟩

theorem lens43 : ∀ (xs : List Int), (∀ x ∈ xs, InR .i64 x) → Lib.lens (xs.map fun x => (g57_0 x).data.toList) ≤ 21 * xs.length
  | [], _ => by simp [Lib.lens]
  | x :: r, h => by
    have ih := lens43 r fun y hy => h y (List.mem_cons_of_mem _ hy)
    have hx := dsz43 x (h x (List.mem_cons_self ..))
    have e : (g57_0 x).data.toList.length = (g57_0 x).size := rfl
    unfold Lib.lens at ih ⊢
    simp only [List.map_cons, List.sum_cons, List.length_cons, e] at ih ⊢
    omega

theorem join43 (xs : List Int) (hx : ∀ x ∈ xs, InR .i64 x) (hl : xs.length ≤ 64) : P58 (xs.map g57_0) (ByteArray.mk #[44]) := by
  refine ⟨by simp; omega, ?_⟩
  rw [List.map_map]
  cases xs with
  | nil => simp [Lib.join, List.intercalate]
  | cons x r =>
    have h := lens43 (x :: r) hx
    rw [List.map_cons] at h ⊢
    rw [Lib.join_length]
    have e : (ByteArray.mk #[44]).data.toList.length = 1 := rfl
    rw [e]
    simp only [List.length_map, List.length_cons] at *
    have h' : Lib.lens (((fun x : ByteArray => x.data.toList) ∘ g57_0) x :: List.map ((fun x : ByteArray => x.data.toList) ∘ g57_0) r) ≤ 21 * (r.length + 1) := h
    omega

theorem top43 (x0 : List Int) (hx : ∀ x ∈ x0, InR .i64 x) : R43 (x0.length + 1 + 1) x0 [⟨.str, g43_0 x0⟩] := by
  rw [R43]
  unfold g43_0
  by_cases h1 : x0.length > 64
  · rw [if_pos (by simp; omega), if_pos h1]
  · rw [if_neg (by simp; omega), if_neg h1]
    by_cases h2 : g54c55_0 x0 = true
    · rw [if_pos h2, if_pos h2]
    · rw [if_neg h2, if_neg h2]
      by_cases h0 : x0.length = 0
      · rw [if_pos (by simp [h0]), if_pos h0]
      · rw [if_neg (by simp only [beq_iff_eq]; omega), if_neg h0]
        have hm : x0.length ≤ maxLen := by unfold maxLen; omega
        have key := loop_fold (b := []) x0 0 (fun (h : List ByteArray) b => h ++ [g57_0 b]) (fun h => [(⟨.str, g58_0 h (ByteArray.mk #[44])⟩ : Dyn)]) (fun i h => h.length ≤ i ∧ h = (x0.take i).map g57_0) (fun n i h ds => R43_7 n i h x0 ds) (by simp) (fun n h hb => ?_) (fun n i h hi hl => ⟨⟨len_up hl.1, ?_⟩, fun ds hr => ?_⟩)
        · rw [foldl_snoc] at key
          simpa using key
        · show R43_7 (n + 1) x0.length h x0 _
          rw [R43_7, if_neg (by simp)]
          refine ⟨?_, rfl⟩
          rw [hb.2, List.take_length]
          exact join43 x0 hx (by omega)
        · rw [hl.2, List.take_add_one, getD_of_lt x0 i 0 hi]
          simp
        · obtain ⟨hl, _⟩ := hl
          rw [R43_7, if_pos (by simp; omega)]
          simp only [Int.toNat_natCast]
          exact ⟨by omega, by omega, pdec43 _, by omega, inR_up hm hi, hr⟩

def S43 : Am.Spec := { sig := sig43, pre := fun ⟨x0, _⟩ => P43 x0, res := fun ⟨x0, _⟩ => [⟨Ty.str, g43_0 x0⟩] }
theorem con43 : Contract Tryz.prog 43 S43 := contract_of Tryz.func43 hb43 (Nat.le_of_ble_eq_true (by kernel_rfl)) (fun ⟨x0, _⟩ h hwf w0 O q =>
  (snd43 _).1 x0 _ (top43 x0 hwf.1.2) w0 O q)

end Go.Proofs.YteojabdeehagnaaGreatDoor

/- Function 41 (impl.ReadList): its runs between cut points. Written by a program of this repo (gen). -/
set_option linter.unusedVariables false
set_option linter.unusedSimpArgs false
set_option maxRecDepth 100000
namespace Go.Proofs.YteojabdeehagnaaGreatDoor
open Go Go.Am Go.Proofs
def ext41 : Ext := [(49, S49), (50, S50), (43, S43)]
theorem call41_49 : Callable Tryz.prog 49 := ⟨Tryz.f49, Tryz.func49, by kernel_rfl, by kernel_rfl⟩
theorem call41_50 : Callable Tryz.prog 50 := ⟨Tryz.f50, Tryz.func50, by kernel_rfl, by kernel_rfl⟩
theorem call41_43 : Callable Tryz.prog 43 := ⟨Tryz.f43, Tryz.func43, by kernel_rfl, by kernel_rfl⟩
theorem ext41Ok : ExtOk Tryz.prog ext41 := ⟨⟨call41_49, con49⟩, ⟨call41_50, con50⟩, ⟨call41_43, con43⟩, trivial⟩
/-! Function 41. -/
noncomputable def b41 : Code := bodyOf Tryz.f41
theorem hb41 : Tryz.f41.body = some b41 := by kernel_rfl
def sig41 : List AT := [AT.v (Ty.str)]
def tys41 : List Ty := [Ty.sl (Ty.int IntKind.i64), Ty.bool]
def E41_5 (v14 : Int) (h0 : List Int) (x0 : ByteArray) : Env := [(0, PV.a (Atom.val (Value.string x0))), (4, PV.a (Atom.osl 0 Option.none)), (12, PV.a (Atom.osl 1 Option.none)), (13, PV.a (Atom.val (Value.int IntKind.i64 (↑(List.length (g49_0 x0 (ByteArray.mk #[44]))) : Int)))), (14, PV.a (Atom.val (Value.int IntKind.i64 v14)))]
def L41_5 (v14 : Int) (h0 : List Int) (x0 : ByteArray) : Heap := [Option.some (Arr.mk (Ty.int IntKind.i64) h0 Bool.false), Option.some (Arr.mk Ty.str (g49_0 x0 (ByteArray.mk #[44])) Bool.false)]
mutual
def R41 : Nat → ByteArray → List Dyn → Prop
  | 0, _, _ => False
  | n + 1, x0, ds => (if (ByteArray.toList x0 == ByteArray.toList (ByteArray.mk #[45])) = true then (ds = [Dyn.mk (Ty.sl (Ty.int IntKind.i64)) [], Dyn.mk Ty.bool Bool.true]) else ((P49 x0 (ByteArray.mk #[44])) ∧ (R41_5 n (0) ([]) (x0) ds)))
def R41_5 : Nat → Int → List Int → ByteArray → List Dyn → Prop
  | 0, _, _, _, _ => False
  | n + 1, v14, h0, x0, ds => (if (Decidable.decide (v14 < (↑(List.length (g49_0 x0 (ByteArray.mk #[44]))) : Int))) = true then ((0 ≤ v14) ∧ (v14 < (↑(List.length (g49_0 x0 (ByteArray.mk #[44]))) : Int)) ∧ ((P50 (List.getD (g49_0 x0 (ByteArray.mk #[44])) (Int.toNat v14) ByteArray.empty)) ∧ (((List.length h0 + 1) * 8 ≤ 140737488355328) ∧ ((InR IntKind.i64 (v14 + 1)) ∧ (R41_5 n (v14 + 1) (h0 ++ [g50_0 (List.getD (g49_0 x0 (ByteArray.mk #[44])) (Int.toNat v14) ByteArray.empty)]) (x0) ds))))) else (if (!ByteArray.toList (g43_0 h0) == ByteArray.toList x0) = true then (ds = [Dyn.mk (Ty.sl (Ty.int IntKind.i64)) [], Dyn.mk Ty.bool Bool.false]) else (ds = [Dyn.mk (Ty.sl (Ty.int IntKind.i64)) h0, Dyn.mk Ty.bool Bool.true])))
end
theorem p41_0 (x0 : ByteArray) : runF tab ext41 false 33 [] 2000 [] tys41 Tryz.f41.results [true] [.code b41] (entE 0 0 sig41 (x0, ())) (entL sig41 (x0, ())) = some ([Dyn.mk (Ty.sl (Ty.int IntKind.i64)) [], Dyn.mk Ty.bool Bool.true], [], [(ByteArray.toList x0 == ByteArray.toList (ByteArray.mk #[45])) = Bool.true]) := by kernel_rfl
theorem p41_1 (x0 : ByteArray) : Am.runN tab ext41 false 33 [] 2000 [] [(4, Ty.int IntKind.i64)] [0, 4, 12, 13, 14] [1, 0] [false] [.code b41] (entE 0 0 sig41 (x0, ())) (entL sig41 (x0, ())) = some (cutAt b41 5, E41_5 (0) ([]) (x0), L41_5 (0) ([]) (x0), [(ByteArray.toList x0 == ByteArray.toList (ByteArray.mk #[45])) = Bool.false, P49 x0 (ByteArray.mk #[44])]) := by kernel_rfl
theorem p41_2 (v14 : Int) (h0 : List Int) (x0 : ByteArray) : Am.runN tab ext41 false 33 [] 2000 [] [(4, Ty.int IntKind.i64)] [0, 4, 12, 13, 14] [0, 1] [true] (cutAt b41 5) (E41_5 v14 h0 x0) (L41_5 v14 h0 x0) = some (cutAt b41 5, E41_5 (v14 + 1) (h0 ++ [g50_0 (List.getD (g49_0 x0 (ByteArray.mk #[44])) (Int.toNat v14) ByteArray.empty)]) (x0), L41_5 (v14 + 1) (h0 ++ [g50_0 (List.getD (g49_0 x0 (ByteArray.mk #[44])) (Int.toNat v14) ByteArray.empty)]) (x0), [Decidable.decide (v14 < (↑(List.length (g49_0 x0 (ByteArray.mk #[44]))) : Int)) = Bool.true, 0 ≤ v14, v14 < (↑(List.length (g49_0 x0 (ByteArray.mk #[44]))) : Int), P50 (List.getD (g49_0 x0 (ByteArray.mk #[44])) (Int.toNat v14) ByteArray.empty), (List.length h0 + 1) * 8 ≤ 140737488355328, InR IntKind.i64 (v14 + 1)]) := by kernel_rfl
theorem p41_3 (v14 : Int) (h0 : List Int) (x0 : ByteArray) : runF tab ext41 false 33 [] 2000 [] tys41 Tryz.f41.results [false, true] (cutAt b41 5) (E41_5 v14 h0 x0) (L41_5 v14 h0 x0) = some ([Dyn.mk (Ty.sl (Ty.int IntKind.i64)) [], Dyn.mk Ty.bool Bool.false], [], [Decidable.decide (v14 < (↑(List.length (g49_0 x0 (ByteArray.mk #[44]))) : Int)) = Bool.false, True, (!ByteArray.toList (g43_0 h0) == ByteArray.toList x0) = Bool.true]) := by kernel_rfl
theorem p41_4 (v14 : Int) (h0 : List Int) (x0 : ByteArray) : runF tab ext41 false 33 [] 2000 [] tys41 Tryz.f41.results [false, false] (cutAt b41 5) (E41_5 v14 h0 x0) (L41_5 v14 h0 x0) = some ([Dyn.mk (Ty.sl (Ty.int IntKind.i64)) h0, Dyn.mk Ty.bool Bool.true], [], [Decidable.decide (v14 < (↑(List.length (g49_0 x0 (ByteArray.mk #[44]))) : Int)) = Bool.false, True, (!ByteArray.toList (g43_0 h0) == ByteArray.toList x0) = Bool.false]) := by kernel_rfl
theorem snd41 : ∀ n, (∀ (x0 : ByteArray) ds, R41 n x0 ds → ∀ w0 O q, AtV Tryz.prog 41 (PostR ds [] [] q w0 O) 33 w0 O q [] [.code b41] (entE 0 0 sig41 (x0, ())) (entL sig41 (x0, ()))) ∧ (∀ (v14 : Int) (h0 : List Int) (x0 : ByteArray) ds, R41_5 n v14 h0 x0 ds → ∀ w0 O q, AtV Tryz.prog 41 (PostR ds [] [] q w0 O) 33 w0 O q [] (cutAt b41 5) (E41_5 v14 h0 x0) (L41_5 v14 h0 x0)) := by
  intro n
  induction n with
  | zero => exact ⟨fun _ _ h => by simp only [R41] at h, fun _ _ _ _ h => by simp only [R41_5] at h⟩
  | succ n ih =>
  obtain ⟨ih, ih5⟩ := ih
  refine ⟨?_, ?_⟩
  · intro x0 ds h w0 O q
    rw [R41] at h
    by_cases b0 : (ByteArray.toList x0 == ByteArray.toList (ByteArray.mk #[45])) = true
    · rw [if_pos b0] at h
      subst h
      exact AtV.fin Tryz.func41 tabOk ext41Ok mixed (p41_0 x0) ⟨b0, trivial⟩
    · rw [if_neg b0] at h
      replace b0 := Bool.eq_false_iff.2 b0
      obtain ⟨s0, h⟩ := h
      exact AtV.runN tabOk ext41Ok mixed (p41_1 x0) ⟨b0, s0, trivial⟩ (ih5 _ _ _ _ h w0 O q)

  · intro v14 h0 x0 ds h w0 O q
    rw [R41_5] at h
    by_cases b0 : (Decidable.decide (v14 < (↑(List.length (g49_0 x0 (ByteArray.mk #[44]))) : Int))) = true
    · rw [if_pos b0] at h
      obtain ⟨s0, s1, h⟩ := h
      obtain ⟨s2, h⟩ := h
      obtain ⟨s3, h⟩ := h
      obtain ⟨s4, h⟩ := h
      exact AtV.runN tabOk ext41Ok mixed (p41_2 v14 h0 x0) ⟨b0, s0, s1, s2, s3, s4, trivial⟩ (ih5 _ _ _ _ h w0 O q)
    · rw [if_neg b0] at h
      replace b0 := Bool.eq_false_iff.2 b0
      by_cases b1 : (!ByteArray.toList (g43_0 h0) == ByteArray.toList x0) = true
      · rw [if_pos b1] at h
        subst h
        exact AtV.fin Tryz.func41 tabOk ext41Ok mixed (p41_3 v14 h0 x0) ⟨b0, trivial, b1, trivial⟩
      · rw [if_neg b1] at h
        replace b1 := Bool.eq_false_iff.2 b1
        subst h
        exact AtV.fin Tryz.func41 tabOk ext41Ok mixed (p41_4 v14 h0 x0) ⟨b0, trivial, b1, trivial⟩



def ws41 (x0 : ByteArray) : List ByteArray := g49_0 x0 (ByteArray.mk #[44])
def nums41 (x0 : ByteArray) : List Int := (ws41 x0).map g50_0
def all41 (x0 : ByteArray) : Option (List Int) := if x0 = ByteArray.mk #[45] then some [] else if g43_0 (nums41 x0) = x0 then some (nums41 x0) else none
def g41_0 (x0 : ByteArray) : List Int := (all41 x0).getD []
def g41_1 (x0 : ByteArray) : Bool := (all41 x0).isSome
def P41 (x0 : ByteArray) : Prop := x0.size ≤ 1048576

theorem wl41 (x0 : ByteArray) (hp : P41 x0) : (ws41 x0).length ≤ 1048577 := by
  have hl := Lib.splitB_all (ByteArray.mk #[44]) (Nat.le_refl 1) 0 (Lib.countB x0 (ByteArray.mk #[44])) x0 rfl
  have hc := Lib.countB_le (ByteArray.mk #[44]) (Nat.le_refl 1) x0.size x0 (Nat.le_refl _)
  have hp : x0.size ≤ 1048576 := hp
  have : (ws41 x0).length = Lib.countB x0 (ByteArray.mk #[44]) + 1 := hl
  omega

theorem wz41 (x0 : ByteArray) (hp : P41 x0) : ∀ w ∈ ws41 x0, w.size ≤ 1048576 := fun w hw => by
  have hp : x0.size ≤ 1048576 := hp
  have := splitB_part (ByteArray.mk #[44]) 0 _ _ w hw
  omega

theorem top41 (x0 : ByteArray) (hp : P41 x0) : ∃ n, R41 n x0 [⟨.sl (.int .i64), g41_0 x0⟩, ⟨.bool, g41_1 x0⟩] := by
  have ew : g49_0 x0 (ByteArray.mk #[44]) = ws41 x0 := rfl
  have hp' : x0.size ≤ 1048576 := hp
  have hl := wl41 x0 hp
  have hz := wz41 x0 hp
  refine ⟨((ws41 x0).length + 1) + 1, ?_⟩
  rw [R41]
  unfold g41_0 g41_1 all41
  by_cases h0 : x0 = ByteArray.mk #[45]
  · rw [if_pos ((bytes_eq _ _).2 h0), if_pos h0]; rfl
  · rw [if_neg (fun h => h0 ((bytes_eq _ _).1 h)), if_neg h0]
    refine ⟨⟨by omega, Nat.le_refl 1⟩, ?_⟩
    have hm : (ws41 x0).length ≤ maxLen := by unfold maxLen; omega
    have key := loop_fold (b := []) (ws41 x0) ByteArray.empty (fun (h : List Int) b => h ++ [g50_0 b]) (fun h => if g43_0 h = x0 then [(⟨.sl (.int .i64), h⟩ : Dyn), ⟨.bool, true⟩] else [⟨.sl (.int .i64), []⟩, ⟨.bool, false⟩]) (fun i h => h.length ≤ i) (fun n i h ds => R41_5 n i h x0 ds) (by simp) (fun n h hb => ?_) (fun n i h hi hl => ⟨len_up hl, fun ds hr => ?_⟩)
    · rw [foldl_snoc] at key
      have e : [] ++ (ws41 x0).map g50_0 = nums41 x0 := by simp [nums41]
      simp only [e] at key
      by_cases ht : g43_0 (nums41 x0) = x0
      · rw [if_pos ht] at key ⊢; exact key
      · rw [if_neg ht] at key ⊢; exact key
    · show R41_5 (n + 1) (ws41 x0).length h x0 _
      rw [R41_5, ew, if_neg (by simp)]
      by_cases ht : g43_0 h = x0
      · rw [if_neg (by rw [(bytes_eq _ _).2 ht]; simp), if_pos ht]
      · rw [if_pos (by rw [Bool.not_eq_true', Bool.eq_false_iff]; exact fun hh => ht ((bytes_eq _ _).1 hh)), if_neg ht]
    · show R41_5 (n + 1) (i : Int) h x0 ds
      rw [R41_5, ew, if_pos (by simp only [decide_eq_true_eq]; omega)]
      simp only [Int.toNat_natCast]
      have hw := hz _ (mem_getD (ws41 x0) i ByteArray.empty hi)
      exact ⟨by omega, by omega, (show ((ws41 x0).getD i ByteArray.empty).size ≤ 281474976710656 from by omega), by omega, inR_up hm hi, hr⟩

def S41 : Am.Spec := { sig := sig41, pre := fun ⟨x0, _⟩ => P41 x0, res := fun ⟨x0, _⟩ => [⟨.sl (.int .i64), g41_0 x0⟩, ⟨.bool, g41_1 x0⟩] }
theorem con41 : Contract Tryz.prog 41 S41 := contract_of Tryz.func41 hb41 (Nat.le_of_ble_eq_true (by kernel_rfl)) (fun ⟨x0, _⟩ h hwf w0 O q => by
  obtain ⟨n, hn⟩ := top41 x0 h
  exact (snd41 n).1 x0 _ hn w0 O q)

end Go.Proofs.YteojabdeehagnaaGreatDoor

/- Function 29 (impl.readNamed): its runs between cut points. Written by a program of this repo (gen). -/
set_option linter.unusedVariables false
set_option linter.unusedSimpArgs false
set_option maxRecDepth 100000
namespace Go.Proofs.YteojabdeehagnaaGreatDoor
open Go Go.Am Go.Proofs
def ext29 : Ext := [(40, S40), (41, S41)]
theorem call29_40 : Callable Tryz.prog 40 := ⟨Tryz.f40, Tryz.func40, by kernel_rfl, by kernel_rfl⟩
theorem call29_41 : Callable Tryz.prog 41 := ⟨Tryz.f41, Tryz.func41, by kernel_rfl, by kernel_rfl⟩
theorem ext29Ok : ExtOk Tryz.prog ext29 := ⟨⟨call29_40, con40⟩, ⟨call29_41, con41⟩, trivial⟩
/-! Function 29. -/
noncomputable def b29 : Code := bodyOf Tryz.f29
theorem hb29 : Tryz.f29.body = some b29 := by kernel_rfl
def sig29 : List AT := [AT.v (Ty.str), AT.v (Ty.int IntKind.i64)]
def tys29 : List Ty := [Ty.str, Ty.sl (Ty.int IntKind.i64), Ty.bool]
def P29 (x0 : ByteArray) (x1 : Int) : Prop := ((P40 x0 (ByteArray.mk #[32])) ∧ ((P41 (g40_1 x0 (ByteArray.mk #[32]))) ∧ True))
def g29_0 (x0 : ByteArray) (x1 : Int) : ByteArray := g40_0 x0 (ByteArray.mk #[32])
def g29_1 (x0 : ByteArray) (x1 : Int) : List Int := g41_0 (g40_1 x0 (ByteArray.mk #[32]))
def g29_2 (x0 : ByteArray) (x1 : Int) : Bool := (↑(List.length (g41_0 (g40_1 x0 (ByteArray.mk #[32])))) : Int) == x1
theorem p29_0 (x0 : ByteArray) (x1 : Int) : runF tab ext29 false 29 [] 2000 [] tys29 Tryz.f29.results [] [.code b29] (entE 0 0 sig29 (x0, x1, ())) (entL sig29 (x0, x1, ())) = some ([Dyn.mk Ty.str (g40_0 x0 (ByteArray.mk #[32])), Dyn.mk (Ty.sl (Ty.int IntKind.i64)) (g41_0 (g40_1 x0 (ByteArray.mk #[32]))), Dyn.mk Ty.bool ((↑(List.length (g41_0 (g40_1 x0 (ByteArray.mk #[32])))) : Int) == x1)], [], [P40 x0 (ByteArray.mk #[32]), P41 (g40_1 x0 (ByteArray.mk #[32]))]) := by kernel_rfl
theorem at29 (x0 : ByteArray) (x1 : Int) (h : P29 x0 x1) (w0 : World) (O : List Nat) (q : Nat → Value) : AtV Tryz.prog 29 (PostR [⟨Ty.str, g29_0 x0 x1⟩, ⟨Ty.sl (Ty.int IntKind.i64), g29_1 x0 x1⟩, ⟨Ty.bool, g29_2 x0 x1⟩] [] [] q w0 O) 29 w0 O q [] [.code b29] (entE 0 0 sig29 (x0, x1, ())) (entL sig29 (x0, x1, ())) := by
  unfold P29 at h
  unfold g29_0 g29_1 g29_2
  obtain ⟨s0, h⟩ := h
  obtain ⟨s1, h⟩ := h
  exact AtV.fin Tryz.func29 tabOk ext29Ok mixed (p29_0 x0 x1) ⟨s0, s1, trivial⟩

def S29 : Am.Spec := { sig := sig29, pre := fun ⟨x0, x1, _⟩ => P29 x0 x1, res := fun ⟨x0, x1, _⟩ => [⟨Ty.str, g29_0 x0 x1⟩, ⟨Ty.sl (Ty.int IntKind.i64), g29_1 x0 x1⟩, ⟨Ty.bool, g29_2 x0 x1⟩] }
theorem con29 : Contract Tryz.prog 29 S29 := contract_of Tryz.func29 hb29 (Nat.le_of_ble_eq_true (by kernel_rfl)) (fun ⟨x0, x1, _⟩ h _ w0 O q => at29 x0 x1 h w0 O q)


end Go.Proofs.YteojabdeehagnaaGreatDoor

/- Function 52 (impl.isOpsDay): its runs between cut points. Written by a program of this repo (gen). -/
set_option linter.unusedVariables false
set_option linter.unusedSimpArgs false
set_option maxRecDepth 100000
namespace Go.Proofs.YteojabdeehagnaaGreatDoor
open Go Go.Am Go.Proofs
def ext52 : Ext := [(51, S51)]
theorem call52_51 : Callable Tryz.prog 51 := ⟨Tryz.f51, Tryz.func51, by kernel_rfl, by kernel_rfl⟩
theorem ext52Ok : ExtOk Tryz.prog ext52 := ⟨⟨call52_51, con51⟩, trivial⟩
/-! Function 52. -/
noncomputable def b52 : Code := bodyOf Tryz.f52
theorem hb52 : Tryz.f52.body = some b52 := by kernel_rfl
def sig52 : List AT := [AT.v (Ty.int IntKind.i64)]
def tys52 : List Ty := [Ty.bool]
def P52 (x0 : Int) : Prop := True
def g52_0 (x0 : Int) : Bool := g51_0 x0 0 100000
theorem p52_0 (x0 : Int) : runF tab ext52 false 5 [] 2000 [] tys52 Tryz.f52.results [] [.code b52] (entE 0 0 sig52 (x0, ())) (entL sig52 (x0, ())) = some ([Dyn.mk Ty.bool (g51_0 x0 0 100000)], [], [True]) := by kernel_rfl
theorem at52 (x0 : Int) (h : P52 x0) (w0 : World) (O : List Nat) (q : Nat → Value) : AtV Tryz.prog 52 (PostR [⟨Ty.bool, g52_0 x0⟩] [] [] q w0 O) 5 w0 O q [] [.code b52] (entE 0 0 sig52 (x0, ())) (entL sig52 (x0, ())) := by
  unfold P52 at h
  unfold g52_0
  exact AtV.fin Tryz.func52 tabOk ext52Ok mixed (p52_0 x0) ⟨trivial, trivial⟩

def S52 : Am.Spec := { sig := sig52, pre := fun ⟨x0, _⟩ => P52 x0, res := fun ⟨x0, _⟩ => [⟨Ty.bool, g52_0 x0⟩] }
theorem con52 : Contract Tryz.prog 52 S52 := contract_of Tryz.func52 hb52 (Nat.le_of_ble_eq_true (by kernel_rfl)) (fun ⟨x0, _⟩ h _ w0 O q => at52 x0 h w0 O q)


end Go.Proofs.YteojabdeehagnaaGreatDoor

/- Function 53 (impl.isCount): its runs between cut points. Written by a program of this repo (gen). -/
set_option linter.unusedVariables false
set_option linter.unusedSimpArgs false
set_option maxRecDepth 100000
namespace Go.Proofs.YteojabdeehagnaaGreatDoor
open Go Go.Am Go.Proofs
def ext53 : Ext := [(51, S51)]
theorem call53_51 : Callable Tryz.prog 51 := ⟨Tryz.f51, Tryz.func51, by kernel_rfl, by kernel_rfl⟩
theorem ext53Ok : ExtOk Tryz.prog ext53 := ⟨⟨call53_51, con51⟩, trivial⟩
/-! Function 53. -/
noncomputable def b53 : Code := bodyOf Tryz.f53
theorem hb53 : Tryz.f53.body = some b53 := by kernel_rfl
def sig53 : List AT := [AT.v (Ty.int IntKind.i64)]
def tys53 : List Ty := [Ty.bool]
def P53 (x0 : Int) : Prop := True
def g53_0 (x0 : Int) : Bool := g51_0 x0 0 1000000
theorem p53_0 (x0 : Int) : runF tab ext53 false 5 [] 2000 [] tys53 Tryz.f53.results [] [.code b53] (entE 0 0 sig53 (x0, ())) (entL sig53 (x0, ())) = some ([Dyn.mk Ty.bool (g51_0 x0 0 1000000)], [], [True]) := by kernel_rfl
theorem at53 (x0 : Int) (h : P53 x0) (w0 : World) (O : List Nat) (q : Nat → Value) : AtV Tryz.prog 53 (PostR [⟨Ty.bool, g53_0 x0⟩] [] [] q w0 O) 5 w0 O q [] [.code b53] (entE 0 0 sig53 (x0, ())) (entL sig53 (x0, ())) := by
  unfold P53 at h
  unfold g53_0
  exact AtV.fin Tryz.func53 tabOk ext53Ok mixed (p53_0 x0) ⟨trivial, trivial⟩

def S53 : Am.Spec := { sig := sig53, pre := fun ⟨x0, _⟩ => P53 x0, res := fun ⟨x0, _⟩ => [⟨Ty.bool, g53_0 x0⟩] }
theorem con53 : Contract Tryz.prog 53 S53 := contract_of Tryz.func53 hb53 (Nat.le_of_ble_eq_true (by kernel_rfl)) (fun ⟨x0, _⟩ h _ w0 O q => at53 x0 h w0 O q)


end Go.Proofs.YteojabdeehagnaaGreatDoor

/- Function 42 (impl.validCheck): its runs between cut points. Written by a program of this repo (gen). -/
set_option linter.unusedVariables false
set_option linter.unusedSimpArgs false
set_option maxRecDepth 100000
namespace Go.Proofs.YteojabdeehagnaaGreatDoor
open Go Go.Am Go.Proofs
def ext42 : Ext := [(36, S36), (51, S51), (52, S52), (53, S53)]
theorem call42_36 : Callable Tryz.prog 36 := ⟨Tryz.f36, Tryz.func36, by kernel_rfl, by kernel_rfl⟩
theorem call42_51 : Callable Tryz.prog 51 := ⟨Tryz.f51, Tryz.func51, by kernel_rfl, by kernel_rfl⟩
theorem call42_52 : Callable Tryz.prog 52 := ⟨Tryz.f52, Tryz.func52, by kernel_rfl, by kernel_rfl⟩
theorem call42_53 : Callable Tryz.prog 53 := ⟨Tryz.f53, Tryz.func53, by kernel_rfl, by kernel_rfl⟩
theorem ext42Ok : ExtOk Tryz.prog ext42 := ⟨⟨call42_36, con36⟩, ⟨call42_51, con51⟩, ⟨call42_52, con52⟩, ⟨call42_53, con53⟩, trivial⟩
/-! Function 42. -/
noncomputable def b42 : Code := bodyOf Tryz.f42
theorem hb42 : Tryz.f42.body = some b42 := by kernel_rfl
def sig42 : List AT := [AT.v (Ty.cons Ty.str (Ty.cons (Ty.int IntKind.i64) (Ty.cons (Ty.int IntKind.i64) (Ty.cons (Ty.int IntKind.i64) (Ty.cons (Ty.int IntKind.i64) Ty.unit)))))]
def tys42 : List Ty := [Ty.bool]
def P42 (x0 : ByteArray × Int × Int × Int × Int × Unit) : Prop := True
def g42_0 (x0 : ByteArray × Int × Int × Int × Int × Unit) : Bool := (if (g36_0 (Prod.fst x0)) = true then (if (g51_0 (Prod.fst (Prod.snd x0)) 1 100000) = true then (if (g51_0 (Prod.fst (Prod.snd (Prod.snd x0))) 1 1000000) = true then (if (g52_0 (Prod.fst (Prod.snd (Prod.snd (Prod.snd x0))))) = true then g53_0 (Prod.fst (Prod.snd (Prod.snd (Prod.snd (Prod.snd x0))))) else Bool.false) else Bool.false) else Bool.false) else Bool.false)
theorem p42_0 (x0 : ByteArray × Int × Int × Int × Int × Unit) : runF tab ext42 false 26 [] 2000 [] tys42 Tryz.f42.results [true, true, true, true] [.code b42] (entE 0 0 sig42 (x0, ())) (entL sig42 (x0, ())) = some ([Dyn.mk Ty.bool (g53_0 (Prod.fst (Prod.snd (Prod.snd (Prod.snd (Prod.snd x0))))))], [], [True, g36_0 (Prod.fst x0) = Bool.true, True, g51_0 (Prod.fst (Prod.snd x0)) 1 100000 = Bool.true, True, g51_0 (Prod.fst (Prod.snd (Prod.snd x0))) 1 1000000 = Bool.true, True, g52_0 (Prod.fst (Prod.snd (Prod.snd (Prod.snd x0)))) = Bool.true, True]) := by kernel_rfl
theorem p42_1 (x0 : ByteArray × Int × Int × Int × Int × Unit) : runF tab ext42 false 26 [] 2000 [] tys42 Tryz.f42.results [true, true, true, false] [.code b42] (entE 0 0 sig42 (x0, ())) (entL sig42 (x0, ())) = some ([Dyn.mk Ty.bool Bool.false], [], [True, g36_0 (Prod.fst x0) = Bool.true, True, g51_0 (Prod.fst (Prod.snd x0)) 1 100000 = Bool.true, True, g51_0 (Prod.fst (Prod.snd (Prod.snd x0))) 1 1000000 = Bool.true, True, g52_0 (Prod.fst (Prod.snd (Prod.snd (Prod.snd x0)))) = Bool.false]) := by kernel_rfl
theorem p42_2 (x0 : ByteArray × Int × Int × Int × Int × Unit) : runF tab ext42 false 26 [] 2000 [] tys42 Tryz.f42.results [true, true, false, false] [.code b42] (entE 0 0 sig42 (x0, ())) (entL sig42 (x0, ())) = some ([Dyn.mk Ty.bool Bool.false], [], [True, g36_0 (Prod.fst x0) = Bool.true, True, g51_0 (Prod.fst (Prod.snd x0)) 1 100000 = Bool.true, True, g51_0 (Prod.fst (Prod.snd (Prod.snd x0))) 1 1000000 = Bool.false, Bool.false = Bool.false]) := by kernel_rfl
theorem p42_3 (x0 : ByteArray × Int × Int × Int × Int × Unit) : runF tab ext42 false 26 [] 2000 [] tys42 Tryz.f42.results [true, false, false, false] [.code b42] (entE 0 0 sig42 (x0, ())) (entL sig42 (x0, ())) = some ([Dyn.mk Ty.bool Bool.false], [], [True, g36_0 (Prod.fst x0) = Bool.true, True, g51_0 (Prod.fst (Prod.snd x0)) 1 100000 = Bool.false, Bool.false = Bool.false, Bool.false = Bool.false]) := by kernel_rfl
theorem p42_4 (x0 : ByteArray × Int × Int × Int × Int × Unit) : runF tab ext42 false 26 [] 2000 [] tys42 Tryz.f42.results [false, false, false, false] [.code b42] (entE 0 0 sig42 (x0, ())) (entL sig42 (x0, ())) = some ([Dyn.mk Ty.bool Bool.false], [], [True, g36_0 (Prod.fst x0) = Bool.false, Bool.false = Bool.false, Bool.false = Bool.false, Bool.false = Bool.false]) := by kernel_rfl
theorem at42 (x0 : ByteArray × Int × Int × Int × Int × Unit) (h : P42 x0) (w0 : World) (O : List Nat) (q : Nat → Value) : AtV Tryz.prog 42 (PostR [⟨Ty.bool, g42_0 x0⟩] [] [] q w0 O) 26 w0 O q [] [.code b42] (entE 0 0 sig42 (x0, ())) (entL sig42 (x0, ())) := by
  unfold P42 at h
  unfold g42_0
  by_cases b0 : (g36_0 (Prod.fst x0)) = true
  · try simp only [if_pos b0] at h ⊢
    by_cases b1 : (g51_0 (Prod.fst (Prod.snd x0)) 1 100000) = true
    · try simp only [if_pos b1] at h ⊢
      by_cases b2 : (g51_0 (Prod.fst (Prod.snd (Prod.snd x0))) 1 1000000) = true
      · try simp only [if_pos b2] at h ⊢
        by_cases b3 : (g52_0 (Prod.fst (Prod.snd (Prod.snd (Prod.snd x0))))) = true
        · try simp only [if_pos b3] at h ⊢
          exact AtV.fin Tryz.func42 tabOk ext42Ok mixed (p42_0 x0) ⟨trivial, b0, trivial, b1, trivial, b2, trivial, b3, trivial, trivial⟩
        · try simp only [if_neg b3] at h ⊢
          replace b3 := Bool.eq_false_iff.2 b3
          exact AtV.fin Tryz.func42 tabOk ext42Ok mixed (p42_1 x0) ⟨trivial, b0, trivial, b1, trivial, b2, trivial, b3, trivial⟩
      · try simp only [if_neg b2] at h ⊢
        replace b2 := Bool.eq_false_iff.2 b2
        exact AtV.fin Tryz.func42 tabOk ext42Ok mixed (p42_2 x0) ⟨trivial, b0, trivial, b1, trivial, b2, rfl, trivial⟩
    · try simp only [if_neg b1] at h ⊢
      replace b1 := Bool.eq_false_iff.2 b1
      exact AtV.fin Tryz.func42 tabOk ext42Ok mixed (p42_3 x0) ⟨trivial, b0, trivial, b1, rfl, rfl, trivial⟩
  · try simp only [if_neg b0] at h ⊢
    replace b0 := Bool.eq_false_iff.2 b0
    exact AtV.fin Tryz.func42 tabOk ext42Ok mixed (p42_4 x0) ⟨trivial, b0, rfl, rfl, rfl, trivial⟩

def S42 : Am.Spec := { sig := sig42, pre := fun ⟨x0, _⟩ => P42 x0, res := fun ⟨x0, _⟩ => [⟨Ty.bool, g42_0 x0⟩] }
theorem con42 : Contract Tryz.prog 42 S42 := contract_of Tryz.func42 hb42 (Nat.le_of_ble_eq_true (by kernel_rfl)) (fun ⟨x0, _⟩ h _ w0 O q => at42 x0 h w0 O q)


end Go.Proofs.YteojabdeehagnaaGreatDoor

/- Function 30 (impl.CheckText): its runs between cut points. Written by a program of this repo (gen). -/
set_option linter.unusedVariables false
set_option linter.unusedSimpArgs false
set_option maxRecDepth 100000
namespace Go.Proofs.YteojabdeehagnaaGreatDoor
open Go Go.Am Go.Proofs
def ext30 : Ext := [(42, S42), (43, S43)]
theorem call30_42 : Callable Tryz.prog 42 := ⟨Tryz.f42, Tryz.func42, by kernel_rfl, by kernel_rfl⟩
theorem call30_43 : Callable Tryz.prog 43 := ⟨Tryz.f43, Tryz.func43, by kernel_rfl, by kernel_rfl⟩
theorem ext30Ok : ExtOk Tryz.prog ext30 := ⟨⟨call30_42, con42⟩, ⟨call30_43, con43⟩, trivial⟩
/-! Function 30. -/
noncomputable def b30 : Code := bodyOf Tryz.f30
theorem hb30 : Tryz.f30.body = some b30 := by kernel_rfl
def sig30 : List AT := [AT.v (Ty.cons Ty.str (Ty.cons (Ty.int IntKind.i64) (Ty.cons (Ty.int IntKind.i64) (Ty.cons (Ty.int IntKind.i64) (Ty.cons (Ty.int IntKind.i64) Ty.unit)))))]
def tys30 : List Ty := [Ty.str]
def P30 (x0 : ByteArray × Int × Int × Int × Int × Unit) : Prop := (if (!g42_0 x0) = true then True else ((ByteArray.size (Prod.fst x0) + 1 ≤ 9223372036854775807) ∧ ((ByteArray.size (Prod.fst x0 ++ ByteArray.mk #[32]) + ByteArray.size (g43_0 [Prod.fst (Prod.snd x0), Prod.fst (Prod.snd (Prod.snd x0)), Prod.fst (Prod.snd (Prod.snd (Prod.snd x0))), Prod.fst (Prod.snd (Prod.snd (Prod.snd (Prod.snd x0))))]) ≤ 9223372036854775807) ∧ True)))
def g30_0 (x0 : ByteArray × Int × Int × Int × Int × Unit) : ByteArray := (if (!g42_0 x0) = true then ByteArray.mk #[] else Prod.fst x0 ++ ByteArray.mk #[32] ++ g43_0 [Prod.fst (Prod.snd x0), Prod.fst (Prod.snd (Prod.snd x0)), Prod.fst (Prod.snd (Prod.snd (Prod.snd x0))), Prod.fst (Prod.snd (Prod.snd (Prod.snd (Prod.snd x0))))])
theorem p30_0 (x0 : ByteArray × Int × Int × Int × Int × Unit) : runF tab ext30 false 20 [] 2000 [] tys30 Tryz.f30.results [true] [.code b30] (entE 0 0 sig30 (x0, ())) (entL sig30 (x0, ())) = some ([Dyn.mk Ty.str (ByteArray.mk #[])], [], [True, (!g42_0 x0) = Bool.true]) := by kernel_rfl
theorem p30_1 (x0 : ByteArray × Int × Int × Int × Int × Unit) : runF tab ext30 false 20 [] 2000 [] tys30 Tryz.f30.results [false] [.code b30] (entE 0 0 sig30 (x0, ())) (entL sig30 (x0, ())) = some ([Dyn.mk Ty.str (Prod.fst x0 ++ ByteArray.mk #[32] ++ g43_0 [Prod.fst (Prod.snd x0), Prod.fst (Prod.snd (Prod.snd x0)), Prod.fst (Prod.snd (Prod.snd (Prod.snd x0))), Prod.fst (Prod.snd (Prod.snd (Prod.snd (Prod.snd x0))))])], [], [True, (!g42_0 x0) = Bool.false, ByteArray.size (Prod.fst x0) + 1 ≤ 9223372036854775807, True, ByteArray.size (Prod.fst x0 ++ ByteArray.mk #[32]) + ByteArray.size (g43_0 [Prod.fst (Prod.snd x0), Prod.fst (Prod.snd (Prod.snd x0)), Prod.fst (Prod.snd (Prod.snd (Prod.snd x0))), Prod.fst (Prod.snd (Prod.snd (Prod.snd (Prod.snd x0))))]) ≤ 9223372036854775807]) := by kernel_rfl
theorem at30 (x0 : ByteArray × Int × Int × Int × Int × Unit) (h : P30 x0) (w0 : World) (O : List Nat) (q : Nat → Value) : AtV Tryz.prog 30 (PostR [⟨Ty.str, g30_0 x0⟩] [] [] q w0 O) 20 w0 O q [] [.code b30] (entE 0 0 sig30 (x0, ())) (entL sig30 (x0, ())) := by
  unfold P30 at h
  unfold g30_0
  by_cases b0 : (!g42_0 x0) = true
  · try simp only [if_pos b0] at h ⊢
    exact AtV.fin Tryz.func30 tabOk ext30Ok mixed (p30_0 x0) ⟨trivial, b0, trivial⟩
  · try simp only [if_neg b0] at h ⊢
    replace b0 := Bool.eq_false_iff.2 b0
    obtain ⟨s0, h⟩ := h
    obtain ⟨s1, h⟩ := h
    exact AtV.fin Tryz.func30 tabOk ext30Ok mixed (p30_1 x0) ⟨trivial, b0, s0, trivial, s1, trivial⟩

def S30 : Am.Spec := { sig := sig30, pre := fun ⟨x0, _⟩ => P30 x0, res := fun ⟨x0, _⟩ => [⟨Ty.str, g30_0 x0⟩] }
theorem con30 : Contract Tryz.prog 30 S30 := contract_of Tryz.func30 hb30 (Nat.le_of_ble_eq_true (by kernel_rfl)) (fun ⟨x0, _⟩ h _ w0 O q => at30 x0 h w0 O q)


end Go.Proofs.YteojabdeehagnaaGreatDoor

/- Function 18 (impl.ReadCheck): its runs between cut points. Written by a program of this repo (gen). -/
set_option linter.unusedVariables false
set_option linter.unusedSimpArgs false
set_option maxRecDepth 100000
namespace Go.Proofs.YteojabdeehagnaaGreatDoor
open Go Go.Am Go.Proofs
def ext18 : Ext := [(29, S29), (30, S30)]
theorem call18_29 : Callable Tryz.prog 29 := ⟨Tryz.f29, Tryz.func29, by kernel_rfl, by kernel_rfl⟩
theorem call18_30 : Callable Tryz.prog 30 := ⟨Tryz.f30, Tryz.func30, by kernel_rfl, by kernel_rfl⟩
theorem ext18Ok : ExtOk Tryz.prog ext18 := ⟨⟨call18_29, con29⟩, ⟨call18_30, con30⟩, trivial⟩
/-! Function 18. -/
noncomputable def b18 : Code := bodyOf Tryz.f18
theorem hb18 : Tryz.f18.body = some b18 := by kernel_rfl
def sig18 : List AT := [AT.v (Ty.str)]
def tys18 : List Ty := [Ty.cons Ty.str (Ty.cons (Ty.int IntKind.i64) (Ty.cons (Ty.int IntKind.i64) (Ty.cons (Ty.int IntKind.i64) (Ty.cons (Ty.int IntKind.i64) Ty.unit)))), Ty.bool]
def P18 (x0 : ByteArray) : Prop := ((P29 x0 4) ∧ (if (!g29_2 x0 4) = true then True else ((0 < (↑(List.length (g29_1 x0 4)) : Int)) ∧ ((1 < (↑(List.length (g29_1 x0 4)) : Int)) ∧ ((2 < (↑(List.length (g29_1 x0 4)) : Int)) ∧ ((3 < (↑(List.length (g29_1 x0 4)) : Int)) ∧ ((P30 (g29_0 x0 4, List.getD (g29_1 x0 4) 0 0, List.getD (g29_1 x0 4) 1 0, List.getD (g29_1 x0 4) 2 0, List.getD (g29_1 x0 4) 3 0, ())) ∧ True)))))))
def g18_0 (x0 : ByteArray) : ByteArray × Int × Int × Int × Int × Unit := (if (!g29_2 x0 4) = true then (ByteArray.empty, 0, 0, 0, 0, ()) else (if (!ByteArray.toList (g30_0 (g29_0 x0 4, List.getD (g29_1 x0 4) 0 0, List.getD (g29_1 x0 4) 1 0, List.getD (g29_1 x0 4) 2 0, List.getD (g29_1 x0 4) 3 0, ())) == ByteArray.toList x0) = true then (ByteArray.empty, 0, 0, 0, 0, ()) else (g29_0 x0 4, List.getD (g29_1 x0 4) 0 0, List.getD (g29_1 x0 4) 1 0, List.getD (g29_1 x0 4) 2 0, List.getD (g29_1 x0 4) 3 0, ())))
def g18_1 (x0 : ByteArray) : Bool := (if (!g29_2 x0 4) = true then Bool.false else (if (!ByteArray.toList (g30_0 (g29_0 x0 4, List.getD (g29_1 x0 4) 0 0, List.getD (g29_1 x0 4) 1 0, List.getD (g29_1 x0 4) 2 0, List.getD (g29_1 x0 4) 3 0, ())) == ByteArray.toList x0) = true then Bool.false else Bool.true))
theorem p18_0 (x0 : ByteArray) : runF tab ext18 false 37 [] 2000 [] tys18 Tryz.f18.results [true] [.code b18] (entE 0 0 sig18 (x0, ())) (entL sig18 (x0, ())) = some ([Dyn.mk (Ty.cons Ty.str (Ty.cons (Ty.int IntKind.i64) (Ty.cons (Ty.int IntKind.i64) (Ty.cons (Ty.int IntKind.i64) (Ty.cons (Ty.int IntKind.i64) Ty.unit))))) (ByteArray.empty, 0, 0, 0, 0, ()), Dyn.mk Ty.bool Bool.false], [], [P29 x0 4, (!g29_2 x0 4) = Bool.true]) := by kernel_rfl
theorem p18_1 (x0 : ByteArray) : runF tab ext18 false 37 [] 2000 [] tys18 Tryz.f18.results [false, true] [.code b18] (entE 0 0 sig18 (x0, ())) (entL sig18 (x0, ())) = some ([Dyn.mk (Ty.cons Ty.str (Ty.cons (Ty.int IntKind.i64) (Ty.cons (Ty.int IntKind.i64) (Ty.cons (Ty.int IntKind.i64) (Ty.cons (Ty.int IntKind.i64) Ty.unit))))) (ByteArray.empty, 0, 0, 0, 0, ()), Dyn.mk Ty.bool Bool.false], [], [P29 x0 4, (!g29_2 x0 4) = Bool.false, (0 : Int) ≤ (0 : Int), 0 < (↑(List.length (g29_1 x0 4)) : Int), (0 : Int) ≤ (1 : Int), 1 < (↑(List.length (g29_1 x0 4)) : Int), (0 : Int) ≤ (2 : Int), 2 < (↑(List.length (g29_1 x0 4)) : Int), (0 : Int) ≤ (3 : Int), 3 < (↑(List.length (g29_1 x0 4)) : Int), P30 (g29_0 x0 4, List.getD (g29_1 x0 4) 0 0, List.getD (g29_1 x0 4) 1 0, List.getD (g29_1 x0 4) 2 0, List.getD (g29_1 x0 4) 3 0, ()), (!ByteArray.toList (g30_0 (g29_0 x0 4, List.getD (g29_1 x0 4) 0 0, List.getD (g29_1 x0 4) 1 0, List.getD (g29_1 x0 4) 2 0, List.getD (g29_1 x0 4) 3 0, ())) == ByteArray.toList x0) = Bool.true]) := by kernel_rfl
theorem p18_2 (x0 : ByteArray) : runF tab ext18 false 37 [] 2000 [] tys18 Tryz.f18.results [false, false] [.code b18] (entE 0 0 sig18 (x0, ())) (entL sig18 (x0, ())) = some ([Dyn.mk (Ty.cons Ty.str (Ty.cons (Ty.int IntKind.i64) (Ty.cons (Ty.int IntKind.i64) (Ty.cons (Ty.int IntKind.i64) (Ty.cons (Ty.int IntKind.i64) Ty.unit))))) (g29_0 x0 4, List.getD (g29_1 x0 4) 0 0, List.getD (g29_1 x0 4) 1 0, List.getD (g29_1 x0 4) 2 0, List.getD (g29_1 x0 4) 3 0, ()), Dyn.mk Ty.bool Bool.true], [], [P29 x0 4, (!g29_2 x0 4) = Bool.false, (0 : Int) ≤ (0 : Int), 0 < (↑(List.length (g29_1 x0 4)) : Int), (0 : Int) ≤ (1 : Int), 1 < (↑(List.length (g29_1 x0 4)) : Int), (0 : Int) ≤ (2 : Int), 2 < (↑(List.length (g29_1 x0 4)) : Int), (0 : Int) ≤ (3 : Int), 3 < (↑(List.length (g29_1 x0 4)) : Int), P30 (g29_0 x0 4, List.getD (g29_1 x0 4) 0 0, List.getD (g29_1 x0 4) 1 0, List.getD (g29_1 x0 4) 2 0, List.getD (g29_1 x0 4) 3 0, ()), (!ByteArray.toList (g30_0 (g29_0 x0 4, List.getD (g29_1 x0 4) 0 0, List.getD (g29_1 x0 4) 1 0, List.getD (g29_1 x0 4) 2 0, List.getD (g29_1 x0 4) 3 0, ())) == ByteArray.toList x0) = Bool.false]) := by kernel_rfl
theorem at18 (x0 : ByteArray) (h : P18 x0) (w0 : World) (O : List Nat) (q : Nat → Value) : AtV Tryz.prog 18 (PostR [⟨Ty.cons Ty.str (Ty.cons (Ty.int IntKind.i64) (Ty.cons (Ty.int IntKind.i64) (Ty.cons (Ty.int IntKind.i64) (Ty.cons (Ty.int IntKind.i64) Ty.unit)))), g18_0 x0⟩, ⟨Ty.bool, g18_1 x0⟩] [] [] q w0 O) 37 w0 O q [] [.code b18] (entE 0 0 sig18 (x0, ())) (entL sig18 (x0, ())) := by
  unfold P18 at h
  unfold g18_0 g18_1
  obtain ⟨s0, h⟩ := h
  by_cases b0 : (!g29_2 x0 4) = true
  · try simp only [if_pos b0] at h ⊢
    exact AtV.fin Tryz.func18 tabOk ext18Ok mixed (p18_0 x0) ⟨s0, b0, trivial⟩
  · try simp only [if_neg b0] at h ⊢
    replace b0 := Bool.eq_false_iff.2 b0
    obtain ⟨s1, h⟩ := h
    obtain ⟨s2, h⟩ := h
    obtain ⟨s3, h⟩ := h
    obtain ⟨s4, h⟩ := h
    obtain ⟨s5, h⟩ := h
    by_cases b1 : (!ByteArray.toList (g30_0 (g29_0 x0 4, List.getD (g29_1 x0 4) 0 0, List.getD (g29_1 x0 4) 1 0, List.getD (g29_1 x0 4) 2 0, List.getD (g29_1 x0 4) 3 0, ())) == ByteArray.toList x0) = true
    · try simp only [if_pos b1] at h ⊢
      exact AtV.fin Tryz.func18 tabOk ext18Ok mixed (p18_1 x0) ⟨s0, b0, (by decide), s1, (by decide), s2, (by decide), s3, (by decide), s4, s5, b1, trivial⟩
    · try simp only [if_neg b1] at h ⊢
      replace b1 := Bool.eq_false_iff.2 b1
      exact AtV.fin Tryz.func18 tabOk ext18Ok mixed (p18_2 x0) ⟨s0, b0, (by decide), s1, (by decide), s2, (by decide), s3, (by decide), s4, s5, b1, trivial⟩

def S18 : Am.Spec := { sig := sig18, pre := fun ⟨x0, _⟩ => P18 x0, res := fun ⟨x0, _⟩ => [⟨Ty.cons Ty.str (Ty.cons (Ty.int IntKind.i64) (Ty.cons (Ty.int IntKind.i64) (Ty.cons (Ty.int IntKind.i64) (Ty.cons (Ty.int IntKind.i64) Ty.unit)))), g18_0 x0⟩, ⟨Ty.bool, g18_1 x0⟩] }
theorem con18 : Contract Tryz.prog 18 S18 := contract_of Tryz.func18 hb18 (Nat.le_of_ble_eq_true (by kernel_rfl)) (fun ⟨x0, _⟩ h _ w0 O q => at18 x0 h w0 O q)


end Go.Proofs.YteojabdeehagnaaGreatDoor

/- Function 7 (impl.ChecksOfBlocks): its runs between cut points. Written by a program of this repo (gen). -/
set_option linter.unusedVariables false
set_option linter.unusedSimpArgs false
set_option maxRecDepth 100000
namespace Go.Proofs.YteojabdeehagnaaGreatDoor
open Go Go.Am Go.Proofs
def ext7 : Ext := [(17, S17), (18, S18)]
theorem call7_17 : Callable Tryz.prog 17 := ⟨Tryz.f17, Tryz.func17, by kernel_rfl, by kernel_rfl⟩
theorem call7_18 : Callable Tryz.prog 18 := ⟨Tryz.f18, Tryz.func18, by kernel_rfl, by kernel_rfl⟩
theorem ext7Ok : ExtOk Tryz.prog ext7 := ⟨⟨call7_17, con17⟩, ⟨call7_18, con18⟩, trivial⟩
/-! Function 7. -/
noncomputable def b7 : Code := bodyOf Tryz.f7
theorem hb7 : Tryz.f7.body = some b7 := by kernel_rfl
def sig7 : List AT := [AT.v (Ty.sl (Ty.cons Ty.str (Ty.cons Ty.str (Ty.cons Ty.str Ty.unit))))]
def tys7 : List Ty := [Ty.sl (Ty.cons Ty.str (Ty.cons (Ty.int IntKind.i64) (Ty.cons (Ty.int IntKind.i64) (Ty.cons (Ty.int IntKind.i64) (Ty.cons (Ty.int IntKind.i64) Ty.unit))))), Ty.int IntKind.i64]
def E7_5 (v14 : Int) (h0 : List (ByteArray × Int × Int × Int × Int × Unit)) (x0 : List (ByteArray × ByteArray × ByteArray × Unit)) : Env := [(4, PV.a (Atom.osl 0 Option.none)), (12, PV.a (Atom.sl (Ty.cons Ty.str (Ty.cons Ty.str (Ty.cons Ty.str Ty.unit))) x0)), (13, PV.a (Atom.val (Value.int IntKind.i64 (↑(List.length x0) : Int)))), (14, PV.a (Atom.val (Value.int IntKind.i64 v14)))]
def L7_5 (v14 : Int) (h0 : List (ByteArray × Int × Int × Int × Int × Unit)) (x0 : List (ByteArray × ByteArray × ByteArray × Unit)) : Heap := [Option.some (Arr.mk (Ty.cons Ty.str (Ty.cons (Ty.int IntKind.i64) (Ty.cons (Ty.int IntKind.i64) (Ty.cons (Ty.int IntKind.i64) (Ty.cons (Ty.int IntKind.i64) Ty.unit))))) h0 Bool.false)]
mutual
def R7 : Nat → List (ByteArray × ByteArray × ByteArray × Unit) → List Dyn → Prop
  | 0, _, _ => False
  | n + 1, x0, ds => (if (!g17_0 x0) = true then (ds = [Dyn.mk (Ty.sl (Ty.cons Ty.str (Ty.cons (Ty.int IntKind.i64) (Ty.cons (Ty.int IntKind.i64) (Ty.cons (Ty.int IntKind.i64) (Ty.cons (Ty.int IntKind.i64) Ty.unit)))))) [], Dyn.mk (Ty.int IntKind.i64) 1]) else (R7_5 n (0) ([]) (x0) ds))
def R7_5 : Nat → Int → List (ByteArray × Int × Int × Int × Int × Unit) → List (ByteArray × ByteArray × ByteArray × Unit) → List Dyn → Prop
  | 0, _, _, _, _ => False
  | n + 1, v14, h0, x0, ds => (if (Decidable.decide (v14 < (↑(List.length x0) : Int))) = true then ((0 ≤ v14) ∧ (v14 < (↑(List.length x0) : Int)) ∧ (if (!ByteArray.toList (Prod.fst (List.getD x0 (Int.toNat v14) (ByteArray.empty, ByteArray.empty, ByteArray.empty, ()))) == ByteArray.toList (ByteArray.mk #[99, 104, 101, 99, 107])) = true then ((InR IntKind.i64 (v14 + 1)) ∧ (R7_5 n (v14 + 1) (h0) (x0) ds)) else ((P18 (Prod.fst (Prod.snd (Prod.snd (List.getD x0 (Int.toNat v14) (ByteArray.empty, ByteArray.empty, ByteArray.empty, ())))))) ∧ (if (!g18_1 (Prod.fst (Prod.snd (Prod.snd (List.getD x0 (Int.toNat v14) (ByteArray.empty, ByteArray.empty, ByteArray.empty, ())))))) = true then (ds = [Dyn.mk (Ty.sl (Ty.cons Ty.str (Ty.cons (Ty.int IntKind.i64) (Ty.cons (Ty.int IntKind.i64) (Ty.cons (Ty.int IntKind.i64) (Ty.cons (Ty.int IntKind.i64) Ty.unit)))))) [], Dyn.mk (Ty.int IntKind.i64) 9]) else (if (!ByteArray.toList (Prod.fst (g18_0 (Prod.fst (Prod.snd (Prod.snd (List.getD x0 (Int.toNat v14) (ByteArray.empty, ByteArray.empty, ByteArray.empty, ()))))))) == ByteArray.toList (Prod.fst (Prod.snd (List.getD x0 (Int.toNat v14) (ByteArray.empty, ByteArray.empty, ByteArray.empty, ()))))) = true then (ds = [Dyn.mk (Ty.sl (Ty.cons Ty.str (Ty.cons (Ty.int IntKind.i64) (Ty.cons (Ty.int IntKind.i64) (Ty.cons (Ty.int IntKind.i64) (Ty.cons (Ty.int IntKind.i64) Ty.unit)))))) [], Dyn.mk (Ty.int IntKind.i64) 6]) else (((List.length h0 + 1) * 48 ≤ 140737488355328) ∧ ((InR IntKind.i64 (v14 + 1)) ∧ (R7_5 n (v14 + 1) (h0 ++ [g18_0 (Prod.fst (Prod.snd (Prod.snd (List.getD x0 (Int.toNat v14) (ByteArray.empty, ByteArray.empty, ByteArray.empty, ())))))]) (x0) ds)))))))) else (if (Decidable.decide ((↑(List.length h0) : Int) > 16)) = true then (ds = [Dyn.mk (Ty.sl (Ty.cons Ty.str (Ty.cons (Ty.int IntKind.i64) (Ty.cons (Ty.int IntKind.i64) (Ty.cons (Ty.int IntKind.i64) (Ty.cons (Ty.int IntKind.i64) Ty.unit)))))) [], Dyn.mk (Ty.int IntKind.i64) 5]) else (ds = [Dyn.mk (Ty.sl (Ty.cons Ty.str (Ty.cons (Ty.int IntKind.i64) (Ty.cons (Ty.int IntKind.i64) (Ty.cons (Ty.int IntKind.i64) (Ty.cons (Ty.int IntKind.i64) Ty.unit)))))) h0, Dyn.mk (Ty.int IntKind.i64) 0])))
end
theorem p7_0 (x0 : List (ByteArray × ByteArray × ByteArray × Unit)) : runF tab ext7 false 45 [] 2000 [] tys7 Tryz.f7.results [true] [.code b7] (entE 0 0 sig7 (x0, ())) (entL sig7 (x0, ())) = some ([Dyn.mk (Ty.sl (Ty.cons Ty.str (Ty.cons (Ty.int IntKind.i64) (Ty.cons (Ty.int IntKind.i64) (Ty.cons (Ty.int IntKind.i64) (Ty.cons (Ty.int IntKind.i64) Ty.unit)))))) [], Dyn.mk (Ty.int IntKind.i64) 1], [], [True, (!g17_0 x0) = Bool.true]) := by kernel_rfl
theorem p7_1 (x0 : List (ByteArray × ByteArray × ByteArray × Unit)) : Am.runN tab ext7 false 45 [] 2000 [] [(4, Ty.cons Ty.str (Ty.cons (Ty.int IntKind.i64) (Ty.cons (Ty.int IntKind.i64) (Ty.cons (Ty.int IntKind.i64) (Ty.cons (Ty.int IntKind.i64) Ty.unit)))))] [4, 12, 13, 14] [0] [false] [.code b7] (entE 0 0 sig7 (x0, ())) (entL sig7 (x0, ())) = some (cutAt b7 5, E7_5 (0) ([]) (x0), L7_5 (0) ([]) (x0), [True, (!g17_0 x0) = Bool.false]) := by kernel_rfl
theorem p7_2 (v14 : Int) (h0 : List (ByteArray × Int × Int × Int × Int × Unit)) (x0 : List (ByteArray × ByteArray × ByteArray × Unit)) : Am.runN tab ext7 false 45 [] 2000 [] [(4, Ty.cons Ty.str (Ty.cons (Ty.int IntKind.i64) (Ty.cons (Ty.int IntKind.i64) (Ty.cons (Ty.int IntKind.i64) (Ty.cons (Ty.int IntKind.i64) Ty.unit)))))] [4, 12, 13, 14] [0] [true, true] (cutAt b7 5) (E7_5 v14 h0 x0) (L7_5 v14 h0 x0) = some (cutAt b7 5, E7_5 (v14 + 1) (h0) (x0), L7_5 (v14 + 1) (h0) (x0), [Decidable.decide (v14 < (↑(List.length x0) : Int)) = Bool.true, 0 ≤ v14, v14 < (↑(List.length x0) : Int), (!ByteArray.toList (Prod.fst (List.getD x0 (Int.toNat v14) (ByteArray.empty, ByteArray.empty, ByteArray.empty, ()))) == ByteArray.toList (ByteArray.mk #[99, 104, 101, 99, 107])) = Bool.true, InR IntKind.i64 (v14 + 1)]) := by kernel_rfl
theorem p7_3 (v14 : Int) (h0 : List (ByteArray × Int × Int × Int × Int × Unit)) (x0 : List (ByteArray × ByteArray × ByteArray × Unit)) : runF tab ext7 false 45 [] 2000 [] tys7 Tryz.f7.results [true, false, true] (cutAt b7 5) (E7_5 v14 h0 x0) (L7_5 v14 h0 x0) = some ([Dyn.mk (Ty.sl (Ty.cons Ty.str (Ty.cons (Ty.int IntKind.i64) (Ty.cons (Ty.int IntKind.i64) (Ty.cons (Ty.int IntKind.i64) (Ty.cons (Ty.int IntKind.i64) Ty.unit)))))) [], Dyn.mk (Ty.int IntKind.i64) 9], [], [Decidable.decide (v14 < (↑(List.length x0) : Int)) = Bool.true, 0 ≤ v14, v14 < (↑(List.length x0) : Int), (!ByteArray.toList (Prod.fst (List.getD x0 (Int.toNat v14) (ByteArray.empty, ByteArray.empty, ByteArray.empty, ()))) == ByteArray.toList (ByteArray.mk #[99, 104, 101, 99, 107])) = Bool.false, P18 (Prod.fst (Prod.snd (Prod.snd (List.getD x0 (Int.toNat v14) (ByteArray.empty, ByteArray.empty, ByteArray.empty, ()))))), (!g18_1 (Prod.fst (Prod.snd (Prod.snd (List.getD x0 (Int.toNat v14) (ByteArray.empty, ByteArray.empty, ByteArray.empty, ())))))) = Bool.true]) := by kernel_rfl
theorem p7_4 (v14 : Int) (h0 : List (ByteArray × Int × Int × Int × Int × Unit)) (x0 : List (ByteArray × ByteArray × ByteArray × Unit)) : runF tab ext7 false 45 [] 2000 [] tys7 Tryz.f7.results [true, false, false, true] (cutAt b7 5) (E7_5 v14 h0 x0) (L7_5 v14 h0 x0) = some ([Dyn.mk (Ty.sl (Ty.cons Ty.str (Ty.cons (Ty.int IntKind.i64) (Ty.cons (Ty.int IntKind.i64) (Ty.cons (Ty.int IntKind.i64) (Ty.cons (Ty.int IntKind.i64) Ty.unit)))))) [], Dyn.mk (Ty.int IntKind.i64) 6], [], [Decidable.decide (v14 < (↑(List.length x0) : Int)) = Bool.true, 0 ≤ v14, v14 < (↑(List.length x0) : Int), (!ByteArray.toList (Prod.fst (List.getD x0 (Int.toNat v14) (ByteArray.empty, ByteArray.empty, ByteArray.empty, ()))) == ByteArray.toList (ByteArray.mk #[99, 104, 101, 99, 107])) = Bool.false, P18 (Prod.fst (Prod.snd (Prod.snd (List.getD x0 (Int.toNat v14) (ByteArray.empty, ByteArray.empty, ByteArray.empty, ()))))), (!g18_1 (Prod.fst (Prod.snd (Prod.snd (List.getD x0 (Int.toNat v14) (ByteArray.empty, ByteArray.empty, ByteArray.empty, ())))))) = Bool.false, (!ByteArray.toList (Prod.fst (g18_0 (Prod.fst (Prod.snd (Prod.snd (List.getD x0 (Int.toNat v14) (ByteArray.empty, ByteArray.empty, ByteArray.empty, ()))))))) == ByteArray.toList (Prod.fst (Prod.snd (List.getD x0 (Int.toNat v14) (ByteArray.empty, ByteArray.empty, ByteArray.empty, ()))))) = Bool.true]) := by kernel_rfl
theorem p7_5 (v14 : Int) (h0 : List (ByteArray × Int × Int × Int × Int × Unit)) (x0 : List (ByteArray × ByteArray × ByteArray × Unit)) : Am.runN tab ext7 false 45 [] 2000 [] [(4, Ty.cons Ty.str (Ty.cons (Ty.int IntKind.i64) (Ty.cons (Ty.int IntKind.i64) (Ty.cons (Ty.int IntKind.i64) (Ty.cons (Ty.int IntKind.i64) Ty.unit)))))] [4, 12, 13, 14] [0] [true, false, false, false] (cutAt b7 5) (E7_5 v14 h0 x0) (L7_5 v14 h0 x0) = some (cutAt b7 5, E7_5 (v14 + 1) (h0 ++ [g18_0 (Prod.fst (Prod.snd (Prod.snd (List.getD x0 (Int.toNat v14) (ByteArray.empty, ByteArray.empty, ByteArray.empty, ())))))]) (x0), L7_5 (v14 + 1) (h0 ++ [g18_0 (Prod.fst (Prod.snd (Prod.snd (List.getD x0 (Int.toNat v14) (ByteArray.empty, ByteArray.empty, ByteArray.empty, ())))))]) (x0), [Decidable.decide (v14 < (↑(List.length x0) : Int)) = Bool.true, 0 ≤ v14, v14 < (↑(List.length x0) : Int), (!ByteArray.toList (Prod.fst (List.getD x0 (Int.toNat v14) (ByteArray.empty, ByteArray.empty, ByteArray.empty, ()))) == ByteArray.toList (ByteArray.mk #[99, 104, 101, 99, 107])) = Bool.false, P18 (Prod.fst (Prod.snd (Prod.snd (List.getD x0 (Int.toNat v14) (ByteArray.empty, ByteArray.empty, ByteArray.empty, ()))))), (!g18_1 (Prod.fst (Prod.snd (Prod.snd (List.getD x0 (Int.toNat v14) (ByteArray.empty, ByteArray.empty, ByteArray.empty, ())))))) = Bool.false, (!ByteArray.toList (Prod.fst (g18_0 (Prod.fst (Prod.snd (Prod.snd (List.getD x0 (Int.toNat v14) (ByteArray.empty, ByteArray.empty, ByteArray.empty, ()))))))) == ByteArray.toList (Prod.fst (Prod.snd (List.getD x0 (Int.toNat v14) (ByteArray.empty, ByteArray.empty, ByteArray.empty, ()))))) = Bool.false, (List.length h0 + 1) * 48 ≤ 140737488355328, InR IntKind.i64 (v14 + 1)]) := by kernel_rfl
theorem p7_6 (v14 : Int) (h0 : List (ByteArray × Int × Int × Int × Int × Unit)) (x0 : List (ByteArray × ByteArray × ByteArray × Unit)) : runF tab ext7 false 45 [] 2000 [] tys7 Tryz.f7.results [false, true] (cutAt b7 5) (E7_5 v14 h0 x0) (L7_5 v14 h0 x0) = some ([Dyn.mk (Ty.sl (Ty.cons Ty.str (Ty.cons (Ty.int IntKind.i64) (Ty.cons (Ty.int IntKind.i64) (Ty.cons (Ty.int IntKind.i64) (Ty.cons (Ty.int IntKind.i64) Ty.unit)))))) [], Dyn.mk (Ty.int IntKind.i64) 5], [], [Decidable.decide (v14 < (↑(List.length x0) : Int)) = Bool.false, Decidable.decide ((↑(List.length h0) : Int) > 16) = Bool.true]) := by kernel_rfl
theorem p7_7 (v14 : Int) (h0 : List (ByteArray × Int × Int × Int × Int × Unit)) (x0 : List (ByteArray × ByteArray × ByteArray × Unit)) : runF tab ext7 false 45 [] 2000 [] tys7 Tryz.f7.results [false, false] (cutAt b7 5) (E7_5 v14 h0 x0) (L7_5 v14 h0 x0) = some ([Dyn.mk (Ty.sl (Ty.cons Ty.str (Ty.cons (Ty.int IntKind.i64) (Ty.cons (Ty.int IntKind.i64) (Ty.cons (Ty.int IntKind.i64) (Ty.cons (Ty.int IntKind.i64) Ty.unit)))))) h0, Dyn.mk (Ty.int IntKind.i64) 0], [], [Decidable.decide (v14 < (↑(List.length x0) : Int)) = Bool.false, Decidable.decide ((↑(List.length h0) : Int) > 16) = Bool.false]) := by kernel_rfl
theorem snd7 : ∀ n, (∀ (x0 : List (ByteArray × ByteArray × ByteArray × Unit)) ds, R7 n x0 ds → ∀ w0 O q, AtV Tryz.prog 7 (PostR ds [] [] q w0 O) 45 w0 O q [] [.code b7] (entE 0 0 sig7 (x0, ())) (entL sig7 (x0, ()))) ∧ (∀ (v14 : Int) (h0 : List (ByteArray × Int × Int × Int × Int × Unit)) (x0 : List (ByteArray × ByteArray × ByteArray × Unit)) ds, R7_5 n v14 h0 x0 ds → ∀ w0 O q, AtV Tryz.prog 7 (PostR ds [] [] q w0 O) 45 w0 O q [] (cutAt b7 5) (E7_5 v14 h0 x0) (L7_5 v14 h0 x0)) := by
  intro n
  induction n with
  | zero => exact ⟨fun _ _ h => by simp only [R7] at h, fun _ _ _ _ h => by simp only [R7_5] at h⟩
  | succ n ih =>
  obtain ⟨ih, ih5⟩ := ih
  refine ⟨?_, ?_⟩
  · intro x0 ds h w0 O q
    rw [R7] at h
    by_cases b0 : (!g17_0 x0) = true
    · rw [if_pos b0] at h
      subst h
      exact AtV.fin Tryz.func7 tabOk ext7Ok mixed (p7_0 x0) ⟨trivial, b0, trivial⟩
    · rw [if_neg b0] at h
      replace b0 := Bool.eq_false_iff.2 b0
      exact AtV.runN tabOk ext7Ok mixed (p7_1 x0) ⟨trivial, b0, trivial⟩ (ih5 _ _ _ _ h w0 O q)

  · intro v14 h0 x0 ds h w0 O q
    rw [R7_5] at h
    by_cases b0 : (Decidable.decide (v14 < (↑(List.length x0) : Int))) = true
    · rw [if_pos b0] at h
      obtain ⟨s0, s1, h⟩ := h
      by_cases b1 : (!ByteArray.toList (Prod.fst (List.getD x0 (Int.toNat v14) (ByteArray.empty, ByteArray.empty, ByteArray.empty, ()))) == ByteArray.toList (ByteArray.mk #[99, 104, 101, 99, 107])) = true
      · rw [if_pos b1] at h
        obtain ⟨s2, h⟩ := h
        exact AtV.runN tabOk ext7Ok mixed (p7_2 v14 h0 x0) ⟨b0, s0, s1, b1, s2, trivial⟩ (ih5 _ _ _ _ h w0 O q)
      · rw [if_neg b1] at h
        replace b1 := Bool.eq_false_iff.2 b1
        obtain ⟨s2, h⟩ := h
        by_cases b2 : (!g18_1 (Prod.fst (Prod.snd (Prod.snd (List.getD x0 (Int.toNat v14) (ByteArray.empty, ByteArray.empty, ByteArray.empty, ())))))) = true
        · rw [if_pos b2] at h
          subst h
          exact AtV.fin Tryz.func7 tabOk ext7Ok mixed (p7_3 v14 h0 x0) ⟨b0, s0, s1, b1, s2, b2, trivial⟩
        · rw [if_neg b2] at h
          replace b2 := Bool.eq_false_iff.2 b2
          by_cases b3 : (!ByteArray.toList (Prod.fst (g18_0 (Prod.fst (Prod.snd (Prod.snd (List.getD x0 (Int.toNat v14) (ByteArray.empty, ByteArray.empty, ByteArray.empty, ()))))))) == ByteArray.toList (Prod.fst (Prod.snd (List.getD x0 (Int.toNat v14) (ByteArray.empty, ByteArray.empty, ByteArray.empty, ()))))) = true
          · rw [if_pos b3] at h
            subst h
            exact AtV.fin Tryz.func7 tabOk ext7Ok mixed (p7_4 v14 h0 x0) ⟨b0, s0, s1, b1, s2, b2, b3, trivial⟩
          · rw [if_neg b3] at h
            replace b3 := Bool.eq_false_iff.2 b3
            obtain ⟨s3, h⟩ := h
            obtain ⟨s4, h⟩ := h
            exact AtV.runN tabOk ext7Ok mixed (p7_5 v14 h0 x0) ⟨b0, s0, s1, b1, s2, b2, b3, s3, s4, trivial⟩ (ih5 _ _ _ _ h w0 O q)
    · rw [if_neg b0] at h
      replace b0 := Bool.eq_false_iff.2 b0
      by_cases b1 : (Decidable.decide ((↑(List.length h0) : Int) > 16)) = true
      · rw [if_pos b1] at h
        subst h
        exact AtV.fin Tryz.func7 tabOk ext7Ok mixed (p7_6 v14 h0 x0) ⟨b0, b1, trivial⟩
      · rw [if_neg b1] at h
        replace b1 := Bool.eq_false_iff.2 b1
        subst h
        exact AtV.fin Tryz.func7 tabOk ext7Ok mixed (p7_7 v14 h0 x0) ⟨b0, b1, trivial⟩



def is7 (b : (ByteArray × ByteArray × ByteArray × Unit)) : Bool := ByteArray.toList b.1 == ByteArray.toList (ByteArray.mk #[99, 104, 101, 99, 107])
def co7 : List (ByteArray × ByteArray × ByteArray × Unit) → List (ByteArray × Int × Int × Int × Int × Unit) → Int ⊕ List (ByteArray × Int × Int × Int × Int × Unit)
  | [], h => .inr h
  | b :: r, h => if is7 b = false then co7 r h else if g18_1 b.2.2.1 = false then .inl 9 else if (ByteArray.toList (g18_0 b.2.2.1).1 == ByteArray.toList b.2.1) = false then .inl 6 else co7 r (h ++ [g18_0 b.2.2.1])
def out7 : Int ⊕ List (ByteArray × Int × Int × Int × Int × Unit) → List (ByteArray × Int × Int × Int × Int × Unit) × Int
  | .inl c => ([], c)
  | .inr h => if h.length > 16 then ([], 5) else (h, 0)
def all7 (x0 : List (ByteArray × ByteArray × ByteArray × Unit)) : List (ByteArray × Int × Int × Int × Int × Unit) × Int := if g17_0 x0 = false then ([], 1) else out7 (co7 x0 [])
def g7_0 (x0 : List (ByteArray × ByteArray × ByteArray × Unit)) : List (ByteArray × Int × Int × Int × Int × Unit) := (all7 x0).1
def g7_1 (x0 : List (ByteArray × ByteArray × ByteArray × Unit)) : Int := (all7 x0).2
def P7 (x0 : List (ByteArray × ByteArray × ByteArray × Unit)) : Prop := x0.length ≤ 1048576 ∧ ∀ b ∈ x0, P18 b.2.2.1
def res7 (p : List (ByteArray × Int × Int × Int × Int × Unit) × Int) : List Dyn := [⟨.sl (.cons .str (.cons (.int .i64) (.cons (.int .i64) (.cons (.int .i64) (.cons (.int .i64) .unit))))), p.1⟩, ⟨.int .i64, p.2⟩]

theorem run7 (x0 : List (ByteArray × ByteArray × ByteArray × Unit)) (hp : P7 x0) : ∀ (k i : Nat) (h : List (ByteArray × Int × Int × Int × Int × Unit)), i + k = x0.length → h.length ≤ i →
    R7_5 (k + 1) (i : Int) h x0 (res7 (out7 (co7 (x0.drop i) h))) := by
  obtain ⟨hl, hP⟩ := hp
  intro k
  induction k with
  | zero =>
    intro i h hi hh
    rw [R7_5, if_neg (by simp only [decide_eq_true_eq]; omega), List.drop_of_length_le (by omega)]
    unfold co7 out7
    by_cases hn : h.length > 16
    · rw [if_pos (by simp only [decide_eq_true_eq]; omega)]
      simp only [if_pos hn]; rfl
    · rw [if_neg (by simp only [decide_eq_true_eq]; omega)]
      simp only [if_neg hn]; rfl
  | succ k ih =>
    intro i h hi hh
    have hlt : i < x0.length := by omega
    have hup : InR .i64 ((i : Int) + 1) := by rw [i64_iff]; omega
    have e1 : (i : Int) + 1 = ((i + 1 : Nat) : Int) := by omega
    have hb := hP _ (mem_getD x0 i (ByteArray.empty, ByteArray.empty, ByteArray.empty, ()) hlt)
    rw [R7_5, if_pos (by simp only [decide_eq_true_eq]; omega)]
    simp only [Int.toNat_natCast]
    rw [drop_get x0 i (ByteArray.empty, ByteArray.empty, ByteArray.empty, ()) hlt]
    generalize x0.getD i (ByteArray.empty, ByteArray.empty, ByteArray.empty, ()) = b at *
    refine ⟨by omega, by omega, ?_⟩
    unfold co7
    have ei : (ByteArray.toList (Prod.fst b) == ByteArray.toList (ByteArray.mk #[99, 104, 101, 99, 107])) = is7 b := rfl
    rw [ei]
    cases h1 : is7 b with
    | false =>
      rw [if_pos (show (!false) = true from rfl), if_pos (show false = false from rfl)]
      exact ⟨hup, by rw [e1]; exact ih (i + 1) h (by omega) (by omega)⟩
    | true =>
      rw [if_neg (show ¬ (!true) = true by decide), if_neg (show ¬ true = false by decide)]
      refine ⟨hb, ?_⟩
      cases h2 : g18_1 b.2.2.1 with
      | false =>
        rw [if_pos (show (!false) = true from rfl), if_pos (show false = false from rfl)]; rfl
      | true =>
        rw [if_neg (show ¬ (!true) = true by decide), if_neg (show ¬ true = false by decide)]
        cases h3 : (ByteArray.toList (g18_0 b.2.2.1).1 == ByteArray.toList b.2.1) with
        | false =>
          rw [if_pos (show (!false) = true from rfl), if_pos (show false = false from rfl)]; rfl
        | true =>
          rw [if_neg (show ¬ (!true) = true by decide), if_neg (show ¬ true = false by decide)]
          exact ⟨by omega, hup, by rw [e1]; exact ih (i + 1) (h ++ [g18_0 b.2.2.1]) (by omega) (by simp; omega)⟩

theorem top7 (x0 : List (ByteArray × ByteArray × ByteArray × Unit)) (hp : P7 x0) : ∃ n, R7 n x0 (res7 (all7 x0)) := by
  refine ⟨(x0.length + 1) + 1, ?_⟩
  rw [R7]
  unfold all7
  cases h1 : g17_0 x0 with
  | false => rw [if_pos (show (!false) = true from rfl), if_pos (show false = false from rfl)]; rfl
  | true =>
    rw [if_neg (show ¬ (!true) = true by decide), if_neg (show ¬ true = false by decide)]
    exact run7 x0 hp x0.length 0 [] (by omega) (by simp)

def S7 : Am.Spec := { sig := sig7, pre := fun ⟨x0, _⟩ => P7 x0, res := fun ⟨x0, _⟩ => [⟨.sl (.cons .str (.cons (.int .i64) (.cons (.int .i64) (.cons (.int .i64) (.cons (.int .i64) .unit))))), g7_0 x0⟩, ⟨.int .i64, g7_1 x0⟩] }
theorem con7 : Contract Tryz.prog 7 S7 := contract_of Tryz.func7 hb7 (Nat.le_of_ble_eq_true (by kernel_rfl)) (fun ⟨x0, _⟩ h hwf w0 O q => by
  obtain ⟨n, hn⟩ := top7 x0 h
  exact (snd7 n).1 x0 _ hn w0 O q)

end Go.Proofs.YteojabdeehagnaaGreatDoor

/- Function 44 (spec.l01Small): its runs between cut points. Written by a program of this repo (gen). -/
set_option linter.unusedVariables false
set_option linter.unusedSimpArgs false
set_option maxRecDepth 100000
namespace Go.Proofs.YteojabdeehagnaaGreatDoor
open Go Go.Am Go.Proofs
def ext44 : Ext := []
theorem ext44Ok : ExtOk Tryz.prog ext44 := trivial
/-! Function 44. -/
noncomputable def b44 : Code := bodyOf Tryz.f44
theorem hb44 : Tryz.f44.body = some b44 := by kernel_rfl
def sig44 : List AT := [AT.v (Ty.int IntKind.u8)]
def tys44 : List Ty := [Ty.bool]
def P44 (x0 : Int) : Prop := True
def g44_0 (x0 : Int) : Bool := (if (Decidable.decide (x0 ≥ 97)) = true then Decidable.decide (x0 ≤ 122) else Bool.false)
theorem p44_0 (x0 : Int) : runF tab ext44 false 9 [] 2000 [] tys44 Tryz.f44.results [true] [.code b44] (entE 0 0 sig44 (x0, ())) (entL sig44 (x0, ())) = some ([Dyn.mk Ty.bool (Decidable.decide (x0 ≤ 122))], [], [Decidable.decide (x0 ≥ 97) = Bool.true]) := by kernel_rfl
theorem p44_1 (x0 : Int) : runF tab ext44 false 9 [] 2000 [] tys44 Tryz.f44.results [false] [.code b44] (entE 0 0 sig44 (x0, ())) (entL sig44 (x0, ())) = some ([Dyn.mk Ty.bool Bool.false], [], [Decidable.decide (x0 ≥ 97) = Bool.false]) := by kernel_rfl
theorem at44 (x0 : Int) (h : P44 x0) (w0 : World) (O : List Nat) (q : Nat → Value) : AtV Tryz.prog 44 (PostR [⟨Ty.bool, g44_0 x0⟩] [] [] q w0 O) 9 w0 O q [] [.code b44] (entE 0 0 sig44 (x0, ())) (entL sig44 (x0, ())) := by
  unfold P44 at h
  unfold g44_0
  by_cases b0 : (Decidable.decide (x0 ≥ 97)) = true
  · try simp only [if_pos b0] at h ⊢
    exact AtV.fin Tryz.func44 tabOk ext44Ok mixed (p44_0 x0) ⟨b0, trivial⟩
  · try simp only [if_neg b0] at h ⊢
    replace b0 := Bool.eq_false_iff.2 b0
    exact AtV.fin Tryz.func44 tabOk ext44Ok mixed (p44_1 x0) ⟨b0, trivial⟩

def S44 : Am.Spec := { sig := sig44, pre := fun ⟨x0, _⟩ => P44 x0, res := fun ⟨x0, _⟩ => [⟨Ty.bool, g44_0 x0⟩] }
theorem con44 : Contract Tryz.prog 44 S44 := contract_of Tryz.func44 hb44 (Nat.le_of_ble_eq_true (by kernel_rfl)) (fun ⟨x0, _⟩ h _ w0 O q => at44 x0 h w0 O q)


end Go.Proofs.YteojabdeehagnaaGreatDoor

/- Function 45 (spec.l01Digit): its runs between cut points. Written by a program of this repo (gen). -/
set_option linter.unusedVariables false
set_option linter.unusedSimpArgs false
set_option maxRecDepth 100000
namespace Go.Proofs.YteojabdeehagnaaGreatDoor
open Go Go.Am Go.Proofs
def ext45 : Ext := []
theorem ext45Ok : ExtOk Tryz.prog ext45 := trivial
/-! Function 45. -/
noncomputable def b45 : Code := bodyOf Tryz.f45
theorem hb45 : Tryz.f45.body = some b45 := by kernel_rfl
def sig45 : List AT := [AT.v (Ty.int IntKind.u8)]
def tys45 : List Ty := [Ty.bool]
def P45 (x0 : Int) : Prop := True
def g45_0 (x0 : Int) : Bool := (if (Decidable.decide (x0 ≥ 48)) = true then Decidable.decide (x0 ≤ 57) else Bool.false)
theorem p45_0 (x0 : Int) : runF tab ext45 false 9 [] 2000 [] tys45 Tryz.f45.results [true] [.code b45] (entE 0 0 sig45 (x0, ())) (entL sig45 (x0, ())) = some ([Dyn.mk Ty.bool (Decidable.decide (x0 ≤ 57))], [], [Decidable.decide (x0 ≥ 48) = Bool.true]) := by kernel_rfl
theorem p45_1 (x0 : Int) : runF tab ext45 false 9 [] 2000 [] tys45 Tryz.f45.results [false] [.code b45] (entE 0 0 sig45 (x0, ())) (entL sig45 (x0, ())) = some ([Dyn.mk Ty.bool Bool.false], [], [Decidable.decide (x0 ≥ 48) = Bool.false]) := by kernel_rfl
theorem at45 (x0 : Int) (h : P45 x0) (w0 : World) (O : List Nat) (q : Nat → Value) : AtV Tryz.prog 45 (PostR [⟨Ty.bool, g45_0 x0⟩] [] [] q w0 O) 9 w0 O q [] [.code b45] (entE 0 0 sig45 (x0, ())) (entL sig45 (x0, ())) := by
  unfold P45 at h
  unfold g45_0
  by_cases b0 : (Decidable.decide (x0 ≥ 48)) = true
  · try simp only [if_pos b0] at h ⊢
    exact AtV.fin Tryz.func45 tabOk ext45Ok mixed (p45_0 x0) ⟨b0, trivial⟩
  · try simp only [if_neg b0] at h ⊢
    replace b0 := Bool.eq_false_iff.2 b0
    exact AtV.fin Tryz.func45 tabOk ext45Ok mixed (p45_1 x0) ⟨b0, trivial⟩

def S45 : Am.Spec := { sig := sig45, pre := fun ⟨x0, _⟩ => P45 x0, res := fun ⟨x0, _⟩ => [⟨Ty.bool, g45_0 x0⟩] }
theorem con45 : Contract Tryz.prog 45 S45 := contract_of Tryz.func45 hb45 (Nat.le_of_ble_eq_true (by kernel_rfl)) (fun ⟨x0, _⟩ h _ w0 O q => at45 x0 h w0 O q)


end Go.Proofs.YteojabdeehagnaaGreatDoor

/- Function 31 (spec.l01Name): its runs between cut points. Written by a program of this repo (gen). -/
set_option linter.unusedVariables false
set_option linter.unusedSimpArgs false
set_option maxRecDepth 100000
namespace Go.Proofs.YteojabdeehagnaaGreatDoor
open Go Go.Am Go.Proofs
def ext31 : Ext := [(44, S44), (45, S45)]
theorem call31_44 : Callable Tryz.prog 44 := ⟨Tryz.f44, Tryz.func44, by kernel_rfl, by kernel_rfl⟩
theorem call31_45 : Callable Tryz.prog 45 := ⟨Tryz.f45, Tryz.func45, by kernel_rfl, by kernel_rfl⟩
theorem ext31Ok : ExtOk Tryz.prog ext31 := ⟨⟨call31_44, con44⟩, ⟨call31_45, con45⟩, trivial⟩
/-! Function 31. -/
noncomputable def b31 : Code := bodyOf Tryz.f31
theorem hb31 : Tryz.f31.body = some b31 := by kernel_rfl
def sig31 : List AT := [AT.v (Ty.str)]
def tys31 : List Ty := [Ty.bool]
def E31_4 (v3 : Int) (x0 : ByteArray) : Env := [(0, PV.a (Atom.val (Value.string x0))), (3, PV.a (Atom.val (Value.int IntKind.i64 v3)))]
def L31_4 (v3 : Int) (x0 : ByteArray) : Heap := []
mutual
def R31 : Nat → ByteArray → List Dyn → Prop
  | 0, _, _ => False
  | n + 1, x0, ds => (if (ByteArray.toList x0 == ByteArray.toList (ByteArray.mk #[])) = true then (ds = [Dyn.mk Ty.bool Bool.false]) else (if (Decidable.decide ((↑(ByteArray.size x0) : Int) > 10)) = true then (ds = [Dyn.mk Ty.bool Bool.false]) else ((0 < (↑(ByteArray.size x0) : Int)) ∧ (if (!g44_0 (↑(UInt8.toNat (List.getD (Array.toList (ByteArray.data x0)) 0 0)) : Int)) = true then (ds = [Dyn.mk Ty.bool Bool.false]) else (R31_4 n (0) (x0) ds)))))
def R31_4 : Nat → Int → ByteArray → List Dyn → Prop
  | 0, _, _, _ => False
  | n + 1, v3, x0, ds => (if (Decidable.decide (v3 < (↑(ByteArray.size x0) : Int))) = true then ((0 ≤ v3) ∧ (v3 < (↑(ByteArray.size x0) : Int)) ∧ (if (!g44_0 (↑(UInt8.toNat (List.getD (Array.toList (ByteArray.data x0)) (Int.toNat v3) 0)) : Int)) = true then ((0 ≤ v3) ∧ (v3 < (↑(ByteArray.size x0) : Int)) ∧ (if (!g45_0 (↑(UInt8.toNat (List.getD (Array.toList (ByteArray.data x0)) (Int.toNat v3) 0)) : Int)) = true then (ds = [Dyn.mk Ty.bool Bool.false]) else ((InR IntKind.i64 (v3 + 1)) ∧ (R31_4 n (v3 + 1) (x0) ds)))) else ((InR IntKind.i64 (v3 + 1)) ∧ (R31_4 n (v3 + 1) (x0) ds)))) else (ds = [Dyn.mk Ty.bool Bool.true]))
end
theorem p31_0 (x0 : ByteArray) : runF tab ext31 false 35 [] 2000 [] tys31 Tryz.f31.results [true, true, true] [.code b31] (entE 0 0 sig31 (x0, ())) (entL sig31 (x0, ())) = some ([Dyn.mk Ty.bool Bool.false], [], [(ByteArray.toList x0 == ByteArray.toList (ByteArray.mk #[])) = Bool.true, Bool.true = Bool.true, Bool.true = Bool.true]) := by kernel_rfl
theorem p31_1 (x0 : ByteArray) : runF tab ext31 false 35 [] 2000 [] tys31 Tryz.f31.results [false, true, true] [.code b31] (entE 0 0 sig31 (x0, ())) (entL sig31 (x0, ())) = some ([Dyn.mk Ty.bool Bool.false], [], [(ByteArray.toList x0 == ByteArray.toList (ByteArray.mk #[])) = Bool.false, Decidable.decide ((↑(ByteArray.size x0) : Int) > 10) = Bool.true, Bool.true = Bool.true]) := by kernel_rfl
theorem p31_2 (x0 : ByteArray) : runF tab ext31 false 35 [] 2000 [] tys31 Tryz.f31.results [false, false, true] [.code b31] (entE 0 0 sig31 (x0, ())) (entL sig31 (x0, ())) = some ([Dyn.mk Ty.bool Bool.false], [], [(ByteArray.toList x0 == ByteArray.toList (ByteArray.mk #[])) = Bool.false, Decidable.decide ((↑(ByteArray.size x0) : Int) > 10) = Bool.false, (0 : Int) ≤ (0 : Int), 0 < (↑(ByteArray.size x0) : Int), True, (!g44_0 (↑(UInt8.toNat (List.getD (Array.toList (ByteArray.data x0)) 0 0)) : Int)) = Bool.true]) := by kernel_rfl
theorem p31_3 (x0 : ByteArray) : Am.runN tab ext31 false 35 [] 2000 [] [] [0, 3] [] [false, false, false] [.code b31] (entE 0 0 sig31 (x0, ())) (entL sig31 (x0, ())) = some (cutAt b31 4, E31_4 (0) (x0), L31_4 (0) (x0), [(ByteArray.toList x0 == ByteArray.toList (ByteArray.mk #[])) = Bool.false, Decidable.decide ((↑(ByteArray.size x0) : Int) > 10) = Bool.false, (0 : Int) ≤ (0 : Int), 0 < (↑(ByteArray.size x0) : Int), True, (!g44_0 (↑(UInt8.toNat (List.getD (Array.toList (ByteArray.data x0)) 0 0)) : Int)) = Bool.false]) := by kernel_rfl
theorem p31_4 (v3 : Int) (x0 : ByteArray) : runF tab ext31 false 35 [] 2000 [] tys31 Tryz.f31.results [true, true, true] (cutAt b31 4) (E31_4 v3 x0) (L31_4 v3 x0) = some ([Dyn.mk Ty.bool Bool.false], [], [Decidable.decide (v3 < (↑(ByteArray.size x0) : Int)) = Bool.true, 0 ≤ v3, v3 < (↑(ByteArray.size x0) : Int), True, (!g44_0 (↑(UInt8.toNat (List.getD (Array.toList (ByteArray.data x0)) (Int.toNat v3) 0)) : Int)) = Bool.true, 0 ≤ v3, v3 < (↑(ByteArray.size x0) : Int), True, (!g45_0 (↑(UInt8.toNat (List.getD (Array.toList (ByteArray.data x0)) (Int.toNat v3) 0)) : Int)) = Bool.true]) := by kernel_rfl
theorem p31_5 (v3 : Int) (x0 : ByteArray) : Am.runN tab ext31 false 35 [] 2000 [] [] [0, 3] [] [true, true, false] (cutAt b31 4) (E31_4 v3 x0) (L31_4 v3 x0) = some (cutAt b31 4, E31_4 (v3 + 1) (x0), L31_4 (v3 + 1) (x0), [Decidable.decide (v3 < (↑(ByteArray.size x0) : Int)) = Bool.true, 0 ≤ v3, v3 < (↑(ByteArray.size x0) : Int), True, (!g44_0 (↑(UInt8.toNat (List.getD (Array.toList (ByteArray.data x0)) (Int.toNat v3) 0)) : Int)) = Bool.true, 0 ≤ v3, v3 < (↑(ByteArray.size x0) : Int), True, (!g45_0 (↑(UInt8.toNat (List.getD (Array.toList (ByteArray.data x0)) (Int.toNat v3) 0)) : Int)) = Bool.false, InR IntKind.i64 (v3 + 1)]) := by kernel_rfl
theorem p31_6 (v3 : Int) (x0 : ByteArray) : Am.runN tab ext31 false 35 [] 2000 [] [] [0, 3] [] [true, false, false] (cutAt b31 4) (E31_4 v3 x0) (L31_4 v3 x0) = some (cutAt b31 4, E31_4 (v3 + 1) (x0), L31_4 (v3 + 1) (x0), [Decidable.decide (v3 < (↑(ByteArray.size x0) : Int)) = Bool.true, 0 ≤ v3, v3 < (↑(ByteArray.size x0) : Int), True, (!g44_0 (↑(UInt8.toNat (List.getD (Array.toList (ByteArray.data x0)) (Int.toNat v3) 0)) : Int)) = Bool.false, Bool.false = Bool.false, InR IntKind.i64 (v3 + 1)]) := by kernel_rfl
theorem p31_7 (v3 : Int) (x0 : ByteArray) : runF tab ext31 false 35 [] 2000 [] tys31 Tryz.f31.results [false] (cutAt b31 4) (E31_4 v3 x0) (L31_4 v3 x0) = some ([Dyn.mk Ty.bool Bool.true], [], [Decidable.decide (v3 < (↑(ByteArray.size x0) : Int)) = Bool.false]) := by kernel_rfl
theorem snd31 : ∀ n, (∀ (x0 : ByteArray) ds, R31 n x0 ds → ∀ w0 O q, AtV Tryz.prog 31 (PostR ds [] [] q w0 O) 35 w0 O q [] [.code b31] (entE 0 0 sig31 (x0, ())) (entL sig31 (x0, ()))) ∧ (∀ (v3 : Int) (x0 : ByteArray) ds, R31_4 n v3 x0 ds → ∀ w0 O q, AtV Tryz.prog 31 (PostR ds [] [] q w0 O) 35 w0 O q [] (cutAt b31 4) (E31_4 v3 x0) (L31_4 v3 x0)) := by
  intro n
  induction n with
  | zero => exact ⟨fun _ _ h => by simp only [R31] at h, fun _ _ _ h => by simp only [R31_4] at h⟩
  | succ n ih =>
  obtain ⟨ih, ih4⟩ := ih
  refine ⟨?_, ?_⟩
  · intro x0 ds h w0 O q
    rw [R31] at h
    by_cases b0 : (ByteArray.toList x0 == ByteArray.toList (ByteArray.mk #[])) = true
    · rw [if_pos b0] at h
      subst h
      exact AtV.fin Tryz.func31 tabOk ext31Ok mixed (p31_0 x0) ⟨b0, rfl, rfl, trivial⟩
    · rw [if_neg b0] at h
      replace b0 := Bool.eq_false_iff.2 b0
      by_cases b1 : (Decidable.decide ((↑(ByteArray.size x0) : Int) > 10)) = true
      · rw [if_pos b1] at h
        subst h
        exact AtV.fin Tryz.func31 tabOk ext31Ok mixed (p31_1 x0) ⟨b0, b1, rfl, trivial⟩
      · rw [if_neg b1] at h
        replace b1 := Bool.eq_false_iff.2 b1
        obtain ⟨s0, h⟩ := h
        by_cases b2 : (!g44_0 (↑(UInt8.toNat (List.getD (Array.toList (ByteArray.data x0)) 0 0)) : Int)) = true
        · rw [if_pos b2] at h
          subst h
          exact AtV.fin Tryz.func31 tabOk ext31Ok mixed (p31_2 x0) ⟨b0, b1, (by decide), s0, trivial, b2, trivial⟩
        · rw [if_neg b2] at h
          replace b2 := Bool.eq_false_iff.2 b2
          exact AtV.runN tabOk ext31Ok mixed (p31_3 x0) ⟨b0, b1, (by decide), s0, trivial, b2, trivial⟩ (ih4 _ _ _ h w0 O q)

  · intro v3 x0 ds h w0 O q
    rw [R31_4] at h
    by_cases b0 : (Decidable.decide (v3 < (↑(ByteArray.size x0) : Int))) = true
    · rw [if_pos b0] at h
      obtain ⟨s0, s1, h⟩ := h
      by_cases b1 : (!g44_0 (↑(UInt8.toNat (List.getD (Array.toList (ByteArray.data x0)) (Int.toNat v3) 0)) : Int)) = true
      · rw [if_pos b1] at h
        obtain ⟨s2, s3, h⟩ := h
        by_cases b2 : (!g45_0 (↑(UInt8.toNat (List.getD (Array.toList (ByteArray.data x0)) (Int.toNat v3) 0)) : Int)) = true
        · rw [if_pos b2] at h
          subst h
          exact AtV.fin Tryz.func31 tabOk ext31Ok mixed (p31_4 v3 x0) ⟨b0, s0, s1, trivial, b1, s2, s3, trivial, b2, trivial⟩
        · rw [if_neg b2] at h
          replace b2 := Bool.eq_false_iff.2 b2
          obtain ⟨s4, h⟩ := h
          exact AtV.runN tabOk ext31Ok mixed (p31_5 v3 x0) ⟨b0, s0, s1, trivial, b1, s2, s3, trivial, b2, s4, trivial⟩ (ih4 _ _ _ h w0 O q)
      · rw [if_neg b1] at h
        replace b1 := Bool.eq_false_iff.2 b1
        obtain ⟨s2, h⟩ := h
        exact AtV.runN tabOk ext31Ok mixed (p31_6 v3 x0) ⟨b0, s0, s1, trivial, b1, rfl, s2, trivial⟩ (ih4 _ _ _ h w0 O q)
    · rw [if_neg b0] at h
      replace b0 := Bool.eq_false_iff.2 b0
      subst h
      exact AtV.fin Tryz.func31 tabOk ext31Ok mixed (p31_7 v3 x0) ⟨b0, trivial⟩



def g31_0 (x0 : ByteArray) : Bool := decide (1 ≤ x0.size) && decide (x0.size ≤ 10) && g44_0 ((bytesOf x0).getD 0 0) && (bytesOf x0).all fun b => g44_0 b || g45_0 b
def P31 (x0 : ByteArray) : Prop := True

theorem top31 (x0 : ByteArray) (hw : Wf .str x0) : R31 (x0.size + 1 + 1) x0 [⟨.bool, g31_0 x0⟩] := by
  have hl := bytesOf_length x0
  rw [R31]
  by_cases h0 : x0 = ByteArray.mk #[]
  · rw [if_pos ((bytes_eq _ _).2 h0)]
    subst h0
    rfl
  · rw [if_neg (fun h => h0 ((bytes_eq _ _).1 h))]
    have hs : 1 ≤ x0.size := by
      rcases Nat.lt_or_ge 0 x0.size with h | h
      · exact h
      · exact absurd (bytesOf_inj (s := x0) (t := ByteArray.mk #[]) (List.eq_nil_of_length_eq_zero (by rw [hl]; omega))) h0
    by_cases h1 : (x0.size : Int) > 10
    · rw [if_pos (by simpa using h1)]
      have : ¬ x0.size ≤ 10 := by omega
      simp [g31_0, this]
    · rw [if_neg (by simpa using h1)]
      refine ⟨by omega, ?_⟩
      rw [byte_get]
      cases h2 : g44_0 ((bytesOf x0).getD 0 0) with
      | false =>
        rw [if_pos (by simp)]
        simp [g31_0, h2, -List.getD_eq_getElem?_getD]
      | true =>
        rw [if_neg (by simp)]
        have key := loop_test (bytesOf x0) 0 (fun b => g44_0 b || g45_0 b) [(⟨.bool, false⟩ : Dyn)] [⟨.bool, true⟩] (fun n i ds => R31_4 n i x0 ds) (fun n => ?_) (fun n i hi hok ds hr => ?_) (fun n i hi hok => ?_)
        · rw [hl] at key
          have e : g31_0 x0 = (bytesOf x0).all fun b => g44_0 b || g45_0 b := by
            have : x0.size ≤ 10 := by omega
            unfold g31_0
            simp only [hs, this, decide_true, Bool.true_and, h2]
          rw [e]
          cases h : (bytesOf x0).all fun b => g44_0 b || g45_0 b with
          | true => rw [if_pos h] at key; exact key
          | false => rw [if_neg (by rw [h]; simp)] at key; exact key
        · show R31_4 (n + 1) ((bytesOf x0).length : Int) x0 _
          rw [R31_4, hl, if_neg (by simp)]
        · rw [R31_4, if_pos (by simp; omega)]
          simp only [Int.toNat_natCast, byte_get]
          generalize (bytesOf x0).getD i 0 = c at *
          refine ⟨by omega, by omega, ?_⟩
          have hu := inR_up (xs := bytesOf x0) (by rw [hl]; exact hw) hi
          cases h3 : g44_0 c with
          | true => rw [if_neg (by simp)]; exact ⟨hu, hr⟩
          | false =>
            rw [if_pos (by simp)]
            rw [h3, Bool.false_or] at hok
            refine ⟨by omega, by omega, ?_⟩
            rw [if_neg (by rw [hok]; simp)]
            exact ⟨hu, hr⟩
        · simp only [Bool.or_eq_false_iff] at hok
          rw [R31_4, if_pos (by simp; omega)]
          simp only [Int.toNat_natCast, byte_get]
          refine ⟨by omega, by omega, ?_⟩
          rw [if_pos (by rw [hok.1]; rfl)]
          refine ⟨by omega, by omega, ?_⟩
          rw [if_pos (by rw [hok.2]; rfl)] <;> trivial

def S31 : Am.Spec := { sig := sig31, pre := fun ⟨x0, _⟩ => P31 x0, res := fun ⟨x0, _⟩ => [⟨Ty.bool, g31_0 x0⟩] }
theorem con31 : Contract Tryz.prog 31 S31 := contract_of Tryz.func31 hb31 (Nat.le_of_ble_eq_true (by kernel_rfl)) (fun ⟨x0, _⟩ h hwf w0 O q =>
  (snd31 _).1 x0 _ (top31 x0 hwf.1) w0 O q)

end Go.Proofs.YteojabdeehagnaaGreatDoor

/- Function 22 (spec.l29One): its runs between cut points. Written by a program of this repo (gen). -/
set_option linter.unusedVariables false
set_option linter.unusedSimpArgs false
set_option maxRecDepth 100000
namespace Go.Proofs.YteojabdeehagnaaGreatDoor
open Go Go.Am Go.Proofs
def ext22 : Ext := [(31, S31)]
theorem call22_31 : Callable Tryz.prog 31 := ⟨Tryz.f31, Tryz.func31, by kernel_rfl, by kernel_rfl⟩
theorem ext22Ok : ExtOk Tryz.prog ext22 := ⟨⟨call22_31, con31⟩, trivial⟩
/-! Function 22. -/
noncomputable def b22 : Code := bodyOf Tryz.f22
theorem hb22 : Tryz.f22.body = some b22 := by kernel_rfl
def sig22 : List AT := [AT.p (Ty.cons Ty.str (Ty.cons Ty.str (Ty.cons Ty.str Ty.unit)))]
def tys22 : List Ty := [Ty.bool]
def E22_2 (v3 : Int) (x0 : ByteArray × ByteArray × ByteArray × Unit) : Env := [(0, PV.a (Atom.ptr (Ty.cons Ty.str (Ty.cons Ty.str (Ty.cons Ty.str Ty.unit))) x0)), (3, PV.a (Atom.val (Value.int IntKind.i64 v3)))]
def L22_2 (v3 : Int) (x0 : ByteArray × ByteArray × ByteArray × Unit) : Heap := []
mutual
def R22 : Nat → ByteArray × ByteArray × ByteArray × Unit → List Dyn → Prop
  | 0, _, _ => False
  | n + 1, x0, ds => (R22_2 n (0) (x0) ds)
def R22_2 : Nat → Int → ByteArray × ByteArray × ByteArray × Unit → List Dyn → Prop
  | 0, _, _, _ => False
  | n + 1, v3, x0, ds => (if (Decidable.decide (v3 < (↑(ByteArray.size (Prod.fst (Prod.snd (Prod.snd x0)))) : Int))) = true then ((0 ≤ v3) ∧ (v3 < (↑(ByteArray.size (Prod.fst (Prod.snd (Prod.snd x0)))) : Int)) ∧ (if ((↑(UInt8.toNat (List.getD (Array.toList (ByteArray.data (Prod.fst (Prod.snd (Prod.snd x0))))) (Int.toNat v3) 0)) : Int) == 10) = true then (ds = [Dyn.mk Ty.bool Bool.false]) else ((InR IntKind.i64 (v3 + 1)) ∧ (R22_2 n (v3 + 1) (x0) ds)))) else (if (g31_0 (Prod.fst x0)) = true then (if (g31_0 (Prod.fst (Prod.snd x0))) = true then (ds = [Dyn.mk Ty.bool (Decidable.decide ((↑(ByteArray.size (Prod.fst (Prod.snd (Prod.snd x0)))) : Int) ≤ 400))]) else (ds = [Dyn.mk Ty.bool Bool.false])) else (ds = [Dyn.mk Ty.bool Bool.false])))
end
theorem p22_0 (x0 : ByteArray × ByteArray × ByteArray × Unit) : Am.runN tab ext22 false 40 [] 2000 [] [] [0, 3] [] [] [.code b22] (entE 0 0 sig22 (x0, ())) (entL sig22 (x0, ())) = some (cutAt b22 2, E22_2 (0) (x0), L22_2 (0) (x0), []) := by kernel_rfl
theorem p22_1 (v3 : Int) (x0 : ByteArray × ByteArray × ByteArray × Unit) : runF tab ext22 false 40 [] 2000 [] tys22 Tryz.f22.results [true, true] (cutAt b22 2) (E22_2 v3 x0) (L22_2 v3 x0) = some ([Dyn.mk Ty.bool Bool.false], [], [Decidable.decide (v3 < (↑(ByteArray.size (Prod.fst (Prod.snd (Prod.snd x0)))) : Int)) = Bool.true, 0 ≤ v3, v3 < (↑(ByteArray.size (Prod.fst (Prod.snd (Prod.snd x0)))) : Int), ((↑(UInt8.toNat (List.getD (Array.toList (ByteArray.data (Prod.fst (Prod.snd (Prod.snd x0))))) (Int.toNat v3) 0)) : Int) == 10) = Bool.true]) := by kernel_rfl
theorem p22_2 (v3 : Int) (x0 : ByteArray × ByteArray × ByteArray × Unit) : Am.runN tab ext22 false 40 [] 2000 [] [] [0, 3] [] [true, false] (cutAt b22 2) (E22_2 v3 x0) (L22_2 v3 x0) = some (cutAt b22 2, E22_2 (v3 + 1) (x0), L22_2 (v3 + 1) (x0), [Decidable.decide (v3 < (↑(ByteArray.size (Prod.fst (Prod.snd (Prod.snd x0)))) : Int)) = Bool.true, 0 ≤ v3, v3 < (↑(ByteArray.size (Prod.fst (Prod.snd (Prod.snd x0)))) : Int), ((↑(UInt8.toNat (List.getD (Array.toList (ByteArray.data (Prod.fst (Prod.snd (Prod.snd x0))))) (Int.toNat v3) 0)) : Int) == 10) = Bool.false, InR IntKind.i64 (v3 + 1)]) := by kernel_rfl
theorem p22_3 (v3 : Int) (x0 : ByteArray × ByteArray × ByteArray × Unit) : runF tab ext22 false 40 [] 2000 [] tys22 Tryz.f22.results [false, true, true] (cutAt b22 2) (E22_2 v3 x0) (L22_2 v3 x0) = some ([Dyn.mk Ty.bool (Decidable.decide ((↑(ByteArray.size (Prod.fst (Prod.snd (Prod.snd x0)))) : Int) ≤ 400))], [], [Decidable.decide (v3 < (↑(ByteArray.size (Prod.fst (Prod.snd (Prod.snd x0)))) : Int)) = Bool.false, True, g31_0 (Prod.fst x0) = Bool.true, True, g31_0 (Prod.fst (Prod.snd x0)) = Bool.true]) := by kernel_rfl
theorem p22_4 (v3 : Int) (x0 : ByteArray × ByteArray × ByteArray × Unit) : runF tab ext22 false 40 [] 2000 [] tys22 Tryz.f22.results [false, true, false] (cutAt b22 2) (E22_2 v3 x0) (L22_2 v3 x0) = some ([Dyn.mk Ty.bool Bool.false], [], [Decidable.decide (v3 < (↑(ByteArray.size (Prod.fst (Prod.snd (Prod.snd x0)))) : Int)) = Bool.false, True, g31_0 (Prod.fst x0) = Bool.true, True, g31_0 (Prod.fst (Prod.snd x0)) = Bool.false]) := by kernel_rfl
theorem p22_5 (v3 : Int) (x0 : ByteArray × ByteArray × ByteArray × Unit) : runF tab ext22 false 40 [] 2000 [] tys22 Tryz.f22.results [false, false, false] (cutAt b22 2) (E22_2 v3 x0) (L22_2 v3 x0) = some ([Dyn.mk Ty.bool Bool.false], [], [Decidable.decide (v3 < (↑(ByteArray.size (Prod.fst (Prod.snd (Prod.snd x0)))) : Int)) = Bool.false, True, g31_0 (Prod.fst x0) = Bool.false, Bool.false = Bool.false]) := by kernel_rfl
theorem snd22 : ∀ n, (∀ (x0 : ByteArray × ByteArray × ByteArray × Unit) ds, R22 n x0 ds → ∀ w0 O q, AtV Tryz.prog 22 (PostR ds [] [] q w0 O) 40 w0 O q [] [.code b22] (entE 0 0 sig22 (x0, ())) (entL sig22 (x0, ()))) ∧ (∀ (v3 : Int) (x0 : ByteArray × ByteArray × ByteArray × Unit) ds, R22_2 n v3 x0 ds → ∀ w0 O q, AtV Tryz.prog 22 (PostR ds [] [] q w0 O) 40 w0 O q [] (cutAt b22 2) (E22_2 v3 x0) (L22_2 v3 x0)) := by
  intro n
  induction n with
  | zero => exact ⟨fun _ _ h => by simp only [R22] at h, fun _ _ _ h => by simp only [R22_2] at h⟩
  | succ n ih =>
  obtain ⟨ih, ih2⟩ := ih
  refine ⟨?_, ?_⟩
  · intro x0 ds h w0 O q
    rw [R22] at h
    exact AtV.runN tabOk ext22Ok mixed (p22_0 x0) trivial (ih2 _ _ _ h w0 O q)

  · intro v3 x0 ds h w0 O q
    rw [R22_2] at h
    by_cases b0 : (Decidable.decide (v3 < (↑(ByteArray.size (Prod.fst (Prod.snd (Prod.snd x0)))) : Int))) = true
    · rw [if_pos b0] at h
      obtain ⟨s0, s1, h⟩ := h
      by_cases b1 : ((↑(UInt8.toNat (List.getD (Array.toList (ByteArray.data (Prod.fst (Prod.snd (Prod.snd x0))))) (Int.toNat v3) 0)) : Int) == 10) = true
      · rw [if_pos b1] at h
        subst h
        exact AtV.fin Tryz.func22 tabOk ext22Ok mixed (p22_1 v3 x0) ⟨b0, s0, s1, b1, trivial⟩
      · rw [if_neg b1] at h
        replace b1 := Bool.eq_false_iff.2 b1
        obtain ⟨s2, h⟩ := h
        exact AtV.runN tabOk ext22Ok mixed (p22_2 v3 x0) ⟨b0, s0, s1, b1, s2, trivial⟩ (ih2 _ _ _ h w0 O q)
    · rw [if_neg b0] at h
      replace b0 := Bool.eq_false_iff.2 b0
      by_cases b1 : (g31_0 (Prod.fst x0)) = true
      · rw [if_pos b1] at h
        by_cases b2 : (g31_0 (Prod.fst (Prod.snd x0))) = true
        · rw [if_pos b2] at h
          subst h
          exact AtV.fin Tryz.func22 tabOk ext22Ok mixed (p22_3 v3 x0) ⟨b0, trivial, b1, trivial, b2, trivial⟩
        · rw [if_neg b2] at h
          replace b2 := Bool.eq_false_iff.2 b2
          subst h
          exact AtV.fin Tryz.func22 tabOk ext22Ok mixed (p22_4 v3 x0) ⟨b0, trivial, b1, trivial, b2, trivial⟩
      · rw [if_neg b1] at h
        replace b1 := Bool.eq_false_iff.2 b1
        subst h
        exact AtV.fin Tryz.func22 tabOk ext22Ok mixed (p22_5 v3 x0) ⟨b0, trivial, b1, rfl, trivial⟩



def g22_0 (x0 : ByteArray × ByteArray × ByteArray × Unit) : Bool := (bytesOf x0.2.2.1).all (fun b => !(b == 10)) && g31_0 x0.1 && g31_0 x0.2.1 && decide (x0.2.2.1.size ≤ 400)
def P22 (x0 : ByteArray × ByteArray × ByteArray × Unit) : Prop := True

theorem top22 (x0 : ByteArray × ByteArray × ByteArray × Unit) (hw : Wf (.cons .str (.cons .str (.cons .str .unit))) x0) : R22 (x0.2.2.1.size + 1 + 1) x0 [⟨.bool, g22_0 x0⟩] := by
  have hl := bytesOf_length x0.2.2.1
  have hw3 : Wf .str x0.2.2.1 := hw.2.2.1
  rw [R22]
  have key := loop_test (bytesOf x0.2.2.1) 0 (fun b => !(b == 10)) [(⟨.bool, false⟩ : Dyn)] [⟨.bool, g31_0 x0.1 && g31_0 x0.2.1 && decide (x0.2.2.1.size ≤ 400)⟩] (fun n i ds => R22_2 n i x0 ds) (fun n => ?_) (fun n i hi hok ds hr => ?_) (fun n i hi hok => ?_)
  · rw [hl] at key
    unfold g22_0
    cases h : (bytesOf x0.2.2.1).all fun b => !(b == 10) with
    | true => rw [if_pos h] at key; simpa using key
    | false => rw [if_neg (by rw [h]; simp)] at key; simpa using key
  · show R22_2 (n + 1) ((bytesOf x0.2.2.1).length : Int) x0 _
    rw [R22_2, hl, if_neg (by simp)]
    have hc : decide ((x0.2.2.1.size : Int) ≤ 400) = decide (x0.2.2.1.size ≤ 400) := by
      congr 1; exact propext ⟨fun h => by omega, fun h => by omega⟩
    rw [hc]
    cases g31_0 x0.1 <;> cases g31_0 x0.2.1 <;> simp
  · rw [R22_2, if_pos (by simp; omega)]
    simp only [Int.toNat_natCast, byte_get]
    refine ⟨by omega, by omega, ?_⟩
    rw [if_neg (by intro h; rw [h] at hok; cases hok)]
    exact ⟨inR_up (xs := bytesOf x0.2.2.1) (by rw [hl]; exact hw3) hi, hr⟩
  · rw [R22_2, if_pos (by simp; omega)]
    simp only [Int.toNat_natCast, byte_get]
    refine ⟨by omega, by omega, ?_⟩
    rw [if_pos (by rw [Bool.not_eq_false'] at hok; exact hok)] <;> trivial

def S22 : Am.Spec := { sig := sig22, pre := fun ⟨x0, _⟩ => P22 x0, res := fun ⟨x0, _⟩ => [⟨Ty.bool, g22_0 x0⟩] }
theorem con22 : Contract Tryz.prog 22 S22 := contract_of Tryz.func22 hb22 (Nat.le_of_ble_eq_true (by kernel_rfl)) (fun ⟨x0, _⟩ h hwf w0 O q =>
  (snd22 _).1 x0 _ (top22 x0 hwf.1) w0 O q)

end Go.Proofs.YteojabdeehagnaaGreatDoor

/- Function 23 (spec.l29Before): its runs between cut points. Written by a program of this repo (gen). -/
set_option linter.unusedVariables false
set_option linter.unusedSimpArgs false
set_option maxRecDepth 100000
namespace Go.Proofs.YteojabdeehagnaaGreatDoor
open Go Go.Am Go.Proofs
def ext23 : Ext := []
theorem ext23Ok : ExtOk Tryz.prog ext23 := trivial
/-! Function 23. -/
noncomputable def b23 : Code := bodyOf Tryz.f23
theorem hb23 : Tryz.f23.body = some b23 := by kernel_rfl
def sig23 : List AT := [AT.p (Ty.cons Ty.str (Ty.cons Ty.str (Ty.cons Ty.str Ty.unit))), AT.p (Ty.cons Ty.str (Ty.cons Ty.str (Ty.cons Ty.str Ty.unit)))]
def tys23 : List Ty := [Ty.bool]
def P23 (x0 : ByteArray × ByteArray × ByteArray × Unit) (x1 : ByteArray × ByteArray × ByteArray × Unit) : Prop := True
def g23_0 (x0 : ByteArray × ByteArray × ByteArray × Unit) (x1 : ByteArray × ByteArray × ByteArray × Unit) : Bool := (if (Op.bytesLess (ByteArray.toList (Prod.fst x0)) (ByteArray.toList (Prod.fst x1))) = true then Bool.true else (if (ByteArray.toList (Prod.fst x0) == ByteArray.toList (Prod.fst x1)) = true then Op.bytesLess (ByteArray.toList (Prod.fst (Prod.snd x0))) (ByteArray.toList (Prod.fst (Prod.snd x1))) else Bool.false))
theorem p23_0 (x0 : ByteArray × ByteArray × ByteArray × Unit) (x1 : ByteArray × ByteArray × ByteArray × Unit) : runF tab ext23 false 36 [] 2000 [] tys23 Tryz.f23.results [true] [.code b23] (entE 0 0 sig23 (x0, x1, ())) (entL sig23 (x0, x1, ())) = some ([Dyn.mk Ty.bool Bool.true], [], [Op.bytesLess (ByteArray.toList (Prod.fst x0)) (ByteArray.toList (Prod.fst x1)) = Bool.true]) := by kernel_rfl
theorem p23_1 (x0 : ByteArray × ByteArray × ByteArray × Unit) (x1 : ByteArray × ByteArray × ByteArray × Unit) : runF tab ext23 false 36 [] 2000 [] tys23 Tryz.f23.results [false, true] [.code b23] (entE 0 0 sig23 (x0, x1, ())) (entL sig23 (x0, x1, ())) = some ([Dyn.mk Ty.bool (Op.bytesLess (ByteArray.toList (Prod.fst (Prod.snd x0))) (ByteArray.toList (Prod.fst (Prod.snd x1))))], [], [Op.bytesLess (ByteArray.toList (Prod.fst x0)) (ByteArray.toList (Prod.fst x1)) = Bool.false, (ByteArray.toList (Prod.fst x0) == ByteArray.toList (Prod.fst x1)) = Bool.true]) := by kernel_rfl
theorem p23_2 (x0 : ByteArray × ByteArray × ByteArray × Unit) (x1 : ByteArray × ByteArray × ByteArray × Unit) : runF tab ext23 false 36 [] 2000 [] tys23 Tryz.f23.results [false, false] [.code b23] (entE 0 0 sig23 (x0, x1, ())) (entL sig23 (x0, x1, ())) = some ([Dyn.mk Ty.bool Bool.false], [], [Op.bytesLess (ByteArray.toList (Prod.fst x0)) (ByteArray.toList (Prod.fst x1)) = Bool.false, (ByteArray.toList (Prod.fst x0) == ByteArray.toList (Prod.fst x1)) = Bool.false]) := by kernel_rfl
theorem at23 (x0 : ByteArray × ByteArray × ByteArray × Unit) (x1 : ByteArray × ByteArray × ByteArray × Unit) (h : P23 x0 x1) (w0 : World) (O : List Nat) (q : Nat → Value) : AtV Tryz.prog 23 (PostR [⟨Ty.bool, g23_0 x0 x1⟩] [] [] q w0 O) 36 w0 O q [] [.code b23] (entE 0 0 sig23 (x0, x1, ())) (entL sig23 (x0, x1, ())) := by
  unfold P23 at h
  unfold g23_0
  by_cases b0 : (Op.bytesLess (ByteArray.toList (Prod.fst x0)) (ByteArray.toList (Prod.fst x1))) = true
  · try simp only [if_pos b0] at h ⊢
    exact AtV.fin Tryz.func23 tabOk ext23Ok mixed (p23_0 x0 x1) ⟨b0, trivial⟩
  · try simp only [if_neg b0] at h ⊢
    replace b0 := Bool.eq_false_iff.2 b0
    by_cases b1 : (ByteArray.toList (Prod.fst x0) == ByteArray.toList (Prod.fst x1)) = true
    · try simp only [if_pos b1] at h ⊢
      exact AtV.fin Tryz.func23 tabOk ext23Ok mixed (p23_1 x0 x1) ⟨b0, b1, trivial⟩
    · try simp only [if_neg b1] at h ⊢
      replace b1 := Bool.eq_false_iff.2 b1
      exact AtV.fin Tryz.func23 tabOk ext23Ok mixed (p23_2 x0 x1) ⟨b0, b1, trivial⟩

def S23 : Am.Spec := { sig := sig23, pre := fun ⟨x0, x1, _⟩ => P23 x0 x1, res := fun ⟨x0, x1, _⟩ => [⟨Ty.bool, g23_0 x0 x1⟩] }
theorem con23 : Contract Tryz.prog 23 S23 := contract_of Tryz.func23 hb23 (Nat.le_of_ble_eq_true (by kernel_rfl)) (fun ⟨x0, x1, _⟩ h _ w0 O q => at23 x0 x1 h w0 O q)


end Go.Proofs.YteojabdeehagnaaGreatDoor

/- Function 14 (spec.l29Ok): its runs between cut points. Written by a program of this repo (gen). -/
set_option linter.unusedVariables false
set_option linter.unusedSimpArgs false
set_option maxRecDepth 100000
namespace Go.Proofs.YteojabdeehagnaaGreatDoor
open Go Go.Am Go.Proofs
def ext14 : Ext := [(22, S22), (23, S23)]
theorem call14_22 : Callable Tryz.prog 22 := ⟨Tryz.f22, Tryz.func22, by kernel_rfl, by kernel_rfl⟩
theorem call14_23 : Callable Tryz.prog 23 := ⟨Tryz.f23, Tryz.func23, by kernel_rfl, by kernel_rfl⟩
theorem ext14Ok : ExtOk Tryz.prog ext14 := ⟨⟨call14_22, con22⟩, ⟨call14_23, con23⟩, trivial⟩
/-! Function 14. -/
noncomputable def b14 : Code := bodyOf Tryz.f14
theorem hb14 : Tryz.f14.body = some b14 := by kernel_rfl
def sig14 : List AT := [AT.v (Ty.sl (Ty.cons Ty.str (Ty.cons Ty.str (Ty.cons Ty.str Ty.unit))))]
def tys14 : List Ty := [Ty.bool]
def E14_2 (v3 : Int) (x0 : List (ByteArray × ByteArray × ByteArray × Unit)) : Env := [(0, PV.a (Atom.sl (Ty.cons Ty.str (Ty.cons Ty.str (Ty.cons Ty.str Ty.unit))) x0)), (3, PV.a (Atom.val (Value.int IntKind.i64 v3)))]
def L14_2 (v3 : Int) (x0 : List (ByteArray × ByteArray × ByteArray × Unit)) : Heap := []
mutual
def R14 : Nat → List (ByteArray × ByteArray × ByteArray × Unit) → List Dyn → Prop
  | 0, _, _ => False
  | n + 1, x0, ds => (R14_2 n (0) (x0) ds)
def R14_2 : Nat → Int → List (ByteArray × ByteArray × ByteArray × Unit) → List Dyn → Prop
  | 0, _, _, _ => False
  | n + 1, v3, x0, ds => (if (Decidable.decide (v3 < (↑(List.length x0) : Int))) = true then ((0 ≤ v3) ∧ (v3 < (↑(List.length x0) : Int)) ∧ (if (!g22_0 (List.getD x0 (Int.toNat v3) (ByteArray.empty, ByteArray.empty, ByteArray.empty, ()))) = true then (ds = [Dyn.mk Ty.bool Bool.false]) else (if (Decidable.decide (v3 > 0)) = true then ((InR IntKind.i64 (v3 - 1)) ∧ ((0 ≤ v3 - 1) ∧ (v3 - 1 < (↑(List.length x0) : Int)) ∧ ((0 ≤ v3) ∧ (v3 < (↑(List.length x0) : Int)) ∧ (if (!g23_0 (List.getD x0 (Int.toNat (v3 - 1)) (ByteArray.empty, ByteArray.empty, ByteArray.empty, ())) (List.getD x0 (Int.toNat v3) (ByteArray.empty, ByteArray.empty, ByteArray.empty, ()))) = true then (ds = [Dyn.mk Ty.bool Bool.false]) else ((InR IntKind.i64 (v3 + 1)) ∧ (R14_2 n (v3 + 1) (x0) ds)))))) else ((InR IntKind.i64 (v3 + 1)) ∧ (R14_2 n (v3 + 1) (x0) ds))))) else (ds = [Dyn.mk Ty.bool (Decidable.decide ((↑(List.length x0) : Int) ≤ 32))]))
end
theorem p14_0 (x0 : List (ByteArray × ByteArray × ByteArray × Unit)) : Am.runN tab ext14 false 33 [] 2000 [] [] [0, 3] [] [] [.code b14] (entE 0 0 sig14 (x0, ())) (entL sig14 (x0, ())) = some (cutAt b14 2, E14_2 (0) (x0), L14_2 (0) (x0), []) := by kernel_rfl
theorem p14_1 (v3 : Int) (x0 : List (ByteArray × ByteArray × ByteArray × Unit)) : runF tab ext14 false 33 [] 2000 [] tys14 Tryz.f14.results [true, true, true] (cutAt b14 2) (E14_2 v3 x0) (L14_2 v3 x0) = some ([Dyn.mk Ty.bool Bool.false], [], [Decidable.decide (v3 < (↑(List.length x0) : Int)) = Bool.true, 0 ≤ v3, v3 < (↑(List.length x0) : Int), True, (!g22_0 (List.getD x0 (Int.toNat v3) (ByteArray.empty, ByteArray.empty, ByteArray.empty, ()))) = Bool.true, Bool.true = Bool.true]) := by kernel_rfl
theorem p14_2 (v3 : Int) (x0 : List (ByteArray × ByteArray × ByteArray × Unit)) : runF tab ext14 false 33 [] 2000 [] tys14 Tryz.f14.results [true, false, true, true] (cutAt b14 2) (E14_2 v3 x0) (L14_2 v3 x0) = some ([Dyn.mk Ty.bool Bool.false], [], [Decidable.decide (v3 < (↑(List.length x0) : Int)) = Bool.true, 0 ≤ v3, v3 < (↑(List.length x0) : Int), True, (!g22_0 (List.getD x0 (Int.toNat v3) (ByteArray.empty, ByteArray.empty, ByteArray.empty, ()))) = Bool.false, Decidable.decide (v3 > 0) = Bool.true, InR IntKind.i64 (v3 - 1), 0 ≤ v3 - 1, v3 - 1 < (↑(List.length x0) : Int), 0 ≤ v3, v3 < (↑(List.length x0) : Int), True, (!g23_0 (List.getD x0 (Int.toNat (v3 - 1)) (ByteArray.empty, ByteArray.empty, ByteArray.empty, ())) (List.getD x0 (Int.toNat v3) (ByteArray.empty, ByteArray.empty, ByteArray.empty, ()))) = Bool.true]) := by kernel_rfl
theorem p14_3 (v3 : Int) (x0 : List (ByteArray × ByteArray × ByteArray × Unit)) : Am.runN tab ext14 false 33 [] 2000 [] [] [0, 3] [] [true, false, true, false] (cutAt b14 2) (E14_2 v3 x0) (L14_2 v3 x0) = some (cutAt b14 2, E14_2 (v3 + 1) (x0), L14_2 (v3 + 1) (x0), [Decidable.decide (v3 < (↑(List.length x0) : Int)) = Bool.true, 0 ≤ v3, v3 < (↑(List.length x0) : Int), True, (!g22_0 (List.getD x0 (Int.toNat v3) (ByteArray.empty, ByteArray.empty, ByteArray.empty, ()))) = Bool.false, Decidable.decide (v3 > 0) = Bool.true, InR IntKind.i64 (v3 - 1), 0 ≤ v3 - 1, v3 - 1 < (↑(List.length x0) : Int), 0 ≤ v3, v3 < (↑(List.length x0) : Int), True, (!g23_0 (List.getD x0 (Int.toNat (v3 - 1)) (ByteArray.empty, ByteArray.empty, ByteArray.empty, ())) (List.getD x0 (Int.toNat v3) (ByteArray.empty, ByteArray.empty, ByteArray.empty, ()))) = Bool.false, InR IntKind.i64 (v3 + 1)]) := by kernel_rfl
theorem p14_4 (v3 : Int) (x0 : List (ByteArray × ByteArray × ByteArray × Unit)) : Am.runN tab ext14 false 33 [] 2000 [] [] [0, 3] [] [true, false, false, false] (cutAt b14 2) (E14_2 v3 x0) (L14_2 v3 x0) = some (cutAt b14 2, E14_2 (v3 + 1) (x0), L14_2 (v3 + 1) (x0), [Decidable.decide (v3 < (↑(List.length x0) : Int)) = Bool.true, 0 ≤ v3, v3 < (↑(List.length x0) : Int), True, (!g22_0 (List.getD x0 (Int.toNat v3) (ByteArray.empty, ByteArray.empty, ByteArray.empty, ()))) = Bool.false, Decidable.decide (v3 > 0) = Bool.false, Bool.false = Bool.false, InR IntKind.i64 (v3 + 1)]) := by kernel_rfl
theorem p14_5 (v3 : Int) (x0 : List (ByteArray × ByteArray × ByteArray × Unit)) : runF tab ext14 false 33 [] 2000 [] tys14 Tryz.f14.results [false] (cutAt b14 2) (E14_2 v3 x0) (L14_2 v3 x0) = some ([Dyn.mk Ty.bool (Decidable.decide ((↑(List.length x0) : Int) ≤ 32))], [], [Decidable.decide (v3 < (↑(List.length x0) : Int)) = Bool.false]) := by kernel_rfl
theorem snd14 : ∀ n, (∀ (x0 : List (ByteArray × ByteArray × ByteArray × Unit)) ds, R14 n x0 ds → ∀ w0 O q, AtV Tryz.prog 14 (PostR ds [] [] q w0 O) 33 w0 O q [] [.code b14] (entE 0 0 sig14 (x0, ())) (entL sig14 (x0, ()))) ∧ (∀ (v3 : Int) (x0 : List (ByteArray × ByteArray × ByteArray × Unit)) ds, R14_2 n v3 x0 ds → ∀ w0 O q, AtV Tryz.prog 14 (PostR ds [] [] q w0 O) 33 w0 O q [] (cutAt b14 2) (E14_2 v3 x0) (L14_2 v3 x0)) := by
  intro n
  induction n with
  | zero => exact ⟨fun _ _ h => by simp only [R14] at h, fun _ _ _ h => by simp only [R14_2] at h⟩
  | succ n ih =>
  obtain ⟨ih, ih2⟩ := ih
  refine ⟨?_, ?_⟩
  · intro x0 ds h w0 O q
    rw [R14] at h
    exact AtV.runN tabOk ext14Ok mixed (p14_0 x0) trivial (ih2 _ _ _ h w0 O q)

  · intro v3 x0 ds h w0 O q
    rw [R14_2] at h
    by_cases b0 : (Decidable.decide (v3 < (↑(List.length x0) : Int))) = true
    · rw [if_pos b0] at h
      obtain ⟨s0, s1, h⟩ := h
      by_cases b1 : (!g22_0 (List.getD x0 (Int.toNat v3) (ByteArray.empty, ByteArray.empty, ByteArray.empty, ()))) = true
      · rw [if_pos b1] at h
        subst h
        exact AtV.fin Tryz.func14 tabOk ext14Ok mixed (p14_1 v3 x0) ⟨b0, s0, s1, trivial, b1, rfl, trivial⟩
      · rw [if_neg b1] at h
        replace b1 := Bool.eq_false_iff.2 b1
        by_cases b2 : (Decidable.decide (v3 > 0)) = true
        · rw [if_pos b2] at h
          obtain ⟨s2, h⟩ := h
          obtain ⟨s3, s4, h⟩ := h
          obtain ⟨s5, s6, h⟩ := h
          by_cases b3 : (!g23_0 (List.getD x0 (Int.toNat (v3 - 1)) (ByteArray.empty, ByteArray.empty, ByteArray.empty, ())) (List.getD x0 (Int.toNat v3) (ByteArray.empty, ByteArray.empty, ByteArray.empty, ()))) = true
          · rw [if_pos b3] at h
            subst h
            exact AtV.fin Tryz.func14 tabOk ext14Ok mixed (p14_2 v3 x0) ⟨b0, s0, s1, trivial, b1, b2, s2, s3, s4, s5, s6, trivial, b3, trivial⟩
          · rw [if_neg b3] at h
            replace b3 := Bool.eq_false_iff.2 b3
            obtain ⟨s7, h⟩ := h
            exact AtV.runN tabOk ext14Ok mixed (p14_3 v3 x0) ⟨b0, s0, s1, trivial, b1, b2, s2, s3, s4, s5, s6, trivial, b3, s7, trivial⟩ (ih2 _ _ _ h w0 O q)
        · rw [if_neg b2] at h
          replace b2 := Bool.eq_false_iff.2 b2
          obtain ⟨s2, h⟩ := h
          exact AtV.runN tabOk ext14Ok mixed (p14_4 v3 x0) ⟨b0, s0, s1, trivial, b1, b2, rfl, s2, trivial⟩ (ih2 _ _ _ h w0 O q)
    · rw [if_neg b0] at h
      replace b0 := Bool.eq_false_iff.2 b0
      subst h
      exact AtV.fin Tryz.func14 tabOk ext14Ok mixed (p14_5 v3 x0) ⟨b0, trivial⟩



/-- A block at its place. -/
def ok14 (x0 : List (ByteArray × ByteArray × ByteArray × Unit)) (i : Nat) (x : ByteArray × ByteArray × ByteArray × Unit) : Bool :=
  g22_0 x && (i == 0 || g23_0 (x0.getD (i - 1) (ByteArray.empty, ByteArray.empty, ByteArray.empty, ())) x)
def g14_0 (x0 : List (ByteArray × ByteArray × ByteArray × Unit)) : Bool := allI (ok14 x0) 0 x0 && decide (x0.length ≤ 32)
def P14 (x0 : List (ByteArray × ByteArray × ByteArray × Unit)) : Prop := True

theorem step14 (n i : Nat) (x0 : List (ByteArray × ByteArray × ByteArray × Unit)) (hm : x0.length ≤ maxLen) (hi : i < x0.length) (ds : List Dyn) :
    (if ok14 x0 i (x0.getD i (ByteArray.empty, ByteArray.empty, ByteArray.empty, ())) = true then R14_2 n ((i : Int) + 1) x0 ds else ds = [⟨.bool, false⟩]) → R14_2 (n + 1) (i : Int) x0 ds := by
  intro h
  have hu := inR_up hm hi
  rw [R14_2, if_pos (by simp; omega)]
  refine ⟨by omega, by omega, ?_⟩
  simp only [Int.toNat_natCast]
  unfold ok14 at h
  cases h1 : g22_0 (x0.getD i (ByteArray.empty, ByteArray.empty, ByteArray.empty, ())) with
  | false =>
    rw [h1] at h
    rw [if_pos (by rfl)]
    simpa using h
  | true =>
    rw [h1] at h
    rw [if_neg (by simp)]
    by_cases h0 : (i : Int) > 0
    · rw [if_pos (by simpa using h0)]
      have hi0 : (i == 0) = false := by simp; omega
      have e : ((i : Int) - 1).toNat = i - 1 := by omega
      refine ⟨by rw [i64_iff]; have : maxLen ≤ 9223372036854775807 := by decide
                 omega, by omega, by omega, by omega, by omega, ?_⟩
      rw [e]
      by_cases h2 : g23_0 (x0.getD (i - 1) (ByteArray.empty, ByteArray.empty, ByteArray.empty, ())) (x0.getD i (ByteArray.empty, ByteArray.empty, ByteArray.empty, ())) = true
      · rw [h2, hi0] at h
        rw [if_neg (by rw [h2]; simp)]
        exact ⟨hu, by simpa using h⟩
      · have h2 := Bool.eq_false_iff.2 h2
        rw [h2, hi0] at h
        rw [if_pos (by rw [h2]; rfl)]
        simpa using h
    · rw [if_neg (by simpa using h0)]
      have hi0 : (i == 0) = true := by simp; omega
      rw [hi0] at h
      exact ⟨hu, by simpa using h⟩

theorem top14 (x0 : List (ByteArray × ByteArray × ByteArray × Unit)) (hw : x0.length ≤ maxLen) : R14 (x0.length + 1 + 1) x0 [⟨.bool, g14_0 x0⟩] := by
  rw [R14]
  have key := loop_testI x0 (ByteArray.empty, ByteArray.empty, ByteArray.empty, ()) (ok14 x0) [(⟨.bool, false⟩ : Dyn)] [⟨.bool, decide (x0.length ≤ 32)⟩] (fun n i ds => R14_2 n i x0 ds) (fun n => ?_) (fun n i hi hok ds hr => ?_) (fun n i hi hok => ?_)
  · unfold g14_0
    cases h : allI (ok14 x0) 0 x0 with
    | true => rw [if_pos h] at key; simpa using key
    | false => rw [if_neg (by rw [h]; simp)] at key; simpa using key
  · rw [R14_2, if_neg (by simp)]
    have hc : decide ((x0.length : Int) ≤ 32) = decide (x0.length ≤ 32) := by
      congr 1; exact propext ⟨fun h => by omega, fun h => by omega⟩
    rw [hc]
  · exact step14 n i x0 hw hi ds (by rw [if_pos hok]; exact hr)
  · exact step14 n i x0 hw hi _ (by rw [if_neg (by rw [hok]; simp)])

def S14 : Am.Spec := { sig := sig14, pre := fun ⟨x0, _⟩ => P14 x0, res := fun ⟨x0, _⟩ => [⟨Ty.bool, g14_0 x0⟩] }
theorem con14 : Contract Tryz.prog 14 S14 := contract_of Tryz.func14 hb14 (Nat.le_of_ble_eq_true (by kernel_rfl)) (fun ⟨x0, _⟩ h hwf w0 O q =>
  (snd14 _).1 x0 _ (top14 x0 hwf.1.1) w0 O q)

end Go.Proofs.YteojabdeehagnaaGreatDoor

/- Function 24 (spec.l01Split): its runs between cut points. Written by a program of this repo (gen). -/
set_option linter.unusedVariables false
set_option linter.unusedSimpArgs false
set_option maxRecDepth 100000
namespace Go.Proofs.YteojabdeehagnaaGreatDoor
open Go Go.Am Go.Proofs
def ext24 : Ext := []
theorem ext24Ok : ExtOk Tryz.prog ext24 := trivial
/-! Function 24. -/
noncomputable def b24 : Code := bodyOf Tryz.f24
theorem hb24 : Tryz.f24.body = some b24 := by kernel_rfl
def sig24 : List AT := [AT.v (Ty.str), AT.v (Ty.int IntKind.u8)]
def tys24 : List Ty := [Ty.sl Ty.str]
def E24_4 (v6 : Int) (v7 : Int) (h0 : List ByteArray) (x0 : ByteArray) (x1 : Int) : Env := [(0, PV.a (Atom.val (Value.string x0))), (1, PV.a (Atom.val (Value.int IntKind.u8 x1))), (5, PV.a (Atom.osl 0 Option.none)), (6, PV.a (Atom.val (Value.int IntKind.i64 v6))), (7, PV.a (Atom.val (Value.int IntKind.i64 v7)))]
def L24_4 (v6 : Int) (v7 : Int) (h0 : List ByteArray) (x0 : ByteArray) (x1 : Int) : Heap := [Option.some (Arr.mk Ty.str h0 Bool.false)]
mutual
def R24 : Nat → ByteArray → Int → List Dyn → Prop
  | 0, _, _, _ => False
  | n + 1, x0, x1, ds => (R24_4 n (0) (0) ([]) (x0) (x1) ds)
def R24_4 : Nat → Int → Int → List ByteArray → ByteArray → Int → List Dyn → Prop
  | 0, _, _, _, _, _, _ => False
  | n + 1, v6, v7, h0, x0, x1, ds => (if (Decidable.decide (v7 < (↑(ByteArray.size x0) : Int))) = true then ((0 ≤ v7) ∧ (v7 < (↑(ByteArray.size x0) : Int)) ∧ (if ((↑(UInt8.toNat (List.getD (Array.toList (ByteArray.data x0)) (Int.toNat v7) 0)) : Int) == x1) = true then ((0 ≤ v6) ∧ (v6 ≤ v7) ∧ (v7 ≤ (↑(ByteArray.size x0) : Int)) ∧ (((List.length h0 + 1) * 16 ≤ 140737488355328) ∧ ((InR IntKind.i64 (v7 + 1)) ∧ ((InR IntKind.i64 (v7 + 1)) ∧ (R24_4 n (v7 + 1) (v7 + 1) (h0 ++ [ByteArray.extract x0 (Int.toNat v6) (Int.toNat v7)]) (x0) (x1) ds))))) else ((InR IntKind.i64 (v7 + 1)) ∧ (R24_4 n (v6) (v7 + 1) (h0) (x0) (x1) ds)))) else ((0 ≤ v6) ∧ (v6 ≤ (↑(ByteArray.size x0) : Int)) ∧ (((List.length h0 + 1) * 16 ≤ 140737488355328) ∧ (ds = [Dyn.mk (Ty.sl Ty.str) (h0 ++ [ByteArray.extract x0 (Int.toNat v6) (Int.toNat (↑(ByteArray.size x0) : Int))])]))))
end
theorem p24_0 (x0 : ByteArray) (x1 : Int) : Am.runN tab ext24 false 35 [] 2000 [] [] [0, 1, 5, 6, 7] [0] [] [.code b24] (entE 0 0 sig24 (x0, x1, ())) (entL sig24 (x0, x1, ())) = some (cutAt b24 4, E24_4 (0) (0) ([]) (x0) (x1), L24_4 (0) (0) ([]) (x0) (x1), []) := by kernel_rfl
theorem p24_1 (v6 : Int) (v7 : Int) (h0 : List ByteArray) (x0 : ByteArray) (x1 : Int) : Am.runN tab ext24 false 35 [] 2000 [] [] [0, 1, 5, 6, 7] [0] [true, true] (cutAt b24 4) (E24_4 v6 v7 h0 x0 x1) (L24_4 v6 v7 h0 x0 x1) = some (cutAt b24 4, E24_4 (v7 + 1) (v7 + 1) (h0 ++ [ByteArray.extract x0 (Int.toNat v6) (Int.toNat v7)]) (x0) (x1), L24_4 (v7 + 1) (v7 + 1) (h0 ++ [ByteArray.extract x0 (Int.toNat v6) (Int.toNat v7)]) (x0) (x1), [Decidable.decide (v7 < (↑(ByteArray.size x0) : Int)) = Bool.true, 0 ≤ v7, v7 < (↑(ByteArray.size x0) : Int), ((↑(UInt8.toNat (List.getD (Array.toList (ByteArray.data x0)) (Int.toNat v7) 0)) : Int) == x1) = Bool.true, 0 ≤ v6, v6 ≤ v7, v7 ≤ (↑(ByteArray.size x0) : Int), (List.length h0 + 1) * 16 ≤ 140737488355328, InR IntKind.i64 (v7 + 1), InR IntKind.i64 (v7 + 1)]) := by kernel_rfl
theorem p24_2 (v6 : Int) (v7 : Int) (h0 : List ByteArray) (x0 : ByteArray) (x1 : Int) : Am.runN tab ext24 false 35 [] 2000 [] [] [0, 1, 5, 6, 7] [0] [true, false] (cutAt b24 4) (E24_4 v6 v7 h0 x0 x1) (L24_4 v6 v7 h0 x0 x1) = some (cutAt b24 4, E24_4 (v6) (v7 + 1) (h0) (x0) (x1), L24_4 (v6) (v7 + 1) (h0) (x0) (x1), [Decidable.decide (v7 < (↑(ByteArray.size x0) : Int)) = Bool.true, 0 ≤ v7, v7 < (↑(ByteArray.size x0) : Int), ((↑(UInt8.toNat (List.getD (Array.toList (ByteArray.data x0)) (Int.toNat v7) 0)) : Int) == x1) = Bool.false, InR IntKind.i64 (v7 + 1)]) := by kernel_rfl
theorem p24_3 (v6 : Int) (v7 : Int) (h0 : List ByteArray) (x0 : ByteArray) (x1 : Int) : runF tab ext24 false 35 [] 2000 [] tys24 Tryz.f24.results [false] (cutAt b24 4) (E24_4 v6 v7 h0 x0 x1) (L24_4 v6 v7 h0 x0 x1) = some ([Dyn.mk (Ty.sl Ty.str) (h0 ++ [ByteArray.extract x0 (Int.toNat v6) (Int.toNat (↑(ByteArray.size x0) : Int))])], [], [Decidable.decide (v7 < (↑(ByteArray.size x0) : Int)) = Bool.false, 0 ≤ v6, v6 ≤ (↑(ByteArray.size x0) : Int), (List.length h0 + 1) * 16 ≤ 140737488355328]) := by kernel_rfl
theorem snd24 : ∀ n, (∀ (x0 : ByteArray) (x1 : Int) ds, R24 n x0 x1 ds → ∀ w0 O q, AtV Tryz.prog 24 (PostR ds [] [] q w0 O) 35 w0 O q [] [.code b24] (entE 0 0 sig24 (x0, x1, ())) (entL sig24 (x0, x1, ()))) ∧ (∀ (v6 : Int) (v7 : Int) (h0 : List ByteArray) (x0 : ByteArray) (x1 : Int) ds, R24_4 n v6 v7 h0 x0 x1 ds → ∀ w0 O q, AtV Tryz.prog 24 (PostR ds [] [] q w0 O) 35 w0 O q [] (cutAt b24 4) (E24_4 v6 v7 h0 x0 x1) (L24_4 v6 v7 h0 x0 x1)) := by
  intro n
  induction n with
  | zero => exact ⟨fun _ _ _ h => by simp only [R24] at h, fun _ _ _ _ _ _ h => by simp only [R24_4] at h⟩
  | succ n ih =>
  obtain ⟨ih, ih4⟩ := ih
  refine ⟨?_, ?_⟩
  · intro x0 x1 ds h w0 O q
    rw [R24] at h
    exact AtV.runN tabOk ext24Ok mixed (p24_0 x0 x1) trivial (ih4 _ _ _ _ _ _ h w0 O q)

  · intro v6 v7 h0 x0 x1 ds h w0 O q
    rw [R24_4] at h
    by_cases b0 : (Decidable.decide (v7 < (↑(ByteArray.size x0) : Int))) = true
    · rw [if_pos b0] at h
      obtain ⟨s0, s1, h⟩ := h
      by_cases b1 : ((↑(UInt8.toNat (List.getD (Array.toList (ByteArray.data x0)) (Int.toNat v7) 0)) : Int) == x1) = true
      · rw [if_pos b1] at h
        obtain ⟨s2, s3, s4, h⟩ := h
        obtain ⟨s5, h⟩ := h
        obtain ⟨s6, h⟩ := h
        obtain ⟨s7, h⟩ := h
        exact AtV.runN tabOk ext24Ok mixed (p24_1 v6 v7 h0 x0 x1) ⟨b0, s0, s1, b1, s2, s3, s4, s5, s6, s7, trivial⟩ (ih4 _ _ _ _ _ _ h w0 O q)
      · rw [if_neg b1] at h
        replace b1 := Bool.eq_false_iff.2 b1
        obtain ⟨s2, h⟩ := h
        exact AtV.runN tabOk ext24Ok mixed (p24_2 v6 v7 h0 x0 x1) ⟨b0, s0, s1, b1, s2, trivial⟩ (ih4 _ _ _ _ _ _ h w0 O q)
    · rw [if_neg b0] at h
      replace b0 := Bool.eq_false_iff.2 b0
      obtain ⟨s0, s1, h⟩ := h
      obtain ⟨s2, h⟩ := h
      subst h
      exact AtV.fin Tryz.func24 tabOk ext24Ok mixed (p24_3 v6 v7 h0 x0 x1) ⟨b0, s0, s1, s2, trivial⟩



def c24 (x1 : Int) : UInt8 := UInt8.ofNat x1.toNat
def g24_0 (x0 : ByteArray) (x1 : Int) : List ByteArray := bss (splitC (c24 x1) x0.data.toList)
def P24 (x0 : ByteArray) (x1 : Int) : Prop := x0.size < 4294967281 ∧ 0 ≤ x1 ∧ x1 ≤ 255

theorem run24 (x0 : ByteArray) (x1 : Int) (hs : x0.size < 4294967281) (h0 : 0 ≤ x1) (h1 : x1 ≤ 255) : ∀ (k i frm : Nat) (h : List ByteArray), i + k = x0.size → frm ≤ i → c24 x1 ∉ (x0.data.toList.drop frm).take (i - frm) → h.length ≤ i →
    R24_4 (k + 1) (frm : Int) (i : Int) h x0 x1 [⟨.sl .str, h ++ bss (splitC (c24 x1) (x0.data.toList.drop frm))⟩] := by
  intro k
  have hll : x0.data.toList.length = x0.size := rfl
  induction k with
  | zero =>
    intro i frm h hi hf hc hl
    rw [R24_4, if_neg (by simp; omega)]
    refine ⟨by omega, by omega, by omega, ?_⟩
    have e : (x0.data.toList.drop frm).take (i - frm) = x0.data.toList.drop frm := List.take_of_length_le (by rw [List.length_drop]; omega)
    rw [e] at hc
    rw [splitC_free _ hc, Int.toNat_natCast, Int.toNat_natCast, Lib.extract_from]
    rfl
  | succ k ih =>
    intro i frm h hi hf hc hl
    have hup : InR .i64 ((i : Int) + 1) := by rw [i64_iff]; omega
    have hlt : i < x0.data.toList.length := by rw [hll]; omega
    have hcons : x0.data.toList.drop i = x0.data.toList.getD i 0 :: x0.data.toList.drop (i + 1) := drop_get _ i 0 hlt
    have hsplit : x0.data.toList.drop frm = (x0.data.toList.drop frm).take (i - frm) ++ x0.data.toList.drop i := by
      conv => lhs; rw [← List.take_append_drop (i - frm) (x0.data.toList.drop frm)]
      rw [List.drop_drop, show frm + (i - frm) = i by omega]
    rw [R24_4, if_pos (by simp; omega)]
    simp only [Int.toNat_natCast]
    refine ⟨by omega, by omega, ?_⟩
    have hb : (((x0.data.toList.getD i 0).toNat : Int) == x1) = true ↔ x0.data.toList.getD i 0 = c24 x1 := by
      have hlt' := (x0.data.toList.getD i 0).toNat_lt
      rw [beq_iff_eq, ← UInt8.toNat_inj]
      unfold c24
      have : (UInt8.ofNat x1.toNat).toNat = x1.toNat := by rw [UInt8.toNat_ofNat']; omega
      rw [this]
      omega
    by_cases he : x0.data.toList.getD i 0 = c24 x1
    · rw [if_pos (hb.2 he)]
      refine ⟨by omega, by omega, by omega, by omega, hup, hup, ?_⟩
      have := ih (i + 1) (i + 1) (h ++ [x0.extract frm i]) (by omega) (Nat.le_refl _) (by simp) (by simp; omega)
      have e2 : x0.extract frm i = ⟨((x0.data.toList.drop frm).take (i - frm)).toArray⟩ := Lib.extract_mk x0.data.toList frm i
      have e3 : splitC (c24 x1) (x0.data.toList.drop frm) = (x0.data.toList.drop frm).take (i - frm) :: splitC (c24 x1) (x0.data.toList.drop (i + 1)) := by
        conv => lhs; rw [hsplit, hcons, he]
        exact splitC_hit _ _ hc
      rw [e3, e2]
      rw [List.append_assoc, e2] at this
      exact this
    · rw [if_neg (fun hh => he (hb.1 hh))]
      refine ⟨hup, ?_⟩
      refine ih (i + 1) frm h (by omega) (by omega) (fun hm => ?_) (by omega)
      have e4 : (x0.data.toList.drop frm).take (i + 1 - frm) = (x0.data.toList.drop frm).take (i - frm) ++ [x0.data.toList.getD i 0] := by
        conv => lhs; rw [hsplit, hcons]
        rw [List.take_append, List.take_of_length_le (by rw [List.length_take, List.length_drop]; omega)]
        have : i + 1 - frm - ((x0.data.toList.drop frm).take (i - frm)).length = 1 := by rw [List.length_take, List.length_drop]; omega
        rw [this]
        rfl
      rw [e4] at hm
      rcases List.mem_append.1 hm with hm | hm
      · exact hc hm
      · exact he (List.mem_singleton.1 hm).symm

theorem top24 (x0 : ByteArray) (x1 : Int) (h : P24 x0 x1) : R24 (x0.size + 1 + 1) x0 x1 [⟨.sl .str, g24_0 x0 x1⟩] := by
  rw [R24]
  have := run24 x0 x1 h.1 h.2.1 h.2.2 x0.size 0 0 [] (by omega) (Nat.le_refl _) (by simp) (by simp)
  simpa [g24_0] using this

def S24 : Am.Spec := { sig := sig24, pre := fun ⟨x0, x1, _⟩ => P24 x0 x1, res := fun ⟨x0, x1, _⟩ => [⟨.sl .str, g24_0 x0 x1⟩] }
theorem con24 : Contract Tryz.prog 24 S24 := contract_of Tryz.func24 hb24 (Nat.le_of_ble_eq_true (by kernel_rfl)) (fun ⟨x0, x1, _⟩ h hwf w0 O q =>
  (snd24 _).1 x0 x1 _ (top24 x0 x1 h) w0 O q)

end Go.Proofs.YteojabdeehagnaaGreatDoor
