/- Several texts in one: the functions that this law reaches, and their laws. -/
import Derived.Test.YtcppjmlhilklcaaGreatDoorZ3A
import Derived.Test.YtcppjmlhilklcaaGreatDoorZ3B
import Derived.Test.YtcppjmlhilklcaaGreatDoorRows
import Derived.KernelRfl
import Derived.Shelf.Vars
import Derived.Shelf.Strings.Builder1
import Derived.Shelf.Strings.Builder2
import Derived.Shelf.Strings.BuilderF
import Derived.Shelf.Strings.BuilderK
import Derived.Shelf.Utf8.RuneCount
import Derived.Shelf.Strconv.Itoa0
import Derived.Shelf.Strconv.Itoa1
import Derived.Shelf.LaysM
import Derived.Shelf.Strconv.Itoa2
import Derived.Shelf.Strconv.Itoa3
import Derived.Shelf.Strconv.Itoa4
import Derived.Shelf.Strconv.ParseIntEmpty
import Derived.Shelf.Strconv.Clone
import Derived.Shelf.Strconv.SyntaxError
import Derived.Shelf.LaysC
import Derived.Shelf.Strconv.ToError
import Derived.Shelf.Strconv.Lower
import Derived.Shelf.Strconv.ParseUint10
import Derived.Shelf.Strconv.ParseUint10Empty
import Derived.Shelf.Strconv.ParseUint10Any
import Derived.Shelf.Strconv.ParseInt10
import Derived.Shelf.Strconv.RangeError
import Derived.Shelf.Strconv.ToErrorRange
import Derived.Shelf.Strconv.ParseUintEmpty
import Derived.Shelf.Strconv.ParseUint10b64
import Derived.Shelf.Strconv.ParseUint10b32
import Derived.Shelf.Strconv.ParseUint10b16
import Derived.Shelf.Strconv.ParseUint10b8
import Derived.Shelf.Strconv.ParseUint10At
import Derived.Shelf.Strconv.ParseInt10At64
import Derived.Shelf.Strconv.ParseInt10At32
import Derived.Shelf.Strconv.ParseInt10At16
import Derived.Shelf.Strconv.ParseInt10At8
import Derived.Shelf.Strconv.ParseInt10All
import Derived.Shelf.Strconv.ParseIntPublic10
import Derived.Shelf.Strings.Search1
import Derived.Shelf.Strings.Search2
import Derived.Shelf.Strings.Search3
import Derived.Shelf.Strings.Cut
import Derived.Shelf.Strings.Count
import Derived.Shelf.Strings.Shaped
import Derived.Shelf.Strings.Prefix
import Derived.Shelf.Strings.Split
import Derived.Shelf.Strings.SplitShaped
import Derived.Shelf.Unicode.Decode
import Derived.Shelf.Strings.RuneCount
import Derived.Shelf.Strings.Explode
import Derived.Shelf.Bits.Mul64
import Derived.Shelf.Strings.Repeat
import Derived.Shelf.Unicode.DecodeSlow
import Derived.Shelf.Unicode.DecodeAny
import Derived.Lib.TrimByte
import Derived.WalkKit

/- The abstract machine, part 41: slices.Insert of one element: from its runs to its contract. -/
namespace Go.Am
set_option linter.unusedVariables false
set_option linter.unusedSimpArgs false
open Go.RowKit (Below)

def insertSpec (t : Ty) : Spec := { sig := [AT.own t, AT.v (.int .i64), AT.own t], pre := fun ⟨x0, x1, x2, _⟩ => 0 ≤ x1 ∧ x1 ≤ x0.length ∧ x2.length = 1 ∧ x0.length ≤ 1048576, upd := fun _ => [none, none], res := fun ⟨x0, x1, x2, _⟩ => [⟨.sl t, x0.take x1.toNat ++ (x2 ++ x0.drop x1.toNat)⟩] }

theorem insert_contract {P : Program} {f : FuncId} {t : Ty} {e : TypeId} (hf : t.flat = true)
    (hshift : ∀ (w : World) (xs ys : List t.den) (b off cap : Nat) (cur : Array Value) (ty : TypeId) (fz : Nat × Nat) (vb voff vcap : Nat) (vcur : Array Value) (vty : TypeId) (vfz : Nat × Nat) (i : Nat), OwnAt w t xs b off cap cur ty fz → OwnAt w t ys vb voff vcap vcur vty vfz → ys.length = 1 → vb ≠ b → i < xs.length → xs.length + 1 ≤ cap →
      Calls P f #[.slice (some ⟨b, off, none⟩) xs.length cap, .int .i64 i, .slice (some ⟨vb, voff, none⟩) 1 vcap] w fun r w' => r = .returned (.slice (some ⟨b, off, none⟩) (xs.length + 1) cap) ∧
        ∃ q, w' = ((w.drewN q).setCells b (off + (i + 1) * t.size) (fcs t (xs.drop i))).setCells b (off + i * t.size) (fcs t ys))
    (hgrow : ∀ (w : World) (xs ys : List t.den) (b off cap : Nat) (cur : Array Value) (ty : TypeId) (fz : Nat × Nat) (vb voff vcap : Nat) (vcur : Array Value) (vty : TypeId) (vfz : Nat × Nat) (i : Nat), OwnAt w t xs b off cap cur ty fz → OwnAt w t ys vb voff vcap vcur vty vfz → ys.length = 1 → vb ≠ b → i < xs.length → cap < xs.length + 1 → xs.length ≤ 1048576 →
      Calls P f #[.slice (some ⟨b, off, none⟩) xs.length cap, .int .i64 i, .slice (some ⟨vb, voff, none⟩) 1 vcap] w fun r w' => ∃ v', r = .returned v' ∧ w'.ownsRow w.heap.size e t.size v' (xs.length + 1) (fcs t (xs.take i ++ (ys ++ xs.drop i))) ∧ Below w.heap.size w w')
    (hend : ∀ (w : World) (xs ys : List t.den) (b off cap : Nat) (cur : Array Value) (ty : TypeId) (fz : Nat × Nat) (vb voff vcap : Nat) (vcur : Array Value) (vty : TypeId) (vfz : Nat × Nat), OwnAt w t xs b off cap cur ty fz → OwnAt w t ys vb voff vcap vcur vty vfz → ys.length = 1 → vb ≠ b → xs.length + 1 ≤ cap →
      Calls P f #[.slice (some ⟨b, off, none⟩) xs.length cap, .int .i64 xs.length, .slice (some ⟨vb, voff, none⟩) 1 vcap] w fun r w' => r = .returned (.slice (some ⟨b, off, none⟩) (xs.length + 1) cap) ∧
        ∃ q, w' = (w.drewN q).setCells b (off + xs.length * t.size) (fcs t ys))
    (hlast : ∀ (w : World) (xs ys : List t.den) (ad : Option Addr) (cap : Nat) (vb voff vcap : Nat) (vcur : Array Value) (vty : TypeId) (vfz : Nat × Nat), (∀ x ∈ xs, Wf t x) → xs.length ≤ cap → (ad = none → xs = []) → (∀ a, ad = some a → ∀ j u, (fcs t xs)[j]? = some u → w.cell? (a.add j) = some u) → OwnAt w t ys vb voff vcap vcur vty vfz → ys.length = 1 → cap < xs.length + 1 → xs.length ≤ 1048576 →
      Calls P f #[.slice ad xs.length cap, .int .i64 xs.length, .slice (some ⟨vb, voff, none⟩) 1 vcap] w fun r w' => ∃ v', r = .returned v' ∧ w'.ownsRow w.heap.size e t.size v' (xs.length + 1) (fcs t (xs ++ ys)) ∧ Below w.heap.size w w') :
    Contract P f (insertSpec t) := by
  rintro w ⟨z0, z1, z2, u⟩ vs bss hgo hp ⟨v, s, b0, bs0, rfl, rfl, ho, v1, s1, b1, bs1, rfl, rfl, ⟨rfl, rfl, _⟩, v2, s2, b2, bs2, rfl, rfl, ho2, rfl, rfl⟩ hn
  obtain ⟨x0, rfl⟩ : ∃ y : List t.den, y = z0 := ⟨z0, rfl⟩
  obtain ⟨x1, rfl⟩ : ∃ y : Int, y = z1 := ⟨z1, rfl⟩
  obtain ⟨x2, rfl⟩ : ∃ y : List t.den, y = z2 := ⟨z2, rfl⟩
  dsimp only
  obtain ⟨p0, p1, p2, p3⟩ : 0 ≤ x1 ∧ x1 ≤ x0.length ∧ x2.length = 1 ∧ x0.length ≤ 1048576 := hp
  obtain ⟨i, rfl⟩ : ∃ i : Nat, x1 = i := ⟨x1.toNat, by omega⟩
  have hi : i ≤ x0.length := by omega
  have ho' : OwnC w (.sl t) x0 [v] b0 := ho
  have ho2' : OwnC w (.sl t) x2 [v2] b2 := ho2
  obtain ⟨vb, voff, vcap, vcur, vty, vfz, rfl, rfl, hB⟩ := ownAt_of hf ho2' (by intro e; rw [e] at p2; simp at p2)
  rw [p2]
  have hwf2 := hB.wf
  -- a row of one's own
  have fresh : ∀ (ys : List t.den) (v' : Value) (w' : World), ys.length = x0.length + 1 → (∀ y ∈ ys, Wf t y) → w'.ownsRow w.heap.size e t.size v' (x0.length + 1) (fcs t ys) → Below w.heap.size w w' →
      ∃ rs ubs rbs, Ending.returned v' = .returned (packV rs) ∧ Kept [b0, [], [vb]].flatten w w' ∧ ResRep w' [⟨.sl t, ys⟩] rs rbs ∧ UpdRep w' [none, none] (ownVals [AT.own t, AT.v (.int .i64), AT.own t] [v, .int .i64 i, .slice (some ⟨vb, voff, none⟩) 1 vcap]) ubs ∧
        (ubs.flatten ++ rbs.flatten).Nodup ∧ ∀ d ∈ ubs.flatten ++ rbs.flatten, ¬ Am.Good w [b0, [], [vb]].flatten d := fun ys v' w' hl hw h1 h2 => by
    rw [← hl] at h1
    obtain ⟨bs, g1, g2, g3⟩ := own_of_row hf hw (by rw [hl]; unfold maxLen; omega) h1
    refine ⟨[v'], [[], []], [bs], rfl, (Kept.of_below h2).of_nil, ⟨_, _, _, _, _, rfl, rfl, g1, rfl, rfl, rfl⟩, ⟨_, _, _, rfl, rfl, _, _, _, rfl, rfl, rfl, rfl⟩, by simpa using g2, fun d hd hg => ?_⟩
    simp at hd
    have := g3 d hd
    have := hg.1
    omega
  -- what was there, written anew
  have wf3 : ∀ y ∈ x0.take i ++ (x2 ++ x0.drop i), Wf t y → True := fun _ _ _ => trivial
  obtain ⟨hw0, hm0, hcase⟩ := own_flat hf ho'
  have hws : ∀ y ∈ x0.take i ++ (x2 ++ x0.drop i), Wf t y := fun y hy => by
    rcases List.mem_append.1 hy with hy | hy
    · exact hw0 y (List.mem_of_mem_take hy)
    · rcases List.mem_append.1 hy with hy | hy
      · exact hwf2 y hy
      · exact hw0 y (List.mem_of_mem_drop hy)
  have hlens : (x0.take i ++ (x2 ++ x0.drop i)).length = x0.length + 1 := by
    simp only [List.length_append, List.length_take, List.length_drop, p2]
    omega
  rcases hcase with ⟨ad, rfl, rfl, rfl⟩ | ⟨b, off, cap, cur, ty, fz, rfl, h2, h3, h4, h5, h6, rfl, h8⟩
  · have hi0 : i = 0 := by simpa using hi
    subst hi0
    have := hlast w [] x2 ad 0 vb voff vcap vcur vty vfz (fun x h => by cases h) (Nat.le_refl _) (fun _ => rfl) (fun a _ j u hj => by simp [fcs] at hj) hB p2 (by simp) (by simp)
    refine this.mono ?_
    rintro r w' ⟨v', rfl, h1, h2⟩
    exact fresh _ v' w' hlens hws (by simpa using h1) h2
  · have hA : OwnAt w t x0 b off cap cur ty fz := ⟨hw0, h2, h3, h4, h5, h6, h8⟩
    have hvb : vb ≠ b := by
      simp only [List.flatten_cons, List.flatten_nil, List.append_nil, List.nil_append, List.cons_append, List.nodup_cons, List.mem_singleton] at hn
      exact fun e => hn.1 e.symm
    have place : ∀ (w' : World) (cur' : Array Value), Kept [b] w w' → w'.heap[b]? = some (.cells cur' ty fz) → cur'.size = cur.size → x0.length + 1 ≤ cap → (∀ j u, (fcs t (x0.take i ++ (x2 ++ x0.drop i)))[j]? = some u → cur'[off + j]? = some u) →
        ∃ rs ubs rbs, Ending.returned (.slice (some ⟨b, off, none⟩) (x0.length + 1) cap) = .returned (packV rs) ∧ Kept [[b], [], [vb]].flatten w w' ∧ ResRep w' [⟨.sl t, x0.take i ++ (x2 ++ x0.drop i)⟩] rs rbs ∧ UpdRep w' [none, none] (ownVals [AT.own t, AT.v (.int .i64), AT.own t] [.slice (some ⟨b, off, none⟩) x0.length cap, .int .i64 i, .slice (some ⟨vb, voff, none⟩) 1 vcap]) ubs ∧
          (ubs.flatten ++ rbs.flatten).Nodup ∧ ∀ d ∈ ubs.flatten ++ rbs.flatten, ¬ Am.Good w [[b], [], [vb]].flatten d := fun w' cur' hk hb hs hr hc => by
      have hres := own_flat_mk (w := w') hf hws (n := x0.length + 1) (b := b) (off := off) (cap := cap) (cur := cur') (ty := ty) (fz := fz) hlens.symm (by rw [hlens]; exact hr) h3 (by rw [hs]; exact h4) hb (by rw [hs]; exact h6) hc
      refine ⟨[_], [[], []], [[b]], rfl, hk.mono (fun k hk => by simp at hk; simp [hk]), ⟨_, _, _, _, _, rfl, rfl, hres, rfl, rfl, rfl⟩, ⟨_, _, _, rfl, rfl, _, _, _, rfl, rfl, rfl, rfl⟩, by simp, fun d hd hg => ?_⟩
      simp at hd
      subst hd
      exact hg.2 (by simp)
    have hdr : ∀ q, Kept [b] w (w.drewN q) := fun q => ⟨rfl, rfl, rfl, Nat.le_refl _, fun _ _ _ => rfl⟩
    have hlen2 : (fcs t x2).length = t.size := by rw [fcs_length hf hwf2, p2, Nat.one_mul]
    by_cases hroom : x0.length + 1 ≤ cap
    · have hle : (x0.length + 1) * t.size ≤ cap * t.size := Nat.mul_le_mul_right _ hroom
      rw [Nat.add_mul, Nat.one_mul] at hle
      by_cases hin : i = x0.length
      · subst hin
        refine (hend w x0 x2 b off cap cur ty fz vb voff vcap vcur vty vfz hA hB p2 hvb hroom).mono ?_
        rintro r w' ⟨rfl, q, rfl⟩
        have l1 : off + x0.length * t.size + (fcs t x2).length ≤ cur.size := by rw [hlen2]; omega
        obtain ⟨c1, g1, g2, g3, g4, g5, g6⟩ := setCells_block (fcs t x2) (show (w.drewN q).heap[b]? = some (.cells cur ty fz) from h5) l1
        refine place _ c1 ((hdr q).trans (setCells_kept _ h5 l1)) g1 g2 hroom (fun j u hu => ?_)
        rw [List.take_length, List.drop_length, List.append_nil, fcs_append] at hu
        have hl0 := fcs_length hf hw0
        by_cases hj : j < x0.length * t.size
        · rw [List.getElem?_append_left (by omega)] at hu
          rw [g4 _ (.inl (by omega))]
          exact h8 j u hu
        · rw [List.getElem?_append_right (by omega), hl0] at hu
          have := g3 _ u hu
          rwa [show off + x0.length * t.size + (j - x0.length * t.size) = off + j by omega] at this
      · have hlt : i < x0.length := by omega
        refine (hshift w x0 x2 b off cap cur ty fz vb voff vcap vcur vty vfz i hA hB p2 hvb hlt hroom).mono ?_
        rintro r w' ⟨rfl, q, rfl⟩
        have hd : (fcs t (x0.drop i)).length = (x0.length - i) * t.size := by rw [fcs_length hf (fun x hx => hw0 x (List.mem_of_mem_drop hx)), List.length_drop]
        have hti : (fcs t (x0.take i)).length = i * t.size := by rw [fcs_length hf (fun x hx => hw0 x (List.mem_of_mem_take hx)), List.length_take, Nat.min_eq_left (by omega)]
        have e1 : (i + 1) * t.size + (x0.length - i) * t.size = x0.length * t.size + t.size := by rw [← Nat.add_mul, ← Nat.succ_mul]; congr 1; omega
        have e2 : (i + 1) * t.size = i * t.size + t.size := Nat.succ_mul _ _
        have l1 : off + (i + 1) * t.size + (fcs t (x0.drop i)).length ≤ cur.size := by rw [hd]; omega
        obtain ⟨c1, g1, g2, g3, g4, g5, g6⟩ := setCells_block (fcs t (x0.drop i)) (show (w.drewN q).heap[b]? = some (.cells cur ty fz) from h5) l1
        have l2 : off + i * t.size + (fcs t x2).length ≤ c1.size := by rw [hlen2, g2]; omega
        obtain ⟨c2, k1, k2, k3, k4, k5, k6⟩ := setCells_block (fcs t x2) g1 l2
        refine place _ c2 (((hdr q).trans (setCells_kept _ h5 l1)).trans (setCells_kept _ g1 l2)) k1 (by rw [k2, g2]) hroom (fun j u hu => ?_)
        rw [fcs_append, fcs_append] at hu
        by_cases hj : j < i * t.size
        · rw [List.getElem?_append_left (by omega)] at hu
          rw [k4 _ (.inl (by omega)), g4 _ (.inl (by omega))]
          exact h8 j u (fcs_take hf hw0 i j u hu)
        · rw [List.getElem?_append_right (by omega), hti] at hu
          by_cases hj2 : j < i * t.size + t.size
          · rw [List.getElem?_append_left (by omega)] at hu
            have := k3 _ u hu
            rwa [show off + i * t.size + (j - i * t.size) = off + j by omega] at this
          · rw [List.getElem?_append_right (by omega), hlen2] at hu
            rw [k4 _ (.inr (by rw [hlen2]; omega))]
            have := g3 _ u hu
            rwa [show off + (i + 1) * t.size + (j - i * t.size - t.size) = off + j by omega] at this
    · by_cases hin : i = x0.length
      · subst hin
        have := hlast w x0 x2 (some ⟨b, off, none⟩) cap vb voff vcap vcur vty vfz hw0 h2 (fun h => by cases h) (fun a ha j u hj => by cases ha; rw [Addr.add_lit]; exact hA.cell j u hj) hB p2 (by omega) p3
        refine this.mono ?_
        rintro r w' ⟨v', rfl, h1, h2⟩
        exact fresh _ v' w' hlens hws (by rw [Int.toNat_natCast, List.take_length, List.drop_length, List.append_nil]; exact h1) h2
      · have hlt : i < x0.length := by omega
        refine (hgrow w x0 x2 b off cap cur ty fz vb voff vcap vcur vty vfz i hA hB p2 hvb hlt (by omega) p3).mono ?_
        rintro r w' ⟨v', rfl, h1, h2⟩
        exact fresh _ v' w' hlens hws h1 h2

end Go.Am

/- The types of this program, as the abstract machine reads them. -/
set_option linter.unusedVariables false
set_option linter.unusedSimpArgs false
set_option maxRecDepth 100000
namespace Go.Proofs.YtcppjmlhilklcaaGreatDoor
open Go Go.Am Go.Proofs
def tab : List TI := [TI.other,
  TI.other,
  TI.scal (Ty.int IntKind.i64),
  TI.scal (Ty.int IntKind.i64),
  TI.scal (Ty.bool),
  TI.scal (Ty.int IntKind.u8),
  TI.scal (Ty.int IntKind.u8),
  TI.struct (Ty.cons (Ty.int IntKind.i64) (Ty.cons (Ty.int IntKind.i64) (Ty.cons Ty.bool (Ty.cons (Ty.int IntKind.u8) Ty.unit)))),
  TI.struct (Ty.cons (Ty.int IntKind.i64) (Ty.cons (Ty.int IntKind.i64) (Ty.cons Ty.bool (Ty.cons (Ty.int IntKind.u8) Ty.unit)))),
  TI.scal (Ty.str),
  TI.scal (Ty.str),
  TI.scal (Ty.str),
  TI.scal (Ty.int IntKind.u64),
  TI.other,
  TI.other,
  TI.other,
  TI.other,
  TI.other,
  TI.other,
  TI.other,
  TI.other,
  TI.scal (Ty.int IntKind.i32),
  TI.slice 34 (Ty.cons Ty.str (Ty.cons Ty.str (Ty.cons Ty.str Ty.unit))) 48,
  TI.other,
  TI.other,
  TI.other,
  TI.other,
  TI.other,
  TI.slice 9 (Ty.str) 16,
  TI.other,
  TI.other,
  TI.other,
  TI.other,
  TI.struct (Ty.cons Ty.str (Ty.cons Ty.str (Ty.cons Ty.str Ty.unit))),
  TI.struct (Ty.cons Ty.str (Ty.cons Ty.str (Ty.cons Ty.str Ty.unit))),
  TI.other,
  TI.other,
  TI.other,
  TI.other,
  TI.other,
  TI.other,
  TI.other,
  TI.other,
  TI.other,
  TI.other,
  TI.other,
  TI.other,
  TI.other,
  TI.other,
  TI.other,
  TI.other,
  TI.other,
  TI.other,
  TI.other,
  TI.other,
  TI.other,
  TI.other,
  TI.other,
  TI.other,
  TI.other,
  TI.other,
  TI.other,
  TI.other,
  TI.other,
  TI.slice 5 (Ty.int IntKind.u8) 1,
  TI.other,
  TI.scal (Ty.int IntKind.u64),
  TI.other,
  TI.other,
  TI.other,
  TI.other,
  TI.other,
  TI.other,
  TI.other,
  TI.other,
  TI.other,
  TI.other,
  TI.other,
  TI.other,
  TI.slice 3 (Ty.int IntKind.i64) 8,
  TI.other,
  TI.scal (Ty.int IntKind.i64),
  TI.scal (Ty.int IntKind.u64),
  TI.other,
  TI.other,
  TI.other,
  TI.other,
  TI.other,
  TI.other,
  TI.other,
  TI.other,
  TI.other,
  TI.other,
  TI.scal (Ty.int IntKind.u32),
  TI.other,
  TI.other,
  TI.other,
  TI.other,
  TI.other,
  TI.other,
  TI.other,
  TI.other,
  TI.other,
  TI.other,
  TI.other,
  TI.other,
  TI.other,
  TI.other,
  TI.other,
  TI.other,
  TI.other,
  TI.other,
  TI.other,
  TI.other,
  TI.other,
  TI.other,
  TI.other,
  TI.other,
  TI.struct (Ty.cons Ty.str Ty.unit),
  TI.struct (Ty.cons Ty.str Ty.unit),
  TI.other,
  TI.other,
  TI.other,
  TI.struct (Ty.cons (Ty.int IntKind.u8) (Ty.cons (Ty.int IntKind.u8) Ty.unit)),
  TI.struct (Ty.cons (Ty.int IntKind.u8) (Ty.cons (Ty.int IntKind.u8) Ty.unit)),
  TI.other,
  TI.other,
  TI.other,
  TI.other,
  TI.other,
  TI.other,
  TI.other,
  TI.other,
  TI.scal (Ty.int IntKind.u8),
  TI.scal (Ty.int IntKind.u8),
  TI.other,
  TI.scal (Ty.int IntKind.i32),
  TI.scal (Ty.int IntKind.i32)]

theorem tabOk : TabOk Tryz.prog tab := tabOk_of_check (by kernel_rfl)
theorem mixed : Tryz.prog.follows .mixedOrders = true := by kernel_rfl
theorem gv0 {W : World} (h : GInv W) : GHas W 0 (.ifc) := h.1
theorem gv1 {W : World} (h : GInv W) : GHas W 1 (.ifc) := h.2.1
theorem gv2 {W : World} (h : GInv W) : GHas W 2 (.tab .u64 Lib.pow10Tab) := h.2.2.1
theorem gv3 {W : World} (h : GInv W) : GHas W 3 (.int .i64) := h.2.2.2.1
theorem gcell3 (W : World) (h : W.ShapedOpen Tryz.prog) : ∃ m, W.cell? ⟨3, 0, none⟩ = some (.int .i64 m) :=
  Go.Proofs.cell_of_shapedOpen_int (zero := #[.int .i64 0]) (t := 3) h (of_decide_eq_true (by kernel_rfl)) (by kernel_rfl) rfl (by kernel_rfl) (by kernel_rfl) Tryz.underlying3
theorem maxLenG {W : World} (h : GInv W) : ∃ m, W.cell? ⟨3, 0, none⟩ = some (.int .i64 m) := gv3 h
theorem pow10G {W : World} (h : GInv W) : Lib.TabIs Tryz.prog W "internal/strconv.uint64pow10" .u64 Lib.pow10Tab := GHas.tab (by kernel_rfl) (gv2 h)
theorem errSyntaxG {W : World} (h : GInv W) : ∃ ev, W.cell? ⟨0, 0, none⟩ = some ev ∧ (ev = .nilIface ∨ ∃ te pe, ev = .iface te pe) := GHas.ifc_cell (gv0 h)
theorem errRangeG {W : World} (h : GInv W) : ∃ ev, W.cell? ⟨1, 0, none⟩ = some ev ∧ (ev = .nilIface ∨ ∃ te pe, ev = .iface te pe) := GHas.ifc_cell (gv1 h)
theorem ginv (W : World) (h : W.ShapedOpen Tryz.prog) (h0 : GHas W 0 (.ifc)) (h1 : GHas W 1 (.ifc)) (h2 : GHas W 2 (.tab .u64 Lib.pow10Tab)) : GInv W := ⟨h0, h1, h2, gcell3 W h, trivial⟩
end Go.Proofs.YtcppjmlhilklcaaGreatDoor

/- Function 30 (internal/stringslite.HasSuffix): its runs between cut points. Written by a program of this repo (gen). -/
set_option linter.unusedVariables false
set_option linter.unusedSimpArgs false
set_option maxRecDepth 100000
namespace Go.Proofs.YtcppjmlhilklcaaGreatDoor
open Go Go.Am Go.Proofs
def ext30 : Ext := []
theorem ext30Ok : ExtOk Tryz.prog ext30 := trivial
/-! Function 30. -/
noncomputable def b30 : Code := bodyOf Tryz.f30
theorem hb30 : Tryz.f30.body = some b30 := by kernel_rfl
def sig30 : List AT := [AT.v (Ty.str), AT.v (Ty.str)]
def tys30 : List Ty := [Ty.bool]
def P30 (x0 : ByteArray) (x1 : ByteArray) : Prop := (if (Decidable.decide ((↑(ByteArray.size x0) : Int) ≥ (↑(ByteArray.size x1) : Int))) = true then ((InR IntKind.i64 ((↑(ByteArray.size x0) : Int) - (↑(ByteArray.size x1) : Int))) ∧ ((0 ≤ (↑(ByteArray.size x0) : Int) - (↑(ByteArray.size x1) : Int)) ∧ ((↑(ByteArray.size x0) : Int) - (↑(ByteArray.size x1) : Int) ≤ (↑(ByteArray.size x0) : Int)) ∧ True)) else True)
def g30_0 (x0 : ByteArray) (x1 : ByteArray) : Bool := (if (Decidable.decide ((↑(ByteArray.size x0) : Int) ≥ (↑(ByteArray.size x1) : Int))) = true then ByteArray.toList (ByteArray.extract x0 (Int.toNat ((↑(ByteArray.size x0) : Int) - (↑(ByteArray.size x1) : Int))) (Int.toNat (↑(ByteArray.size x0) : Int))) == ByteArray.toList x1 else Bool.false)
theorem p30_0 (x0 : ByteArray) (x1 : ByteArray) : runF tab ext30 false 21 [] 2000 [] tys30 Tryz.f30.results [true] [.code b30] (entE 0 0 sig30 (x0, x1, ())) (entL sig30 (x0, x1, ())) = some ([Dyn.mk Ty.bool (ByteArray.toList (ByteArray.extract x0 (Int.toNat ((↑(ByteArray.size x0) : Int) - (↑(ByteArray.size x1) : Int))) (Int.toNat (↑(ByteArray.size x0) : Int))) == ByteArray.toList x1)], [], [Decidable.decide ((↑(ByteArray.size x0) : Int) ≥ (↑(ByteArray.size x1) : Int)) = Bool.true, InR IntKind.i64 ((↑(ByteArray.size x0) : Int) - (↑(ByteArray.size x1) : Int)), 0 ≤ (↑(ByteArray.size x0) : Int) - (↑(ByteArray.size x1) : Int), (↑(ByteArray.size x0) : Int) - (↑(ByteArray.size x1) : Int) ≤ (↑(ByteArray.size x0) : Int)]) := by kernel_rfl
theorem p30_1 (x0 : ByteArray) (x1 : ByteArray) : runF tab ext30 false 21 [] 2000 [] tys30 Tryz.f30.results [false] [.code b30] (entE 0 0 sig30 (x0, x1, ())) (entL sig30 (x0, x1, ())) = some ([Dyn.mk Ty.bool Bool.false], [], [Decidable.decide ((↑(ByteArray.size x0) : Int) ≥ (↑(ByteArray.size x1) : Int)) = Bool.false]) := by kernel_rfl
theorem at30 (x0 : ByteArray) (x1 : ByteArray) (h : P30 x0 x1) (w0 : World) (O : List Nat) (q : Nat → Value) : AtV Tryz.prog 30 (PostR [⟨Ty.bool, g30_0 x0 x1⟩] [] [] q w0 O) 21 w0 O q [] [.code b30] (entE 0 0 sig30 (x0, x1, ())) (entL sig30 (x0, x1, ())) := by
  unfold P30 at h
  unfold g30_0
  by_cases b0 : (Decidable.decide ((↑(ByteArray.size x0) : Int) ≥ (↑(ByteArray.size x1) : Int))) = true
  · try simp only [if_pos b0] at h ⊢
    obtain ⟨s0, h⟩ := h
    obtain ⟨s1, s2, h⟩ := h
    exact AtV.fin Tryz.func30 tabOk ext30Ok mixed (p30_0 x0 x1) ⟨b0, s0, s1, s2, trivial⟩
  · try simp only [if_neg b0] at h ⊢
    replace b0 := Bool.eq_false_iff.2 b0
    exact AtV.fin Tryz.func30 tabOk ext30Ok mixed (p30_1 x0 x1) ⟨b0, trivial⟩

def S30 : Am.Spec := { sig := sig30, pre := fun ⟨x0, x1, _⟩ => P30 x0 x1, res := fun ⟨x0, x1, _⟩ => [⟨Ty.bool, g30_0 x0 x1⟩] }
theorem con30 : Contract Tryz.prog 30 S30 := contract_of Tryz.func30 hb30 (Nat.le_of_ble_eq_true (by kernel_rfl)) (fun ⟨x0, x1, _⟩ h _ w0 O q => at30 x0 x1 h w0 O q)


end Go.Proofs.YtcppjmlhilklcaaGreatDoor

/- Function 13 (strings.HasSuffix): its runs between cut points. Written by a program of this repo (gen). -/
set_option linter.unusedVariables false
set_option linter.unusedSimpArgs false
set_option maxRecDepth 100000
namespace Go.Proofs.YtcppjmlhilklcaaGreatDoor
open Go Go.Am Go.Proofs
def ext13 : Ext := [(30, S30)]
theorem call13_30 : Callable Tryz.prog 30 := ⟨Tryz.f30, Tryz.func30, by kernel_rfl, by kernel_rfl⟩
theorem ext13Ok : ExtOk Tryz.prog ext13 := ⟨⟨call13_30, con30⟩, trivial⟩
/-! Function 13. -/
noncomputable def b13 : Code := bodyOf Tryz.f13
theorem hb13 : Tryz.f13.body = some b13 := by kernel_rfl
def sig13 : List AT := [AT.v (Ty.str), AT.v (Ty.str)]
def tys13 : List Ty := [Ty.bool]
def P13 (x0 : ByteArray) (x1 : ByteArray) : Prop := ((P30 x0 x1) ∧ True)
def g13_0 (x0 : ByteArray) (x1 : ByteArray) : Bool := g30_0 x0 x1
theorem p13_0 (x0 : ByteArray) (x1 : ByteArray) : runF tab ext13 false 8 [] 2000 [] tys13 Tryz.f13.results [] [.code b13] (entE 0 0 sig13 (x0, x1, ())) (entL sig13 (x0, x1, ())) = some ([Dyn.mk Ty.bool (g30_0 x0 x1)], [], [P30 x0 x1]) := by kernel_rfl
theorem at13 (x0 : ByteArray) (x1 : ByteArray) (h : P13 x0 x1) (w0 : World) (O : List Nat) (q : Nat → Value) : AtV Tryz.prog 13 (PostR [⟨Ty.bool, g13_0 x0 x1⟩] [] [] q w0 O) 8 w0 O q [] [.code b13] (entE 0 0 sig13 (x0, x1, ())) (entL sig13 (x0, x1, ())) := by
  unfold P13 at h
  unfold g13_0
  obtain ⟨s0, h⟩ := h
  exact AtV.fin Tryz.func13 tabOk ext13Ok mixed (p13_0 x0 x1) ⟨s0, trivial⟩

def S13 : Am.Spec := { sig := sig13, pre := fun ⟨x0, x1, _⟩ => P13 x0 x1, res := fun ⟨x0, x1, _⟩ => [⟨Ty.bool, g13_0 x0 x1⟩] }
theorem con13 : Contract Tryz.prog 13 S13 := contract_of Tryz.func13 hb13 (Nat.le_of_ble_eq_true (by kernel_rfl)) (fun ⟨x0, x1, _⟩ h _ w0 O q => at13 x0 x1 h w0 O q)


end Go.Proofs.YtcppjmlhilklcaaGreatDoor

/- The contracts of the library that this program uses, laid at this program. Written by a tool of the kit. -/
set_option linter.unusedVariables false
set_option maxRecDepth 100000
namespace Go.Proofs
open Go.Shelf
def Tryz.lays169_ren : Go.Shelf.Ren := ⟨fun | 169 => 58 | n => n, fun | 70 => 71 | 9 => 9 | 0 => 0 | 72 => 73 | 37 => 64 | 127 => 98 | 3 => 3 | 5 => 5 | n => n, fun | n => n⟩
theorem Tryz.lays169 : Go.Proofs.Lays.n169 Tryz.prog Tryz.lays169_ren := {
  mixed := by kernel_rfl
  f169 := Tryz.func58.trans (congrArg some (by kernel_rfl))
  t0 := Tryz.underlying0
  a0 := Tryz.isAgg0
  z0 := Tryz.sizeOf0
  v0 := Tryz.zeroValue0
  t3 := Tryz.underlying3
  a3 := Tryz.isAgg3
  z3 := Tryz.sizeOf3
  v3 := Tryz.zeroValue3
  t9 := Tryz.underlying9
  a9 := Tryz.isAgg9
  z9 := Tryz.sizeOf9
  v9 := Tryz.zeroValue9
  t37 := Tryz.underlying64
  a37 := Tryz.isAgg64
  z37 := Tryz.sizeOf64
  v37 := Tryz.zeroValue64
  t70 := Tryz.underlying71
  a70 := Tryz.isAgg71
  z70 := Tryz.sizeOf71
  v70 := Tryz.zeroValue71
  t72 := Tryz.underlying73
  a72 := Tryz.isAgg73
  z72 := Tryz.sizeOf73
  v72 := Tryz.zeroValue73
  t127 := Tryz.underlying98
  a127 := Tryz.isAgg98
  z127 := Tryz.sizeOf98
  v127 := Tryz.zeroValue98 }
theorem Tryz.Builder_Extra_169 : Builder.Extra Tryz.prog Tryz.lays169_ren := {
  sizeBuilder := by kernel_rfl
  liesBuilder := by kernel_rfl
  t5 := Tryz.underlying5
  a5 := Tryz.isAgg5
  z5 := Tryz.sizeOf5
  v5 := Tryz.zeroValue5
  infoByte := by kernel_rfl
  cellsByte := by kernel_rfl
  sizeByte := by kernel_rfl
  neB5 := by decide }
open Go.RowKit in theorem Tryz.Builder_String_any_k (B b : Nat) (l : List UInt8) (w : World) (h : Lib.IsBuilderF 73 5 B b (Lib.byteCells l) w) (hBw : B ≤ w.heap.size) :
    Calls Tryz.prog 58 #[.pointer (some ⟨b, 0, none⟩)] w fun e w' => e = .returned (.string ⟨l.toArray⟩) ∧ (Lib.IsBuilderF 73 5 B b (Lib.byteCells l) w' ∧ Below B w w' ∧ Lib.OthersKept 5 (some b) w w') := Any.Builder_String_any_k Tryz.lays169 Tryz.Builder_Extra_169 B b l w h hBw
def Tryz.laysM173_ren : Go.Shelf.Ren := ⟨fun | 173 => 35 | 246 => 51 | 283 => 71 | 284 => 72 | 285 => 73 | 286 => 74 | 129 => 89 | 317 => 88 | 318 => 90 | 319 => 91 | 320 => 92 | 337 => 101 | 338 => 102 | n => n, fun | 2 => 2 | 3 => 3 | 9 => 9 | 4 => 4 | 171 => 88 | 0 => 0 | 53 => 82 | 37 => 64 | 5 => 5 | 173 => 91 | 212 => 110 | 51 => 93 | 20 => 20 | 213 => 111 | 46 => 66 | 232 => 126 | 233 => 127 | n => n, fun | 17 => 2 | 18 => 6 | 19 => 7 | n => n⟩
theorem Tryz.laysM173 : Go.Proofs.LaysM.n173 Tryz.prog Tryz.laysM173_ren := {
  mixed := by kernel_rfl
  f129 := Tryz.func89.trans (congrArg some (by kernel_rfl))
  f173 := Tryz.func35.trans (congrArg some (by kernel_rfl))
  f246 := Tryz.func51.trans (congrArg some (by kernel_rfl))
  f283 := Tryz.func71.trans (congrArg some (by kernel_rfl))
  f284 := Tryz.func72.trans (congrArg some (by kernel_rfl))
  f285 := Tryz.func73.trans (congrArg some (by kernel_rfl))
  f286 := Tryz.func74.trans (congrArg some (by kernel_rfl))
  f317 := Tryz.func88.trans (congrArg some (by kernel_rfl))
  f318 := Tryz.func90.trans (congrArg some (by kernel_rfl))
  f319 := Tryz.func91.trans (congrArg some (by kernel_rfl))
  f320 := Tryz.func92.trans (congrArg some (by kernel_rfl))
  f337 := Tryz.func101.trans (congrArg some (by kernel_rfl))
  f338 := Tryz.func102.trans (congrArg some (by kernel_rfl))
  t0 := Tryz.underlying0
  a0 := Tryz.isAgg0
  z0 := Tryz.sizeOf0
  v0 := Tryz.zeroValue0
  t2 := Tryz.underlying2
  a2 := Tryz.isAgg2
  z2 := Tryz.sizeOf2
  v2 := Tryz.zeroValue2
  t3 := Tryz.underlying3
  a3 := Tryz.isAgg3
  z3 := Tryz.sizeOf3
  v3 := Tryz.zeroValue3
  t4 := Tryz.underlying4
  a4 := Tryz.isAgg4
  z4 := Tryz.sizeOf4
  v4 := Tryz.zeroValue4
  t5 := Tryz.underlying5
  a5 := Tryz.isAgg5
  z5 := Tryz.sizeOf5
  v5 := Tryz.zeroValue5
  t9 := Tryz.underlying9
  a9 := Tryz.isAgg9
  z9 := Tryz.sizeOf9
  v9 := Tryz.zeroValue9
  t20 := Tryz.underlying20
  a20 := Tryz.isAgg20
  z20 := Tryz.sizeOf20
  v20 := Tryz.zeroValue20
  t37 := Tryz.underlying64
  a37 := Tryz.isAgg64
  z37 := Tryz.sizeOf64
  v37 := Tryz.zeroValue64
  t46 := Tryz.underlying66
  a46 := Tryz.isAgg66
  z46 := Tryz.sizeOf66
  v46 := Tryz.zeroValue66
  t51 := Tryz.underlying93
  a51 := Tryz.isAgg93
  z51 := Tryz.sizeOf93
  v51 := Tryz.zeroValue93
  t53 := Tryz.underlying82
  a53 := Tryz.isAgg82
  z53 := Tryz.sizeOf82
  v53 := Tryz.zeroValue82
  t171 := Tryz.underlying88
  a171 := Tryz.isAgg88
  z171 := Tryz.sizeOf88
  v171 := Tryz.zeroValue88
  t173 := Tryz.underlying91
  a173 := Tryz.isAgg91
  z173 := Tryz.sizeOf91
  v173 := Tryz.zeroValue91
  t212 := Tryz.underlying110
  a212 := Tryz.isAgg110
  z212 := Tryz.sizeOf110
  v212 := Tryz.zeroValue110
  t213 := Tryz.underlying111
  a213 := Tryz.isAgg111
  z213 := Tryz.sizeOf111
  t232 := Tryz.underlying126
  a232 := Tryz.isAgg126
  z232 := Tryz.sizeOf126
  v232 := Tryz.zeroValue126
  t233 := Tryz.underlying127
  a233 := Tryz.isAgg127
  z233 := Tryz.sizeOf127
  v233 := Tryz.zeroValue127
  g17 := by kernel_rfl
  g18 := by kernel_rfl
  g19 := by kernel_rfl
  i0 := by kernel_rfl
  i2 := by kernel_rfl
  i3 := by kernel_rfl
  i4 := by kernel_rfl
  i5 := by kernel_rfl
  i9 := by kernel_rfl
  i20 := by kernel_rfl
  i37 := by kernel_rfl
  i46 := by kernel_rfl
  i51 := by kernel_rfl
  i53 := by kernel_rfl
  i171 := by kernel_rfl
  i173 := by kernel_rfl
  i212 := by kernel_rfl
  i232 := by kernel_rfl
  i233 := by kernel_rfl
  m17 := by kernel_rfl
  m18 := by kernel_rfl
  m19 := by kernel_rfl }
open Go.RowKit Go.Sort Go.Lib in theorem Tryz.strconv_FormatInt_10 (n : Int) (h0 : -9223372036854775808 ≤ n) (h1 : n ≤ 9223372036854775807) (w : World) (htab : Lib.TabIs Tryz.prog w "internal/strconv.uint64pow10" .u64 Lib.pow10Tab) :
    Calls Tryz.prog 35 #[.int .i64 n, .int .i64 10] w fun e w' => e = .returned (.string ⟨(Lib.itoa n).toArray⟩) ∧ ∃ k os, w' = grow (w.drewN k) os := Any.strconv_FormatInt_10 Tryz.laysM173 n h0 h1 w htab
def Tryz.laysC174_ren : Go.Shelf.Ren := ⟨fun | 174 => 33 | 247 => 48 | 245 => 49 | 287 => 66 | 279 => 67 | 280 => 68 | 281 => 69 | 282 => 70 | 321 => 83 | 322 => 84 | 316 => 85 | 171 => 87 | 205 => 86 | 243 => 100 | 246 => 51 | 283 => 71 | 284 => 72 | 285 => 73 | 286 => 74 | 129 => 89 | 317 => 88 | 318 => 90 | 319 => 91 | 320 => 92 | 337 => 101 | 338 => 102 | n => n, fun | 9 => 9 | 3 => 3 | 2 => 2 | 75 => 53 | 85 => 54 | 4 => 4 | 167 => 81 | 5 => 5 | 53 => 82 | 175 => 83 | 46 => 66 | 168 => 85 | 37 => 64 | 0 => 0 | 210 => 106 | 21 => 21 | 127 => 98 | 145 => 119 | 143 => 117 | 171 => 88 | 173 => 91 | 212 => 110 | 51 => 93 | 20 => 20 | 213 => 111 | 232 => 126 | 233 => 127 | 80 => 78 | n => n, fun | 15 => 0 | 16 => 1 | 17 => 2 | 18 => 6 | 19 => 7 | n => n⟩
theorem Tryz.laysC174 : Go.Proofs.LaysC.n174 Tryz.prog Tryz.laysC174_ren := {
  mixed := by kernel_rfl
  f129 := Tryz.func89.trans (congrArg some (by kernel_rfl))
  f171 := Tryz.func87.trans (congrArg some (by kernel_rfl))
  f174 := Tryz.func33.trans (congrArg some (by kernel_rfl))
  f205 := Tryz.func86.trans (congrArg some (by kernel_rfl))
  f243 := Tryz.func100.trans (congrArg some (by kernel_rfl))
  f245 := Tryz.func49.trans (congrArg some (by kernel_rfl))
  f246 := Tryz.func51.trans (congrArg some (by kernel_rfl))
  f247 := Tryz.func48.trans (congrArg some (by kernel_rfl))
  f279 := Tryz.func67.trans (congrArg some (by kernel_rfl))
  f280 := Tryz.func68.trans (congrArg some (by kernel_rfl))
  f281 := Tryz.func69.trans (congrArg some (by kernel_rfl))
  f282 := Tryz.func70.trans (congrArg some (by kernel_rfl))
  f283 := Tryz.func71.trans (congrArg some (by kernel_rfl))
  f284 := Tryz.func72.trans (congrArg some (by kernel_rfl))
  f285 := Tryz.func73.trans (congrArg some (by kernel_rfl))
  f286 := Tryz.func74.trans (congrArg some (by kernel_rfl))
  f287 := Tryz.func66.trans (congrArg some (by kernel_rfl))
  f316 := Tryz.func85.trans (congrArg some (by kernel_rfl))
  f317 := Tryz.func88.trans (congrArg some (by kernel_rfl))
  f318 := Tryz.func90.trans (congrArg some (by kernel_rfl))
  f319 := Tryz.func91.trans (congrArg some (by kernel_rfl))
  f320 := Tryz.func92.trans (congrArg some (by kernel_rfl))
  f321 := Tryz.func83.trans (congrArg some (by kernel_rfl))
  f322 := Tryz.func84.trans (congrArg some (by kernel_rfl))
  f337 := Tryz.func101.trans (congrArg some (by kernel_rfl))
  f338 := Tryz.func102.trans (congrArg some (by kernel_rfl))
  t0 := Tryz.underlying0
  a0 := Tryz.isAgg0
  z0 := Tryz.sizeOf0
  v0 := Tryz.zeroValue0
  t2 := Tryz.underlying2
  a2 := Tryz.isAgg2
  z2 := Tryz.sizeOf2
  v2 := Tryz.zeroValue2
  t3 := Tryz.underlying3
  a3 := Tryz.isAgg3
  z3 := Tryz.sizeOf3
  v3 := Tryz.zeroValue3
  t4 := Tryz.underlying4
  a4 := Tryz.isAgg4
  z4 := Tryz.sizeOf4
  v4 := Tryz.zeroValue4
  t5 := Tryz.underlying5
  a5 := Tryz.isAgg5
  z5 := Tryz.sizeOf5
  v5 := Tryz.zeroValue5
  t9 := Tryz.underlying9
  a9 := Tryz.isAgg9
  z9 := Tryz.sizeOf9
  v9 := Tryz.zeroValue9
  t20 := Tryz.underlying20
  a20 := Tryz.isAgg20
  z20 := Tryz.sizeOf20
  v20 := Tryz.zeroValue20
  t21 := Tryz.underlying21
  a21 := Tryz.isAgg21
  z21 := Tryz.sizeOf21
  v21 := Tryz.zeroValue21
  t37 := Tryz.underlying64
  a37 := Tryz.isAgg64
  z37 := Tryz.sizeOf64
  v37 := Tryz.zeroValue64
  t46 := Tryz.underlying66
  a46 := Tryz.isAgg66
  z46 := Tryz.sizeOf66
  v46 := Tryz.zeroValue66
  t51 := Tryz.underlying93
  a51 := Tryz.isAgg93
  z51 := Tryz.sizeOf93
  v51 := Tryz.zeroValue93
  t53 := Tryz.underlying82
  a53 := Tryz.isAgg82
  z53 := Tryz.sizeOf82
  v53 := Tryz.zeroValue82
  t75 := Tryz.underlying53
  a75 := Tryz.isAgg53
  z75 := Tryz.sizeOf53
  v75 := Tryz.zeroValue53
  t85 := Tryz.underlying54
  a85 := Tryz.isAgg54
  z85 := Tryz.sizeOf54
  v85 := Tryz.zeroValue54
  t127 := Tryz.underlying98
  a127 := Tryz.isAgg98
  z127 := Tryz.sizeOf98
  v127 := Tryz.zeroValue98
  t143 := Tryz.underlying117
  a143 := Tryz.isAgg117
  z143 := Tryz.sizeOf117
  v143 := Tryz.zeroValue117
  t145 := Tryz.underlying119
  a145 := Tryz.isAgg119
  z145 := Tryz.sizeOf119
  v145 := Tryz.zeroValue119
  t167 := Tryz.underlying81
  a167 := Tryz.isAgg81
  z167 := Tryz.sizeOf81
  v167 := Tryz.zeroValue81
  t168 := Tryz.underlying85
  a168 := Tryz.isAgg85
  z168 := Tryz.sizeOf85
  v168 := Tryz.zeroValue85
  t171 := Tryz.underlying88
  a171 := Tryz.isAgg88
  z171 := Tryz.sizeOf88
  v171 := Tryz.zeroValue88
  t173 := Tryz.underlying91
  a173 := Tryz.isAgg91
  z173 := Tryz.sizeOf91
  v173 := Tryz.zeroValue91
  t175 := Tryz.underlying83
  a175 := Tryz.isAgg83
  z175 := Tryz.sizeOf83
  v175 := Tryz.zeroValue83
  t210 := Tryz.underlying106
  a210 := Tryz.isAgg106
  z210 := Tryz.sizeOf106
  v210 := Tryz.zeroValue106
  t212 := Tryz.underlying110
  a212 := Tryz.isAgg110
  z212 := Tryz.sizeOf110
  v212 := Tryz.zeroValue110
  t213 := Tryz.underlying111
  a213 := Tryz.isAgg111
  z213 := Tryz.sizeOf111
  t232 := Tryz.underlying126
  a232 := Tryz.isAgg126
  z232 := Tryz.sizeOf126
  v232 := Tryz.zeroValue126
  t233 := Tryz.underlying127
  a233 := Tryz.isAgg127
  z233 := Tryz.sizeOf127
  v233 := Tryz.zeroValue127
  g15 := by kernel_rfl
  g16 := by kernel_rfl
  g17 := by kernel_rfl
  g18 := by kernel_rfl
  g19 := by kernel_rfl
  t80 := Tryz.underlying78
  a80 := Tryz.isAgg78
  z80 := Tryz.sizeOf78
  v80 := Tryz.zeroValue78
  i0 := by kernel_rfl
  i2 := by kernel_rfl
  i3 := by kernel_rfl
  i4 := by kernel_rfl
  i5 := by kernel_rfl
  i9 := by kernel_rfl
  i20 := by kernel_rfl
  i21 := by kernel_rfl
  i37 := by kernel_rfl
  i46 := by kernel_rfl
  i51 := by kernel_rfl
  i53 := by kernel_rfl
  i75 := by kernel_rfl
  i80 := by kernel_rfl
  i85 := by kernel_rfl
  i127 := by kernel_rfl
  i143 := by kernel_rfl
  i145 := by kernel_rfl
  i167 := by kernel_rfl
  i168 := by kernel_rfl
  i171 := by kernel_rfl
  i173 := by kernel_rfl
  i175 := by kernel_rfl
  i210 := by kernel_rfl
  i212 := by kernel_rfl
  i232 := by kernel_rfl
  i233 := by kernel_rfl
  m15 := by kernel_rfl
  m16 := by kernel_rfl
  m17 := by kernel_rfl
  m18 := by kernel_rfl
  m19 := by kernel_rfl
  c0 := by kernel_rfl
  c2 := by kernel_rfl
  c3 := by kernel_rfl
  c4 := by kernel_rfl
  c5 := by kernel_rfl
  c9 := by kernel_rfl
  c20 := by kernel_rfl
  c21 := by kernel_rfl
  c37 := by kernel_rfl
  c46 := by kernel_rfl
  c51 := by kernel_rfl
  c53 := by kernel_rfl
  c75 := by kernel_rfl
  c80 := by kernel_rfl
  c85 := by kernel_rfl
  c127 := by kernel_rfl
  c143 := by kernel_rfl
  c145 := by kernel_rfl
  c167 := by kernel_rfl
  c168 := by kernel_rfl
  c171 := by kernel_rfl
  c173 := by kernel_rfl
  c175 := by kernel_rfl
  c210 := by kernel_rfl
  c212 := by kernel_rfl
  c213 := by kernel_rfl
  c232 := by kernel_rfl
  c233 := by kernel_rfl }
open Go.RowKit in theorem Tryz.strconv_ParseInt_10_at64_ok (s : ByteArray) (hmax : s.size ≤ 9223372036854775806) (v : Int) (h : Lib.parseIntB 64 s.data.toList = .ok v) (w : World) :
    Calls Tryz.prog 33 #[.string s, .int .i64 10, .int .i64 64] w fun e w' => e = .returned (.tuple #[.int .i64 v, .nilIface]) ∧ (w' = w ∨ ∃ t, w' = Lib.bytesWorld w 5 t) := Any.strconv_ParseInt_10_at64_ok Tryz.laysC174 s hmax v h w
open Go.RowKit in theorem Tryz.strconv_ParseInt_10_at64_syntax (s : ByteArray) (hlim : s.size ≤ 281474976710656) (h : Lib.parseIntB 64 s.data.toList = .syntax) (ev : Value) (w : World) (hv : w.cell? ⟨0, 0, none⟩ = some ev) (hev : ev = .nilIface ∨ ∃ te pe, ev = .iface te pe) :
    Calls Tryz.prog 33 #[.string s, .int .i64 10, .int .i64 64] w fun e w' => ∃ N, e = .returned (.tuple #[.int .i64 (0), .iface 85 (.pointer (some ⟨N, 0, none⟩))]) ∧ w.heap.size ≤ N ∧ w'.heap[N]? = some (.cells #[.string ⟨#[80, 97, 114, 115, 101, 73, 110, 116]⟩, .string s, ev] 106 (0, 0)) ∧ Below w.heap.size w w' := Any.strconv_ParseInt_10_at64_syntax Tryz.laysC174 s hlim h ev w hv hev
open Go.RowKit in theorem Tryz.strconv_ParseInt_10_at64_range (s : ByteArray) (hlim : s.size ≤ 281474976710656) (h : Lib.parseIntB 64 s.data.toList = .range) (ev : Value) (w : World) (hv : w.cell? ⟨1, 0, none⟩ = some ev) (hev : ev = .nilIface ∨ ∃ te pe, ev = .iface te pe) :
    Calls Tryz.prog 33 #[.string s, .int .i64 10, .int .i64 64] w fun e w' => ∃ N, e = .returned (.tuple #[.int .i64 (Lib.intSat 64 s.data.toList), .iface 85 (.pointer (some ⟨N, 0, none⟩))]) ∧ w.heap.size ≤ N ∧ w'.heap[N]? = some (.cells #[.string ⟨#[80, 97, 114, 115, 101, 73, 110, 116]⟩, .string s, ev] 106 (0, 0)) ∧ Below w.heap.size w w' := Any.strconv_ParseInt_10_at64_range Tryz.laysC174 s hlim h ev w hv hev
def Tryz.lays144_ren : Go.Shelf.Ren := ⟨fun | 144 => 60 | 143 => 65 | 219 => 75 | 217 => 93 | 225 => 94 | 224 => 95 | 267 => 96 | 266 => 103 | 314 => 104 | n => n, fun | 9 => 9 | 4 => 4 | 3 => 3 | 5 => 5 | 46 => 66 | 146 => 94 | 51 => 93 | n => n, fun | 1 => 3 | n => n⟩
theorem Tryz.lays144 : Go.Proofs.Lays.n144 Tryz.prog Tryz.lays144_ren := {
  mixed := by kernel_rfl
  f143 := Tryz.func65.trans (congrArg some (by kernel_rfl))
  f144 := Tryz.func60.trans (congrArg some (by kernel_rfl))
  f217 := Tryz.func93.trans (congrArg some (by kernel_rfl))
  f219 := Tryz.func75.trans (congrArg some (by kernel_rfl))
  f224 := Tryz.func95.trans (congrArg some (by kernel_rfl))
  f225 := Tryz.func94.trans (congrArg some (by kernel_rfl))
  f266 := Tryz.func103.trans (congrArg some (by kernel_rfl))
  f267 := Tryz.func96.trans (congrArg some (by kernel_rfl))
  f314 := Tryz.func104.trans (congrArg some (by kernel_rfl))
  t3 := Tryz.underlying3
  a3 := Tryz.isAgg3
  z3 := Tryz.sizeOf3
  v3 := Tryz.zeroValue3
  t4 := Tryz.underlying4
  a4 := Tryz.isAgg4
  z4 := Tryz.sizeOf4
  v4 := Tryz.zeroValue4
  t5 := Tryz.underlying5
  a5 := Tryz.isAgg5
  z5 := Tryz.sizeOf5
  v5 := Tryz.zeroValue5
  t9 := Tryz.underlying9
  a9 := Tryz.isAgg9
  z9 := Tryz.sizeOf9
  v9 := Tryz.zeroValue9
  t46 := Tryz.underlying66
  a46 := Tryz.isAgg66
  z46 := Tryz.sizeOf66
  v46 := Tryz.zeroValue66
  t51 := Tryz.underlying93
  a51 := Tryz.isAgg93
  z51 := Tryz.sizeOf93
  v51 := Tryz.zeroValue93
  t146 := Tryz.underlying94
  a146 := Tryz.isAgg94
  z146 := Tryz.sizeOf94
  v146 := Tryz.zeroValue94
  g1 := by kernel_rfl }
open Go.RowKit Go.Lib in theorem Tryz.strings_Contains (s sub : ByteArray) (m : Int) (w : World) (hs : s.size < 4294967281) (hm : w.cell? ⟨3, 0, none⟩ = some (.int .i64 m)) :
    Calls Tryz.prog 60 #[.string s, .string sub] w fun e w' => e = .returned (.bool (Lib.contains s.data.toList sub.data.toList)) ∧ w' = w := Any.strings_Contains Tryz.lays144 s sub m w hs hm
def Tryz.lays145_ren : Go.Shelf.Ren := ⟨fun | 145 => 36 | 220 => 52 | 219 => 75 | 217 => 93 | 225 => 94 | 224 => 95 | 267 => 96 | 266 => 103 | 314 => 104 | n => n, fun | 9 => 9 | 4 => 4 | 59 => 57 | 3 => 3 | 5 => 5 | 46 => 66 | 146 => 94 | 51 => 93 | n => n, fun | 1 => 3 | n => n⟩
theorem Tryz.lays145 : Go.Proofs.Lays.n145 Tryz.prog Tryz.lays145_ren := {
  mixed := by kernel_rfl
  f145 := Tryz.func36.trans (congrArg some (by kernel_rfl))
  f217 := Tryz.func93.trans (congrArg some (by kernel_rfl))
  f219 := Tryz.func75.trans (congrArg some (by kernel_rfl))
  f220 := Tryz.func52.trans (congrArg some (by kernel_rfl))
  f224 := Tryz.func95.trans (congrArg some (by kernel_rfl))
  f225 := Tryz.func94.trans (congrArg some (by kernel_rfl))
  f266 := Tryz.func103.trans (congrArg some (by kernel_rfl))
  f267 := Tryz.func96.trans (congrArg some (by kernel_rfl))
  f314 := Tryz.func104.trans (congrArg some (by kernel_rfl))
  t3 := Tryz.underlying3
  a3 := Tryz.isAgg3
  z3 := Tryz.sizeOf3
  v3 := Tryz.zeroValue3
  t4 := Tryz.underlying4
  a4 := Tryz.isAgg4
  z4 := Tryz.sizeOf4
  v4 := Tryz.zeroValue4
  t5 := Tryz.underlying5
  a5 := Tryz.isAgg5
  z5 := Tryz.sizeOf5
  v5 := Tryz.zeroValue5
  t9 := Tryz.underlying9
  a9 := Tryz.isAgg9
  z9 := Tryz.sizeOf9
  v9 := Tryz.zeroValue9
  t46 := Tryz.underlying66
  a46 := Tryz.isAgg66
  z46 := Tryz.sizeOf66
  v46 := Tryz.zeroValue66
  t51 := Tryz.underlying93
  a51 := Tryz.isAgg93
  z51 := Tryz.sizeOf93
  v51 := Tryz.zeroValue93
  t59 := Tryz.underlying57
  a59 := Tryz.isAgg57
  z59 := Tryz.sizeOf57
  v59 := Tryz.zeroValue57
  t146 := Tryz.underlying94
  a146 := Tryz.isAgg94
  z146 := Tryz.sizeOf94
  v146 := Tryz.zeroValue94
  g1 := by kernel_rfl }
open Go.RowKit Go.Lib in theorem Tryz.strings_Cut (s sep : ByteArray) (m : Int) (w : World) (hs : s.size < 4294967281) (hm : w.cell? ⟨3, 0, none⟩ = some (.int .i64 m)) :
    Calls Tryz.prog 36 #[.string s, .string sep] w fun e w' => e = .returned (.tuple #[.string ⟨(Lib.cut s.data.toList sep.data.toList).1.toArray⟩, .string ⟨(Lib.cut s.data.toList sep.data.toList).2.1.toArray⟩, .bool (Lib.cut s.data.toList sep.data.toList).2.2]) ∧ ∃ n, w' = w.drewN n := Any.strings_Cut Tryz.lays145 s sep m w hs hm
def Tryz.lays99_ren : Go.Shelf.Ren := ⟨fun | 99 => 54 | 206 => 50 | n => n, fun | 9 => 9 | 4 => 4 | 3 => 3 | n => n, fun | n => n⟩
theorem Tryz.lays99 : Go.Proofs.Lays.n99 Tryz.prog Tryz.lays99_ren := {
  mixed := by kernel_rfl
  f99 := Tryz.func54.trans (congrArg some (by kernel_rfl))
  f206 := Tryz.func50.trans (congrArg some (by kernel_rfl))
  t3 := Tryz.underlying3
  a3 := Tryz.isAgg3
  z3 := Tryz.sizeOf3
  v3 := Tryz.zeroValue3
  t4 := Tryz.underlying4
  a4 := Tryz.isAgg4
  z4 := Tryz.sizeOf4
  v4 := Tryz.zeroValue4
  t9 := Tryz.underlying9
  a9 := Tryz.isAgg9
  z9 := Tryz.sizeOf9
  v9 := Tryz.zeroValue9 }
open Go.RowKit Go.Lib in theorem Tryz.strings_HasPrefix (s p : ByteArray) (w : World) :
    Calls Tryz.prog 54 #[.string s, .string p] w fun e w' => e = .returned (.bool (Lib.hasPrefix s.data.toList p.data.toList)) ∧ w' = w := Any.strings_HasPrefix Tryz.lays99 s p w
def Tryz.lays101_ren : Go.Shelf.Ren := ⟨fun | 101 => 16 | 208 => 34 | 206 => 50 | n => n, fun | 9 => 9 | 4 => 4 | 3 => 3 | n => n, fun | n => n⟩
theorem Tryz.lays101 : Go.Proofs.Lays.n101 Tryz.prog Tryz.lays101_ren := {
  mixed := by kernel_rfl
  f101 := Tryz.func16.trans (congrArg some (by kernel_rfl))
  f206 := Tryz.func50.trans (congrArg some (by kernel_rfl))
  f208 := Tryz.func34.trans (congrArg some (by kernel_rfl))
  t3 := Tryz.underlying3
  a3 := Tryz.isAgg3
  z3 := Tryz.sizeOf3
  v3 := Tryz.zeroValue3
  t4 := Tryz.underlying4
  a4 := Tryz.isAgg4
  z4 := Tryz.sizeOf4
  v4 := Tryz.zeroValue4
  t9 := Tryz.underlying9
  a9 := Tryz.isAgg9
  z9 := Tryz.sizeOf9
  v9 := Tryz.zeroValue9 }
open Go.RowKit Go.Lib in theorem Tryz.strings_TrimPrefix (s p : ByteArray) (w : World) :
    Calls Tryz.prog 16 #[.string s, .string p] w fun e w' => e = .returned (.string ⟨(Lib.trimPrefix s.data.toList p.data.toList).toArray⟩) ∧ w' = w := Any.strings_TrimPrefix Tryz.lays101 s p w
def Tryz.lays102_ren : Go.Shelf.Ren := ⟨fun | 102 => 32 | 209 => 47 | 207 => 30 | n => n, fun | 9 => 9 | 4 => 4 | 3 => 3 | n => n, fun | n => n⟩
theorem Tryz.lays102 : Go.Proofs.Lays.n102 Tryz.prog Tryz.lays102_ren := {
  mixed := by kernel_rfl
  f102 := Tryz.func32.trans (congrArg some (by kernel_rfl))
  f207 := Tryz.func30.trans (congrArg some (by kernel_rfl))
  f209 := Tryz.func47.trans (congrArg some (by kernel_rfl))
  t3 := Tryz.underlying3
  a3 := Tryz.isAgg3
  z3 := Tryz.sizeOf3
  v3 := Tryz.zeroValue3
  t4 := Tryz.underlying4
  a4 := Tryz.isAgg4
  z4 := Tryz.sizeOf4
  v4 := Tryz.zeroValue4
  t9 := Tryz.underlying9
  a9 := Tryz.isAgg9
  z9 := Tryz.sizeOf9
  v9 := Tryz.zeroValue9 }
open Go.RowKit Go.Lib in theorem Tryz.strings_TrimSuffix (s p : ByteArray) (w : World) (hs : s.size ≤ 9223372036854775807) :
    Calls Tryz.prog 32 #[.string s, .string p] w fun e w' => e = .returned (.string ⟨(Lib.trimSuffix s.data.toList p.data.toList).toArray⟩) ∧ w' = w := Any.strings_TrimSuffix Tryz.lays102 s p w hs
def Tryz.lays146_ren : Go.Shelf.Ren := ⟨fun | 146 => 31 | 221 => 46 | 268 => 63 | 138 => 64 | 143 => 65 | 195 => 80 | 197 => 81 | 218 => 82 | 219 => 75 | 260 => 99 | 217 => 93 | 225 => 94 | 224 => 95 | 267 => 96 | 266 => 103 | 314 => 104 | n => n, fun | 9 => 9 | 31 => 28 | 3 => 3 | 4 => 4 | 0 => 0 | 105 => 100 | 21 => 21 | 5 => 5 | 46 => 66 | 119 => 122 | 139 => 125 | 138 => 124 | 146 => 94 | 51 => 93 | n => n, fun | 1 => 3 | 3 => 4 | 4 => 5 | n => n⟩
theorem Tryz.lays146 : Go.Proofs.Lays.n146 Tryz.prog Tryz.lays146_ren := {
  mixed := by kernel_rfl
  f138 := Tryz.func64.trans (congrArg some (by kernel_rfl))
  f143 := Tryz.func65.trans (congrArg some (by kernel_rfl))
  f146 := Tryz.func31.trans (congrArg some (by kernel_rfl))
  f195 := Tryz.func80.trans (congrArg some (by kernel_rfl))
  f197 := Tryz.func81.trans (congrArg some (by kernel_rfl))
  f217 := Tryz.func93.trans (congrArg some (by kernel_rfl))
  f218 := Tryz.func82.trans (congrArg some (by kernel_rfl))
  f219 := Tryz.func75.trans (congrArg some (by kernel_rfl))
  f221 := Tryz.func46.trans (congrArg some (by kernel_rfl))
  f224 := Tryz.func95.trans (congrArg some (by kernel_rfl))
  f225 := Tryz.func94.trans (congrArg some (by kernel_rfl))
  f260 := Tryz.func99.trans (congrArg some (by kernel_rfl))
  f266 := Tryz.func103.trans (congrArg some (by kernel_rfl))
  f267 := Tryz.func96.trans (congrArg some (by kernel_rfl))
  f268 := Tryz.func63.trans (congrArg some (by kernel_rfl))
  f314 := Tryz.func104.trans (congrArg some (by kernel_rfl))
  t0 := Tryz.underlying0
  a0 := Tryz.isAgg0
  z0 := Tryz.sizeOf0
  v0 := Tryz.zeroValue0
  t3 := Tryz.underlying3
  a3 := Tryz.isAgg3
  z3 := Tryz.sizeOf3
  v3 := Tryz.zeroValue3
  t4 := Tryz.underlying4
  a4 := Tryz.isAgg4
  z4 := Tryz.sizeOf4
  v4 := Tryz.zeroValue4
  t5 := Tryz.underlying5
  a5 := Tryz.isAgg5
  z5 := Tryz.sizeOf5
  v5 := Tryz.zeroValue5
  t9 := Tryz.underlying9
  a9 := Tryz.isAgg9
  z9 := Tryz.sizeOf9
  v9 := Tryz.zeroValue9
  t21 := Tryz.underlying21
  a21 := Tryz.isAgg21
  z21 := Tryz.sizeOf21
  v21 := Tryz.zeroValue21
  t31 := Tryz.underlying28
  a31 := Tryz.isAgg28
  z31 := Tryz.sizeOf28
  v31 := Tryz.zeroValue28
  t46 := Tryz.underlying66
  a46 := Tryz.isAgg66
  z46 := Tryz.sizeOf66
  v46 := Tryz.zeroValue66
  t51 := Tryz.underlying93
  a51 := Tryz.isAgg93
  z51 := Tryz.sizeOf93
  v51 := Tryz.zeroValue93
  t105 := Tryz.underlying100
  a105 := Tryz.isAgg100
  z105 := Tryz.sizeOf100
  v105 := Tryz.zeroValue100
  t119 := Tryz.underlying122
  a119 := Tryz.isAgg122
  z119 := Tryz.sizeOf122
  t138 := Tryz.underlying124
  a138 := Tryz.isAgg124
  z138 := Tryz.sizeOf124
  v138 := Tryz.zeroValue124
  t139 := Tryz.underlying125
  a139 := Tryz.isAgg125
  z139 := Tryz.sizeOf125
  v139 := Tryz.zeroValue125
  t146 := Tryz.underlying94
  a146 := Tryz.isAgg94
  z146 := Tryz.sizeOf94
  v146 := Tryz.zeroValue94
  g1 := by kernel_rfl
  g3 := by kernel_rfl
  g4 := by kernel_rfl }
open Go.RowKit Go.Lib in theorem Tryz.strings_Split (s sep : ByteArray) (m : Int) (w : World) (hs : s.size < 4294967281) (hm : w.cell? ⟨3, 0, none⟩ = some (.int .i64 m)) (h1 : 1 ≤ sep.size) :
    Calls Tryz.prog 31 #[.string s, .string sep] w fun e w' =>
      e = .returned (.slice (some ⟨w.heap.size, 0, none⟩) (Lib.countB s sep + 1) (Lib.countB s sep + 1)) ∧ w' = w.alloc (.cells ((Lib.splitB sep 0 (Lib.countB s sep) s).map Value.string).toArray 9) := Any.strings_Split Tryz.lays146 (by kernel_rfl) s sep m w hs hm h1
def Tryz.lays105_ren : Go.Shelf.Ren := ⟨fun | 105 => 38 | 212 => 53 | 99 => 54 | 165 => 55 | 166 => 56 | 170 => 57 | 169 => 58 | 263 => 76 | 264 => 77 | 206 => 50 | 240 => 78 | 241 => 79 | 276 => 97 | 277 => 98 | n => n, fun | 9 => 9 | 3 => 3 | 4 => 4 | 20 => 20 | 0 => 0 | 46 => 66 | 109 => 69 | 5 => 5 | 72 => 73 | 76 => 75 | 51 => 93 | 146 => 94 | 53 => 82 | 148 => 96 | 70 => 71 | 37 => 64 | 75 => 53 | 127 => 98 | 164 => 114 | 80 => 78 | n => n, fun | n => n⟩
theorem Tryz.lays105 : Go.Proofs.Lays.n105 Tryz.prog Tryz.lays105_ren := {
  mixed := by kernel_rfl
  f99 := Tryz.func54.trans (congrArg some (by kernel_rfl))
  f105 := Tryz.func38.trans (congrArg some (by kernel_rfl))
  f165 := Tryz.func55.trans (congrArg some (by kernel_rfl))
  f166 := Tryz.func56.trans (congrArg some (by kernel_rfl))
  f169 := Tryz.func58.trans (congrArg some (by kernel_rfl))
  f170 := Tryz.func57.trans (congrArg some (by kernel_rfl))
  f206 := Tryz.func50.trans (congrArg some (by kernel_rfl))
  f212 := Tryz.func53.trans (congrArg some (by kernel_rfl))
  f240 := Tryz.func78.trans (congrArg some (by kernel_rfl))
  f241 := Tryz.func79.trans (congrArg some (by kernel_rfl))
  f263 := Tryz.func76.trans (congrArg some (by kernel_rfl))
  f264 := Tryz.func77.trans (congrArg some (by kernel_rfl))
  f276 := Tryz.func97.trans (congrArg some (by kernel_rfl))
  f277 := Tryz.func98.trans (congrArg some (by kernel_rfl))
  t0 := Tryz.underlying0
  a0 := Tryz.isAgg0
  z0 := Tryz.sizeOf0
  v0 := Tryz.zeroValue0
  t3 := Tryz.underlying3
  a3 := Tryz.isAgg3
  z3 := Tryz.sizeOf3
  v3 := Tryz.zeroValue3
  t4 := Tryz.underlying4
  a4 := Tryz.isAgg4
  z4 := Tryz.sizeOf4
  v4 := Tryz.zeroValue4
  t5 := Tryz.underlying5
  a5 := Tryz.isAgg5
  z5 := Tryz.sizeOf5
  v5 := Tryz.zeroValue5
  t9 := Tryz.underlying9
  a9 := Tryz.isAgg9
  z9 := Tryz.sizeOf9
  v9 := Tryz.zeroValue9
  t20 := Tryz.underlying20
  a20 := Tryz.isAgg20
  z20 := Tryz.sizeOf20
  v20 := Tryz.zeroValue20
  t37 := Tryz.underlying64
  a37 := Tryz.isAgg64
  z37 := Tryz.sizeOf64
  v37 := Tryz.zeroValue64
  t46 := Tryz.underlying66
  a46 := Tryz.isAgg66
  z46 := Tryz.sizeOf66
  v46 := Tryz.zeroValue66
  t51 := Tryz.underlying93
  a51 := Tryz.isAgg93
  z51 := Tryz.sizeOf93
  v51 := Tryz.zeroValue93
  t53 := Tryz.underlying82
  a53 := Tryz.isAgg82
  z53 := Tryz.sizeOf82
  v53 := Tryz.zeroValue82
  t70 := Tryz.underlying71
  a70 := Tryz.isAgg71
  z70 := Tryz.sizeOf71
  v70 := Tryz.zeroValue71
  t72 := Tryz.underlying73
  a72 := Tryz.isAgg73
  z72 := Tryz.sizeOf73
  v72 := Tryz.zeroValue73
  t75 := Tryz.underlying53
  a75 := Tryz.isAgg53
  z75 := Tryz.sizeOf53
  v75 := Tryz.zeroValue53
  t76 := Tryz.underlying75
  a76 := Tryz.isAgg75
  z76 := Tryz.sizeOf75
  v76 := Tryz.zeroValue75
  t109 := Tryz.underlying69
  a109 := Tryz.isAgg69
  z109 := Tryz.sizeOf69
  v109 := Tryz.zeroValue69
  t127 := Tryz.underlying98
  a127 := Tryz.isAgg98
  z127 := Tryz.sizeOf98
  v127 := Tryz.zeroValue98
  t146 := Tryz.underlying94
  a146 := Tryz.isAgg94
  z146 := Tryz.sizeOf94
  v146 := Tryz.zeroValue94
  t148 := Tryz.underlying96
  a148 := Tryz.isAgg96
  z148 := Tryz.sizeOf96
  v148 := Tryz.zeroValue96
  t164 := Tryz.underlying114
  a164 := Tryz.isAgg114
  z164 := Tryz.sizeOf114
  v164 := Tryz.zeroValue114 }
theorem Tryz.Builder_Extra_105 : Builder.Extra Tryz.prog Tryz.lays105_ren := {
  sizeBuilder := by kernel_rfl
  liesBuilder := by kernel_rfl
  t5 := Tryz.underlying5
  a5 := Tryz.isAgg5
  z5 := Tryz.sizeOf5
  v5 := Tryz.zeroValue5
  infoByte := by kernel_rfl
  cellsByte := by kernel_rfl
  sizeByte := by kernel_rfl
  neB5 := by decide }
open Go.RowKit Go.Lib in theorem Tryz.strings_Repeat (s : ByteArray) (c : Nat) (w : World) (hc : c ≤ 9223372036854775807) (hlen : s.size * c ≤ 140737488355328) :
    Calls Tryz.prog 38 #[.string s, .int .i64 c] w fun e w' => e = .returned (.string ⟨(Lib.repeatL s.data.toList c).toArray⟩) ∧ Below w.heap.size w w' := Any.strings_Repeat Tryz.lays105 Tryz.Builder_Extra_105 s c w hc hlen
end Go.Proofs

/- Function 32 (strings.TrimSuffix): its contract, off what is known of the library. -/
set_option linter.unusedVariables false
set_option linter.unusedSimpArgs false
set_option maxRecDepth 100000
namespace Go.Proofs.YtcppjmlhilklcaaGreatDoor
open Go Go.Am Go.Proofs
def sig32 : List AT := [AT.v Ty.str, AT.v Ty.str]
def g32_0 (x0 x1 : ByteArray) : ByteArray := ⟨(Lib.trimSuffix x0.data.toList x1.data.toList).toArray⟩
def P32 (x0 x1 : ByteArray) : Prop := True
def S32 : Am.Spec := { sig := sig32, pre := fun ⟨x0, x1, _⟩ => P32 x0 x1, res := fun ⟨x0, x1, _⟩ => [⟨Ty.str, g32_0 x0 x1⟩] }
theorem con32 : Contract Tryz.prog 32 S32 := contract_flat rfl fun w ⟨x0, x1, _⟩ vs bss hg hp hw ha => by
  obtain ⟨v0, s0, _, _, rfl, _, ⟨_, rfl, _⟩, v1, s1, _, _, rfl, _, ⟨_, rfl, _⟩, rfl, _⟩ := ha
  have hi : x0.size ≤ maxLen := hw.1
  refine ⟨fun d hd => ?_, ?_⟩
  · rw [List.mem_singleton.1 hd]
    refine ⟨rfl, ?_⟩
    show (List.toArray _).size ≤ maxLen
    rw [List.size_toArray]
    have e : x0.data.toList.length = x0.size := rfl
    unfold Lib.trimSuffix
    split
    · rw [List.length_take]; omega
    · omega
  · refine (Tryz.strings_TrimSuffix x0 x1 w hi).mono ?_
    rintro e w' ⟨rfl, rfl⟩
    exact ⟨rfl, Kept.refl _ _⟩

end Go.Proofs.YtcppjmlhilklcaaGreatDoor

/- Function 31 (strings.Split): its contract, off what is known of the library. -/
set_option linter.unusedVariables false
set_option linter.unusedSimpArgs false
set_option maxRecDepth 100000
namespace Go.Proofs.YtcppjmlhilklcaaGreatDoor
open Go Go.Am Go.Proofs

def sig31 : List AT := [AT.v Ty.str, AT.v Ty.str]
def g31_0 (x0 x1 : ByteArray) : List ByteArray := Lib.splitB x1 0 (Lib.countB x0 x1) x0
def P31 (x0 x1 : ByteArray) : Prop := x0.size < 4294967281 ∧ 1 ≤ x1.size
def S31 : Am.Spec := { sig := sig31, pre := fun ⟨x0, x1, _⟩ => P31 x0 x1, res := fun ⟨x0, x1, _⟩ => [⟨Ty.sl Ty.str, g31_0 x0 x1⟩] }

theorem con31 : Contract Tryz.prog 31 S31 := by
  rintro w ⟨x0, x1, u⟩ vs bss hgo hp ⟨v0, s0, b0, bs0, rfl, rfl, ⟨rfl, rfl, _⟩, v1, s1, b1, bs1, rfl, rfl, ⟨rfl, rfl, _⟩, rfl, rfl⟩ hn
  obtain ⟨hs, h1⟩ : x0.size < 4294967281 ∧ 1 ≤ x1.size := hp
  obtain ⟨m, hm⟩ := maxLenG hgo.inv
  refine (Tryz.strings_Split x0 x1 m w hs hm h1).mono ?_
  rintro e w' ⟨rfl, rfl⟩
  have hlen : (g31_0 x0 x1).length = Lib.countB x0 x1 + 1 := Lib.splitB_all x1 h1 0 _ _ rfl
  have hle := Lib.countB_le x1 h1 x0.size x0 (Nat.le_refl _)
  have hparts : ∀ y ∈ g31_0 x0 x1, y.size ≤ maxLen := fun y hy => by
    have := splitB_part x1 0 _ _ y hy
    unfold maxLen; omega
  have e1 : ∀ xs : List ByteArray, fcs .str xs = xs.map Value.string := by
    intro xs
    induction xs with
    | nil => rfl
    | cons a r ih => unfold fcs at ih ⊢; rw [List.map_cons, List.flatten_cons, ih]; rfl
  have ho : OwnC (w.alloc (.cells ((g31_0 x0 x1).map Value.string).toArray 9)) (.sl .str) (g31_0 x0 x1) [.slice (some ⟨w.heap.size, 0, none⟩) (Lib.countB x0 x1 + 1) (Lib.countB x0 x1 + 1)] [w.heap.size] :=
    own_flat_mk rfl hparts hlen.symm (Nat.le_of_eq hlen) (by unfold maxLen; omega) (by rw [List.size_toArray, List.length_map, hlen]; simp [Ty.size]) (heap_new w _) (freeS_zero _ _) (fun j u hj => by
      rw [e1] at hj
      rw [Nat.zero_add, ← Array.getElem?_toList]
      exact hj)
  refine ⟨[_], [], [[w.heap.size]], rfl, (Kept.refl _ _).alloc _, ⟨_, _, _, _, _, rfl, rfl, ho, rfl, rfl, rfl⟩, ⟨rfl, rfl⟩, by simp, fun b hb hg => ?_⟩
  simp at hb
  have := hg.1
  omega

end Go.Proofs.YtcppjmlhilklcaaGreatDoor

/- Function 14 (impl.textLines): its runs between cut points. Written by a program of this repo (gen). -/
set_option linter.unusedVariables false
set_option linter.unusedSimpArgs false
set_option maxRecDepth 100000
namespace Go.Proofs.YtcppjmlhilklcaaGreatDoor
open Go Go.Am Go.Proofs
def ext14 : Ext := [(32, S32), (31, S31)]
theorem call14_32 : Callable Tryz.prog 32 := ⟨Tryz.f32, Tryz.func32, by kernel_rfl, by kernel_rfl⟩
theorem call14_31 : Callable Tryz.prog 31 := ⟨Tryz.f31, Tryz.func31, by kernel_rfl, by kernel_rfl⟩
theorem ext14Ok : ExtOk Tryz.prog ext14 := ⟨⟨call14_32, con32⟩, ⟨call14_31, con31⟩, trivial⟩
/-! Function 14. -/
noncomputable def b14 : Code := bodyOf Tryz.f14
theorem hb14 : Tryz.f14.body = some b14 := by kernel_rfl
def sig14 : List AT := [AT.v (Ty.str)]
def tys14 : List Ty := [Ty.sl Ty.str]
def P14 (x0 : ByteArray) : Prop := (if (ByteArray.toList x0 == ByteArray.toList (ByteArray.mk #[])) = true then True else ((P31 (g32_0 x0 (ByteArray.mk #[10])) (ByteArray.mk #[10])) ∧ True))
def g14_0 (x0 : ByteArray) : List ByteArray := (if (ByteArray.toList x0 == ByteArray.toList (ByteArray.mk #[])) = true then [] else g31_0 (g32_0 x0 (ByteArray.mk #[10])) (ByteArray.mk #[10]))
theorem p14_0 (x0 : ByteArray) : runF tab ext14 false 8 [] 2000 [] tys14 Tryz.f14.results [true] [.code b14] (entE 0 0 sig14 (x0, ())) (entL sig14 (x0, ())) = some ([Dyn.mk (Ty.sl Ty.str) []], [], [(ByteArray.toList x0 == ByteArray.toList (ByteArray.mk #[])) = Bool.true]) := by kernel_rfl
theorem p14_1 (x0 : ByteArray) : runF tab ext14 false 8 [] 2000 [] tys14 Tryz.f14.results [false] [.code b14] (entE 0 0 sig14 (x0, ())) (entL sig14 (x0, ())) = some ([Dyn.mk (Ty.sl Ty.str) (g31_0 (g32_0 x0 (ByteArray.mk #[10])) (ByteArray.mk #[10]))], [], [(ByteArray.toList x0 == ByteArray.toList (ByteArray.mk #[])) = Bool.false, True, P31 (g32_0 x0 (ByteArray.mk #[10])) (ByteArray.mk #[10])]) := by kernel_rfl
theorem at14 (x0 : ByteArray) (h : P14 x0) (w0 : World) (O : List Nat) (q : Nat → Value) : AtV Tryz.prog 14 (PostR [⟨Ty.sl Ty.str, g14_0 x0⟩] [] [] q w0 O) 8 w0 O q [] [.code b14] (entE 0 0 sig14 (x0, ())) (entL sig14 (x0, ())) := by
  unfold P14 at h
  unfold g14_0
  by_cases b0 : (ByteArray.toList x0 == ByteArray.toList (ByteArray.mk #[])) = true
  · try simp only [if_pos b0] at h ⊢
    exact AtV.fin Tryz.func14 tabOk ext14Ok mixed (p14_0 x0) ⟨b0, trivial⟩
  · try simp only [if_neg b0] at h ⊢
    replace b0 := Bool.eq_false_iff.2 b0
    obtain ⟨s0, h⟩ := h
    exact AtV.fin Tryz.func14 tabOk ext14Ok mixed (p14_1 x0) ⟨b0, trivial, s0, trivial⟩

def S14 : Am.Spec := { sig := sig14, pre := fun ⟨x0, _⟩ => P14 x0, res := fun ⟨x0, _⟩ => [⟨Ty.sl Ty.str, g14_0 x0⟩] }
theorem con14 : Contract Tryz.prog 14 S14 := contract_of Tryz.func14 hb14 (Nat.le_of_ble_eq_true (by kernel_rfl)) (fun ⟨x0, _⟩ h _ w0 O q => at14 x0 h w0 O q)


end Go.Proofs.YtcppjmlhilklcaaGreatDoor

/- Function 26 (spec.l00In): its runs between cut points. Written by a program of this repo (gen). -/
set_option linter.unusedVariables false
set_option linter.unusedSimpArgs false
set_option maxRecDepth 100000
namespace Go.Proofs.YtcppjmlhilklcaaGreatDoor
open Go Go.Am Go.Proofs
def ext26 : Ext := []
theorem ext26Ok : ExtOk Tryz.prog ext26 := trivial
/-! Function 26. -/
noncomputable def b26 : Code := bodyOf Tryz.f26
theorem hb26 : Tryz.f26.body = some b26 := by kernel_rfl
def sig26 : List AT := [AT.v (Ty.int IntKind.i64), AT.v (Ty.int IntKind.i64), AT.v (Ty.int IntKind.i64)]
def tys26 : List Ty := [Ty.bool]
def P26 (x0 : Int) (x1 : Int) (x2 : Int) : Prop := True
def g26_0 (x0 : Int) (x1 : Int) (x2 : Int) : Bool := (if (Decidable.decide (x0 ≥ x1)) = true then Decidable.decide (x0 ≤ x2) else Bool.false)
theorem p26_0 (x0 : Int) (x1 : Int) (x2 : Int) : runF tab ext26 false 15 [] 2000 [] tys26 Tryz.f26.results [true] [.code b26] (entE 0 0 sig26 (x0, x1, x2, ())) (entL sig26 (x0, x1, x2, ())) = some ([Dyn.mk Ty.bool (Decidable.decide (x0 ≤ x2))], [], [Decidable.decide (x0 ≥ x1) = Bool.true]) := by kernel_rfl
theorem p26_1 (x0 : Int) (x1 : Int) (x2 : Int) : runF tab ext26 false 15 [] 2000 [] tys26 Tryz.f26.results [false] [.code b26] (entE 0 0 sig26 (x0, x1, x2, ())) (entL sig26 (x0, x1, x2, ())) = some ([Dyn.mk Ty.bool Bool.false], [], [Decidable.decide (x0 ≥ x1) = Bool.false]) := by kernel_rfl
theorem at26 (x0 : Int) (x1 : Int) (x2 : Int) (h : P26 x0 x1 x2) (w0 : World) (O : List Nat) (q : Nat → Value) : AtV Tryz.prog 26 (PostR [⟨Ty.bool, g26_0 x0 x1 x2⟩] [] [] q w0 O) 15 w0 O q [] [.code b26] (entE 0 0 sig26 (x0, x1, x2, ())) (entL sig26 (x0, x1, x2, ())) := by
  unfold P26 at h
  unfold g26_0
  by_cases b0 : (Decidable.decide (x0 ≥ x1)) = true
  · try simp only [if_pos b0] at h ⊢
    exact AtV.fin Tryz.func26 tabOk ext26Ok mixed (p26_0 x0 x1 x2) ⟨b0, trivial⟩
  · try simp only [if_neg b0] at h ⊢
    replace b0 := Bool.eq_false_iff.2 b0
    exact AtV.fin Tryz.func26 tabOk ext26Ok mixed (p26_1 x0 x1 x2) ⟨b0, trivial⟩

def S26 : Am.Spec := { sig := sig26, pre := fun ⟨x0, x1, x2, _⟩ => P26 x0 x1 x2, res := fun ⟨x0, x1, x2, _⟩ => [⟨Ty.bool, g26_0 x0 x1 x2⟩] }
theorem con26 : Contract Tryz.prog 26 S26 := contract_of Tryz.func26 hb26 (Nat.le_of_ble_eq_true (by kernel_rfl)) (fun ⟨x0, x1, x2, _⟩ h _ w0 O q => at26 x0 x1 x2 h w0 O q)


end Go.Proofs.YtcppjmlhilklcaaGreatDoor

/- Function 24 (spec.l01Split): its runs between cut points. Written by a program of this repo (gen). -/
set_option linter.unusedVariables false
set_option linter.unusedSimpArgs false
set_option maxRecDepth 100000
namespace Go.Proofs.YtcppjmlhilklcaaGreatDoor
open Go Go.Am Go.Proofs
def ext24 : Ext := []
theorem ext24Ok : ExtOk Tryz.prog ext24 := trivial
/-! Function 24. -/
noncomputable def b24 : Code := bodyOf Tryz.f24
theorem hb24 : Tryz.f24.body = some b24 := by kernel_rfl
def sig24 : List AT := [AT.v (Ty.str), AT.v (Ty.int IntKind.u8)]
def tys24 : List Ty := [Ty.sl Ty.str]
def E24_4 (v6 : Int) (v7 : Int) (h0 : List ByteArray) (x0 : ByteArray) (x1 : Int) : Env := [(0, PV.a (Atom.val (Value.string x0))), (1, PV.a (Atom.val (Value.int IntKind.u8 x1))), (5, PV.a (Atom.osl 0 Option.none)), (6, PV.a (Atom.val (Value.int IntKind.i64 v6))), (7, PV.a (Atom.val (Value.int IntKind.i64 v7)))]
def L24_4 (v6 : Int) (v7 : Int) (h0 : List ByteArray) (x0 : ByteArray) (x1 : Int) : Heap := [Option.some (Arr.mk Ty.str h0 Bool.false)]
mutual
def R24 : Nat → ByteArray → Int → List Dyn → Prop
  | 0, _, _, _ => False
  | n + 1, x0, x1, ds => (R24_4 n (0) (0) ([]) (x0) (x1) ds)
def R24_4 : Nat → Int → Int → List ByteArray → ByteArray → Int → List Dyn → Prop
  | 0, _, _, _, _, _, _ => False
  | n + 1, v6, v7, h0, x0, x1, ds => (if (Decidable.decide (v7 < (↑(ByteArray.size x0) : Int))) = true then ((0 ≤ v7) ∧ (v7 < (↑(ByteArray.size x0) : Int)) ∧ (if ((↑(UInt8.toNat (List.getD (Array.toList (ByteArray.data x0)) (Int.toNat v7) 0)) : Int) == x1) = true then ((0 ≤ v6) ∧ (v6 ≤ v7) ∧ (v7 ≤ (↑(ByteArray.size x0) : Int)) ∧ (((List.length h0 + 1) * 16 ≤ 140737488355328) ∧ ((InR IntKind.i64 (v7 + 1)) ∧ ((InR IntKind.i64 (v7 + 1)) ∧ (R24_4 n (v7 + 1) (v7 + 1) (h0 ++ [ByteArray.extract x0 (Int.toNat v6) (Int.toNat v7)]) (x0) (x1) ds))))) else ((InR IntKind.i64 (v7 + 1)) ∧ (R24_4 n (v6) (v7 + 1) (h0) (x0) (x1) ds)))) else ((0 ≤ v6) ∧ (v6 ≤ (↑(ByteArray.size x0) : Int)) ∧ (((List.length h0 + 1) * 16 ≤ 140737488355328) ∧ (ds = [Dyn.mk (Ty.sl Ty.str) (h0 ++ [ByteArray.extract x0 (Int.toNat v6) (Int.toNat (↑(ByteArray.size x0) : Int))])]))))
end
theorem p24_0 (x0 : ByteArray) (x1 : Int) : Am.runN tab ext24 false 35 [] 2000 [] [] [0, 1, 5, 6, 7] [0] [] [.code b24] (entE 0 0 sig24 (x0, x1, ())) (entL sig24 (x0, x1, ())) = some (cutAt b24 4, E24_4 (0) (0) ([]) (x0) (x1), L24_4 (0) (0) ([]) (x0) (x1), []) := by kernel_rfl
theorem p24_1 (v6 : Int) (v7 : Int) (h0 : List ByteArray) (x0 : ByteArray) (x1 : Int) : Am.runN tab ext24 false 35 [] 2000 [] [] [0, 1, 5, 6, 7] [0] [true, true] (cutAt b24 4) (E24_4 v6 v7 h0 x0 x1) (L24_4 v6 v7 h0 x0 x1) = some (cutAt b24 4, E24_4 (v7 + 1) (v7 + 1) (h0 ++ [ByteArray.extract x0 (Int.toNat v6) (Int.toNat v7)]) (x0) (x1), L24_4 (v7 + 1) (v7 + 1) (h0 ++ [ByteArray.extract x0 (Int.toNat v6) (Int.toNat v7)]) (x0) (x1), [Decidable.decide (v7 < (↑(ByteArray.size x0) : Int)) = Bool.true, 0 ≤ v7, v7 < (↑(ByteArray.size x0) : Int), ((↑(UInt8.toNat (List.getD (Array.toList (ByteArray.data x0)) (Int.toNat v7) 0)) : Int) == x1) = Bool.true, 0 ≤ v6, v6 ≤ v7, v7 ≤ (↑(ByteArray.size x0) : Int), (List.length h0 + 1) * 16 ≤ 140737488355328, InR IntKind.i64 (v7 + 1), InR IntKind.i64 (v7 + 1)]) := by kernel_rfl
theorem p24_2 (v6 : Int) (v7 : Int) (h0 : List ByteArray) (x0 : ByteArray) (x1 : Int) : Am.runN tab ext24 false 35 [] 2000 [] [] [0, 1, 5, 6, 7] [0] [true, false] (cutAt b24 4) (E24_4 v6 v7 h0 x0 x1) (L24_4 v6 v7 h0 x0 x1) = some (cutAt b24 4, E24_4 (v6) (v7 + 1) (h0) (x0) (x1), L24_4 (v6) (v7 + 1) (h0) (x0) (x1), [Decidable.decide (v7 < (↑(ByteArray.size x0) : Int)) = Bool.true, 0 ≤ v7, v7 < (↑(ByteArray.size x0) : Int), ((↑(UInt8.toNat (List.getD (Array.toList (ByteArray.data x0)) (Int.toNat v7) 0)) : Int) == x1) = Bool.false, InR IntKind.i64 (v7 + 1)]) := by kernel_rfl
theorem p24_3 (v6 : Int) (v7 : Int) (h0 : List ByteArray) (x0 : ByteArray) (x1 : Int) : runF tab ext24 false 35 [] 2000 [] tys24 Tryz.f24.results [false] (cutAt b24 4) (E24_4 v6 v7 h0 x0 x1) (L24_4 v6 v7 h0 x0 x1) = some ([Dyn.mk (Ty.sl Ty.str) (h0 ++ [ByteArray.extract x0 (Int.toNat v6) (Int.toNat (↑(ByteArray.size x0) : Int))])], [], [Decidable.decide (v7 < (↑(ByteArray.size x0) : Int)) = Bool.false, 0 ≤ v6, v6 ≤ (↑(ByteArray.size x0) : Int), (List.length h0 + 1) * 16 ≤ 140737488355328]) := by kernel_rfl
theorem snd24 : ∀ n, (∀ (x0 : ByteArray) (x1 : Int) ds, R24 n x0 x1 ds → ∀ w0 O q, AtV Tryz.prog 24 (PostR ds [] [] q w0 O) 35 w0 O q [] [.code b24] (entE 0 0 sig24 (x0, x1, ())) (entL sig24 (x0, x1, ()))) ∧ (∀ (v6 : Int) (v7 : Int) (h0 : List ByteArray) (x0 : ByteArray) (x1 : Int) ds, R24_4 n v6 v7 h0 x0 x1 ds → ∀ w0 O q, AtV Tryz.prog 24 (PostR ds [] [] q w0 O) 35 w0 O q [] (cutAt b24 4) (E24_4 v6 v7 h0 x0 x1) (L24_4 v6 v7 h0 x0 x1)) := by
  intro n
  induction n with
  | zero => exact ⟨fun _ _ _ h => by simp only [R24] at h, fun _ _ _ _ _ _ h => by simp only [R24_4] at h⟩
  | succ n ih =>
  obtain ⟨ih, ih4⟩ := ih
  refine ⟨?_, ?_⟩
  · intro x0 x1 ds h w0 O q
    rw [R24] at h
    exact AtV.runN tabOk ext24Ok mixed (p24_0 x0 x1) trivial (ih4 _ _ _ _ _ _ h w0 O q)

  · intro v6 v7 h0 x0 x1 ds h w0 O q
    rw [R24_4] at h
    by_cases b0 : (Decidable.decide (v7 < (↑(ByteArray.size x0) : Int))) = true
    · rw [if_pos b0] at h
      obtain ⟨s0, s1, h⟩ := h
      by_cases b1 : ((↑(UInt8.toNat (List.getD (Array.toList (ByteArray.data x0)) (Int.toNat v7) 0)) : Int) == x1) = true
      · rw [if_pos b1] at h
        obtain ⟨s2, s3, s4, h⟩ := h
        obtain ⟨s5, h⟩ := h
        obtain ⟨s6, h⟩ := h
        obtain ⟨s7, h⟩ := h
        exact AtV.runN tabOk ext24Ok mixed (p24_1 v6 v7 h0 x0 x1) ⟨b0, s0, s1, b1, s2, s3, s4, s5, s6, s7, trivial⟩ (ih4 _ _ _ _ _ _ h w0 O q)
      · rw [if_neg b1] at h
        replace b1 := Bool.eq_false_iff.2 b1
        obtain ⟨s2, h⟩ := h
        exact AtV.runN tabOk ext24Ok mixed (p24_2 v6 v7 h0 x0 x1) ⟨b0, s0, s1, b1, s2, trivial⟩ (ih4 _ _ _ _ _ _ h w0 O q)
    · rw [if_neg b0] at h
      replace b0 := Bool.eq_false_iff.2 b0
      obtain ⟨s0, s1, h⟩ := h
      obtain ⟨s2, h⟩ := h
      subst h
      exact AtV.fin Tryz.func24 tabOk ext24Ok mixed (p24_3 v6 v7 h0 x0 x1) ⟨b0, s0, s1, s2, trivial⟩



def c24 (x1 : Int) : UInt8 := UInt8.ofNat x1.toNat
def g24_0 (x0 : ByteArray) (x1 : Int) : List ByteArray := bss (splitC (c24 x1) x0.data.toList)
def P24 (x0 : ByteArray) (x1 : Int) : Prop := x0.size < 4294967281 ∧ 0 ≤ x1 ∧ x1 ≤ 255

theorem run24 (x0 : ByteArray) (x1 : Int) (hs : x0.size < 4294967281) (h0 : 0 ≤ x1) (h1 : x1 ≤ 255) : ∀ (k i frm : Nat) (h : List ByteArray), i + k = x0.size → frm ≤ i → c24 x1 ∉ (x0.data.toList.drop frm).take (i - frm) → h.length ≤ i →
    R24_4 (k + 1) (frm : Int) (i : Int) h x0 x1 [⟨.sl .str, h ++ bss (splitC (c24 x1) (x0.data.toList.drop frm))⟩] := by
  intro k
  have hll : x0.data.toList.length = x0.size := rfl
  induction k with
  | zero =>
    intro i frm h hi hf hc hl
    rw [R24_4, if_neg (by simp; omega)]
    refine ⟨by omega, by omega, by omega, ?_⟩
    have e : (x0.data.toList.drop frm).take (i - frm) = x0.data.toList.drop frm := List.take_of_length_le (by rw [List.length_drop]; omega)
    rw [e] at hc
    rw [splitC_free _ hc, Int.toNat_natCast, Int.toNat_natCast, Lib.extract_from]
    rfl
  | succ k ih =>
    intro i frm h hi hf hc hl
    have hup : InR .i64 ((i : Int) + 1) := by rw [i64_iff]; omega
    have hlt : i < x0.data.toList.length := by rw [hll]; omega
    have hcons : x0.data.toList.drop i = x0.data.toList.getD i 0 :: x0.data.toList.drop (i + 1) := drop_get _ i 0 hlt
    have hsplit : x0.data.toList.drop frm = (x0.data.toList.drop frm).take (i - frm) ++ x0.data.toList.drop i := by
      conv => lhs; rw [← List.take_append_drop (i - frm) (x0.data.toList.drop frm)]
      rw [List.drop_drop, show frm + (i - frm) = i by omega]
    rw [R24_4, if_pos (by simp; omega)]
    simp only [Int.toNat_natCast]
    refine ⟨by omega, by omega, ?_⟩
    have hb : (((x0.data.toList.getD i 0).toNat : Int) == x1) = true ↔ x0.data.toList.getD i 0 = c24 x1 := by
      have hlt' := (x0.data.toList.getD i 0).toNat_lt
      rw [beq_iff_eq, ← UInt8.toNat_inj]
      unfold c24
      have : (UInt8.ofNat x1.toNat).toNat = x1.toNat := by rw [UInt8.toNat_ofNat']; omega
      rw [this]
      omega
    by_cases he : x0.data.toList.getD i 0 = c24 x1
    · rw [if_pos (hb.2 he)]
      refine ⟨by omega, by omega, by omega, by omega, hup, hup, ?_⟩
      have := ih (i + 1) (i + 1) (h ++ [x0.extract frm i]) (by omega) (Nat.le_refl _) (by simp) (by simp; omega)
      have e2 : x0.extract frm i = ⟨((x0.data.toList.drop frm).take (i - frm)).toArray⟩ := Lib.extract_mk x0.data.toList frm i
      have e3 : splitC (c24 x1) (x0.data.toList.drop frm) = (x0.data.toList.drop frm).take (i - frm) :: splitC (c24 x1) (x0.data.toList.drop (i + 1)) := by
        conv => lhs; rw [hsplit, hcons, he]
        exact splitC_hit _ _ hc
      rw [e3, e2]
      rw [List.append_assoc, e2] at this
      exact this
    · rw [if_neg (fun hh => he (hb.1 hh))]
      refine ⟨hup, ?_⟩
      refine ih (i + 1) frm h (by omega) (by omega) (fun hm => ?_) (by omega)
      have e4 : (x0.data.toList.drop frm).take (i + 1 - frm) = (x0.data.toList.drop frm).take (i - frm) ++ [x0.data.toList.getD i 0] := by
        conv => lhs; rw [hsplit, hcons]
        rw [List.take_append, List.take_of_length_le (by rw [List.length_take, List.length_drop]; omega)]
        have : i + 1 - frm - ((x0.data.toList.drop frm).take (i - frm)).length = 1 := by rw [List.length_take, List.length_drop]; omega
        rw [this]
        rfl
      rw [e4] at hm
      rcases List.mem_append.1 hm with hm | hm
      · exact hc hm
      · exact he (List.mem_singleton.1 hm).symm

theorem top24 (x0 : ByteArray) (x1 : Int) (h : P24 x0 x1) : R24 (x0.size + 1 + 1) x0 x1 [⟨.sl .str, g24_0 x0 x1⟩] := by
  rw [R24]
  have := run24 x0 x1 h.1 h.2.1 h.2.2 x0.size 0 0 [] (by omega) (Nat.le_refl _) (by simp) (by simp)
  simpa [g24_0] using this

def S24 : Am.Spec := { sig := sig24, pre := fun ⟨x0, x1, _⟩ => P24 x0 x1, res := fun ⟨x0, x1, _⟩ => [⟨.sl .str, g24_0 x0 x1⟩] }
theorem con24 : Contract Tryz.prog 24 S24 := contract_of Tryz.func24 hb24 (Nat.le_of_ble_eq_true (by kernel_rfl)) (fun ⟨x0, x1, _⟩ h hwf w0 O q =>
  (snd24 _).1 x0 x1 _ (top24 x0 x1 h) w0 O q)

end Go.Proofs.YtcppjmlhilklcaaGreatDoor

/- Function 43 (spec.l01Digit): its runs between cut points. Written by a program of this repo (gen). -/
set_option linter.unusedVariables false
set_option linter.unusedSimpArgs false
set_option maxRecDepth 100000
namespace Go.Proofs.YtcppjmlhilklcaaGreatDoor
open Go Go.Am Go.Proofs
def ext43 : Ext := []
theorem ext43Ok : ExtOk Tryz.prog ext43 := trivial
/-! Function 43. -/
noncomputable def b43 : Code := bodyOf Tryz.f43
theorem hb43 : Tryz.f43.body = some b43 := by kernel_rfl
def sig43 : List AT := [AT.v (Ty.int IntKind.u8)]
def tys43 : List Ty := [Ty.bool]
def P43 (x0 : Int) : Prop := True
def g43_0 (x0 : Int) : Bool := (if (Decidable.decide (x0 ≥ 48)) = true then Decidable.decide (x0 ≤ 57) else Bool.false)
theorem p43_0 (x0 : Int) : runF tab ext43 false 9 [] 2000 [] tys43 Tryz.f43.results [true] [.code b43] (entE 0 0 sig43 (x0, ())) (entL sig43 (x0, ())) = some ([Dyn.mk Ty.bool (Decidable.decide (x0 ≤ 57))], [], [Decidable.decide (x0 ≥ 48) = Bool.true]) := by kernel_rfl
theorem p43_1 (x0 : Int) : runF tab ext43 false 9 [] 2000 [] tys43 Tryz.f43.results [false] [.code b43] (entE 0 0 sig43 (x0, ())) (entL sig43 (x0, ())) = some ([Dyn.mk Ty.bool Bool.false], [], [Decidable.decide (x0 ≥ 48) = Bool.false]) := by kernel_rfl
theorem at43 (x0 : Int) (h : P43 x0) (w0 : World) (O : List Nat) (q : Nat → Value) : AtV Tryz.prog 43 (PostR [⟨Ty.bool, g43_0 x0⟩] [] [] q w0 O) 9 w0 O q [] [.code b43] (entE 0 0 sig43 (x0, ())) (entL sig43 (x0, ())) := by
  unfold P43 at h
  unfold g43_0
  by_cases b0 : (Decidable.decide (x0 ≥ 48)) = true
  · try simp only [if_pos b0] at h ⊢
    exact AtV.fin Tryz.func43 tabOk ext43Ok mixed (p43_0 x0) ⟨b0, trivial⟩
  · try simp only [if_neg b0] at h ⊢
    replace b0 := Bool.eq_false_iff.2 b0
    exact AtV.fin Tryz.func43 tabOk ext43Ok mixed (p43_1 x0) ⟨b0, trivial⟩

def S43 : Am.Spec := { sig := sig43, pre := fun ⟨x0, _⟩ => P43 x0, res := fun ⟨x0, _⟩ => [⟨Ty.bool, g43_0 x0⟩] }
theorem con43 : Contract Tryz.prog 43 S43 := contract_of Tryz.func43 hb43 (Nat.le_of_ble_eq_true (by kernel_rfl)) (fun ⟨x0, _⟩ h _ w0 O q => at43 x0 h w0 O q)


end Go.Proofs.YtcppjmlhilklcaaGreatDoor

/- Function 25 (spec.l01Number): its runs between cut points. Written by a program of this repo (gen). -/
set_option linter.unusedVariables false
set_option linter.unusedSimpArgs false
set_option maxRecDepth 100000
namespace Go.Proofs.YtcppjmlhilklcaaGreatDoor
open Go Go.Am Go.Proofs
def ext25 : Ext := [(43, S43)]
theorem call25_43 : Callable Tryz.prog 43 := ⟨Tryz.f43, Tryz.func43, by kernel_rfl, by kernel_rfl⟩
theorem ext25Ok : ExtOk Tryz.prog ext25 := ⟨⟨call25_43, con43⟩, trivial⟩
/-! Function 25. -/
noncomputable def b25 : Code := bodyOf Tryz.f25
theorem hb25 : Tryz.f25.body = some b25 := by kernel_rfl
def sig25 : List AT := [AT.v (Ty.str)]
def tys25 : List Ty := [Ty.int IntKind.i64, Ty.bool]
def E25_8 (v4 : Int) (v5 : Int) (v6 : Int) (x0 : ByteArray) : Env := [(0, PV.a (Atom.val (Value.string x0))), (4, PV.a (Atom.val (Value.int IntKind.i64 v4))), (5, PV.a (Atom.val (Value.int IntKind.i64 v5))), (6, PV.a (Atom.val (Value.int IntKind.i64 v6)))]
def L25_8 (v4 : Int) (v5 : Int) (v6 : Int) (x0 : ByteArray) : Heap := []
mutual
def R25 : Nat → ByteArray → List Dyn → Prop
  | 0, _, _ => False
  | n + 1, x0, ds => (if (Decidable.decide ((↑(ByteArray.size x0) : Int) > 0)) = true then ((0 < (↑(ByteArray.size x0) : Int)) ∧ (if ((↑(UInt8.toNat (List.getD (Array.toList (ByteArray.data x0)) 0 0)) : Int) == 45) = true then (if ((↑(ByteArray.size x0) : Int) == 1) = true then (ds = [Dyn.mk (Ty.int IntKind.i64) 0, Dyn.mk Ty.bool Bool.false]) else ((InR IntKind.i64 ((↑(ByteArray.size x0) : Int) - 1)) ∧ (if (Decidable.decide ((↑(ByteArray.size x0) : Int) - 1 > 18)) = true then (ds = [Dyn.mk (Ty.int IntKind.i64) 0, Dyn.mk Ty.bool Bool.false]) else ((1 < (↑(ByteArray.size x0) : Int)) ∧ (if ((↑(UInt8.toNat (List.getD (Array.toList (ByteArray.data x0)) 1 0)) : Int) == 48) = true then (if (Decidable.decide ((↑(ByteArray.size x0) : Int) > 1)) = true then (ds = [Dyn.mk (Ty.int IntKind.i64) 0, Dyn.mk Ty.bool Bool.false]) else (R25_8 n (1) (0) (1) (x0) ds)) else (R25_8 n (1) (0) (1) (x0) ds)))))) else (if ((↑(ByteArray.size x0) : Int) == 0) = true then (ds = [Dyn.mk (Ty.int IntKind.i64) 0, Dyn.mk Ty.bool Bool.false]) else ((InR IntKind.i64 ((↑(ByteArray.size x0) : Int) - 0)) ∧ (if (Decidable.decide ((↑(ByteArray.size x0) : Int) - 0 > 18)) = true then (ds = [Dyn.mk (Ty.int IntKind.i64) 0, Dyn.mk Ty.bool Bool.false]) else ((0 < (↑(ByteArray.size x0) : Int)) ∧ (if ((↑(UInt8.toNat (List.getD (Array.toList (ByteArray.data x0)) 0 0)) : Int) == 48) = true then (if (Decidable.decide ((↑(ByteArray.size x0) : Int) > 1)) = true then (ds = [Dyn.mk (Ty.int IntKind.i64) 0, Dyn.mk Ty.bool Bool.false]) else (R25_8 n (0) (0) (0) (x0) ds)) else (R25_8 n (0) (0) (0) (x0) ds)))))))) else (if ((↑(ByteArray.size x0) : Int) == 0) = true then (ds = [Dyn.mk (Ty.int IntKind.i64) 0, Dyn.mk Ty.bool Bool.false]) else ((InR IntKind.i64 ((↑(ByteArray.size x0) : Int) - 0)) ∧ (if (Decidable.decide ((↑(ByteArray.size x0) : Int) - 0 > 18)) = true then (ds = [Dyn.mk (Ty.int IntKind.i64) 0, Dyn.mk Ty.bool Bool.false]) else ((0 < (↑(ByteArray.size x0) : Int)) ∧ (if ((↑(UInt8.toNat (List.getD (Array.toList (ByteArray.data x0)) 0 0)) : Int) == 48) = true then (if (Decidable.decide ((↑(ByteArray.size x0) : Int) > 1)) = true then (ds = [Dyn.mk (Ty.int IntKind.i64) 0, Dyn.mk Ty.bool Bool.false]) else (R25_8 n (0) (0) (0) (x0) ds)) else (R25_8 n (0) (0) (0) (x0) ds)))))))
def R25_8 : Nat → Int → Int → Int → ByteArray → List Dyn → Prop
  | 0, _, _, _, _, _ => False
  | n + 1, v4, v5, v6, x0, ds => (if (Decidable.decide (v6 < (↑(ByteArray.size x0) : Int))) = true then ((0 ≤ v6) ∧ (v6 < (↑(ByteArray.size x0) : Int)) ∧ (if (!g43_0 (↑(UInt8.toNat (List.getD (Array.toList (ByteArray.data x0)) (Int.toNat v6) 0)) : Int)) = true then (ds = [Dyn.mk (Ty.int IntKind.i64) 0, Dyn.mk Ty.bool Bool.false]) else ((InR IntKind.i64 (10 * v5)) ∧ ((0 ≤ v6) ∧ (v6 < (↑(ByteArray.size x0) : Int)) ∧ ((InR IntKind.u8 ((↑(UInt8.toNat (List.getD (Array.toList (ByteArray.data x0)) (Int.toNat v6) 0)) : Int) - 48)) ∧ ((InR IntKind.i64 ((↑(UInt8.toNat (List.getD (Array.toList (ByteArray.data x0)) (Int.toNat v6) 0)) : Int) - 48)) ∧ ((InR IntKind.i64 (10 * v5 + ((↑(UInt8.toNat (List.getD (Array.toList (ByteArray.data x0)) (Int.toNat v6) 0)) : Int) - 48))) ∧ ((InR IntKind.i64 (v6 + 1)) ∧ (R25_8 n (v4) (10 * v5 + ((↑(UInt8.toNat (List.getD (Array.toList (ByteArray.data x0)) (Int.toNat v6) 0)) : Int) - 48)) (v6 + 1) (x0) ds))))))))) else (if (v4 == 1) = true then ((InR IntKind.i64 (0 - v5)) ∧ (ds = [Dyn.mk (Ty.int IntKind.i64) (0 - v5), Dyn.mk Ty.bool Bool.true])) else (ds = [Dyn.mk (Ty.int IntKind.i64) v5, Dyn.mk Ty.bool Bool.true])))
end
theorem p25_0 (x0 : ByteArray) : runF tab ext25 false 62 [] 2000 [] tys25 Tryz.f25.results [true, true, true, true, true] [.code b25] (entE 0 0 sig25 (x0, ())) (entL sig25 (x0, ())) = some ([Dyn.mk (Ty.int IntKind.i64) 0, Dyn.mk Ty.bool Bool.false], [], [Decidable.decide ((↑(ByteArray.size x0) : Int) > 0) = Bool.true, (0 : Int) ≤ (0 : Int), 0 < (↑(ByteArray.size x0) : Int), ((↑(UInt8.toNat (List.getD (Array.toList (ByteArray.data x0)) 0 0)) : Int) == 45) = Bool.true, ((↑(ByteArray.size x0) : Int) == 1) = Bool.true, Bool.true = Bool.true, Bool.true = Bool.true]) := by kernel_rfl
theorem p25_1 (x0 : ByteArray) : runF tab ext25 false 62 [] 2000 [] tys25 Tryz.f25.results [true, true, false, true, true] [.code b25] (entE 0 0 sig25 (x0, ())) (entL sig25 (x0, ())) = some ([Dyn.mk (Ty.int IntKind.i64) 0, Dyn.mk Ty.bool Bool.false], [], [Decidable.decide ((↑(ByteArray.size x0) : Int) > 0) = Bool.true, (0 : Int) ≤ (0 : Int), 0 < (↑(ByteArray.size x0) : Int), ((↑(UInt8.toNat (List.getD (Array.toList (ByteArray.data x0)) 0 0)) : Int) == 45) = Bool.true, ((↑(ByteArray.size x0) : Int) == 1) = Bool.false, InR IntKind.i64 ((↑(ByteArray.size x0) : Int) - 1), Decidable.decide ((↑(ByteArray.size x0) : Int) - 1 > 18) = Bool.true, Bool.true = Bool.true]) := by kernel_rfl
theorem p25_2 (x0 : ByteArray) : runF tab ext25 false 62 [] 2000 [] tys25 Tryz.f25.results [true, true, false, false, true, true] [.code b25] (entE 0 0 sig25 (x0, ())) (entL sig25 (x0, ())) = some ([Dyn.mk (Ty.int IntKind.i64) 0, Dyn.mk Ty.bool Bool.false], [], [Decidable.decide ((↑(ByteArray.size x0) : Int) > 0) = Bool.true, (0 : Int) ≤ (0 : Int), 0 < (↑(ByteArray.size x0) : Int), ((↑(UInt8.toNat (List.getD (Array.toList (ByteArray.data x0)) 0 0)) : Int) == 45) = Bool.true, ((↑(ByteArray.size x0) : Int) == 1) = Bool.false, InR IntKind.i64 ((↑(ByteArray.size x0) : Int) - 1), Decidable.decide ((↑(ByteArray.size x0) : Int) - 1 > 18) = Bool.false, (0 : Int) ≤ (1 : Int), 1 < (↑(ByteArray.size x0) : Int), ((↑(UInt8.toNat (List.getD (Array.toList (ByteArray.data x0)) 1 0)) : Int) == 48) = Bool.true, Decidable.decide ((↑(ByteArray.size x0) : Int) > 1) = Bool.true]) := by kernel_rfl
theorem p25_3 (x0 : ByteArray) : Am.runN tab ext25 false 62 [] 2000 [] [] [0, 4, 5, 6] [] [true, true, false, false, true, false] [.code b25] (entE 0 0 sig25 (x0, ())) (entL sig25 (x0, ())) = some (cutAt b25 8, E25_8 (1) (0) (1) (x0), L25_8 (1) (0) (1) (x0), [Decidable.decide ((↑(ByteArray.size x0) : Int) > 0) = Bool.true, (0 : Int) ≤ (0 : Int), 0 < (↑(ByteArray.size x0) : Int), ((↑(UInt8.toNat (List.getD (Array.toList (ByteArray.data x0)) 0 0)) : Int) == 45) = Bool.true, ((↑(ByteArray.size x0) : Int) == 1) = Bool.false, InR IntKind.i64 ((↑(ByteArray.size x0) : Int) - 1), Decidable.decide ((↑(ByteArray.size x0) : Int) - 1 > 18) = Bool.false, (0 : Int) ≤ (1 : Int), 1 < (↑(ByteArray.size x0) : Int), ((↑(UInt8.toNat (List.getD (Array.toList (ByteArray.data x0)) 1 0)) : Int) == 48) = Bool.true, Decidable.decide ((↑(ByteArray.size x0) : Int) > 1) = Bool.false]) := by kernel_rfl
theorem p25_4 (x0 : ByteArray) : Am.runN tab ext25 false 62 [] 2000 [] [] [0, 4, 5, 6] [] [true, true, false, false, false, false] [.code b25] (entE 0 0 sig25 (x0, ())) (entL sig25 (x0, ())) = some (cutAt b25 8, E25_8 (1) (0) (1) (x0), L25_8 (1) (0) (1) (x0), [Decidable.decide ((↑(ByteArray.size x0) : Int) > 0) = Bool.true, (0 : Int) ≤ (0 : Int), 0 < (↑(ByteArray.size x0) : Int), ((↑(UInt8.toNat (List.getD (Array.toList (ByteArray.data x0)) 0 0)) : Int) == 45) = Bool.true, ((↑(ByteArray.size x0) : Int) == 1) = Bool.false, InR IntKind.i64 ((↑(ByteArray.size x0) : Int) - 1), Decidable.decide ((↑(ByteArray.size x0) : Int) - 1 > 18) = Bool.false, (0 : Int) ≤ (1 : Int), 1 < (↑(ByteArray.size x0) : Int), ((↑(UInt8.toNat (List.getD (Array.toList (ByteArray.data x0)) 1 0)) : Int) == 48) = Bool.false, Bool.false = Bool.false]) := by kernel_rfl
theorem p25_5 (x0 : ByteArray) : runF tab ext25 false 62 [] 2000 [] tys25 Tryz.f25.results [true, false, true, true, true] [.code b25] (entE 0 0 sig25 (x0, ())) (entL sig25 (x0, ())) = some ([Dyn.mk (Ty.int IntKind.i64) 0, Dyn.mk Ty.bool Bool.false], [], [Decidable.decide ((↑(ByteArray.size x0) : Int) > 0) = Bool.true, (0 : Int) ≤ (0 : Int), 0 < (↑(ByteArray.size x0) : Int), ((↑(UInt8.toNat (List.getD (Array.toList (ByteArray.data x0)) 0 0)) : Int) == 45) = Bool.false, ((↑(ByteArray.size x0) : Int) == 0) = Bool.true, Bool.true = Bool.true, Bool.true = Bool.true]) := by kernel_rfl
theorem p25_6 (x0 : ByteArray) : runF tab ext25 false 62 [] 2000 [] tys25 Tryz.f25.results [true, false, false, true, true] [.code b25] (entE 0 0 sig25 (x0, ())) (entL sig25 (x0, ())) = some ([Dyn.mk (Ty.int IntKind.i64) 0, Dyn.mk Ty.bool Bool.false], [], [Decidable.decide ((↑(ByteArray.size x0) : Int) > 0) = Bool.true, (0 : Int) ≤ (0 : Int), 0 < (↑(ByteArray.size x0) : Int), ((↑(UInt8.toNat (List.getD (Array.toList (ByteArray.data x0)) 0 0)) : Int) == 45) = Bool.false, ((↑(ByteArray.size x0) : Int) == 0) = Bool.false, InR IntKind.i64 ((↑(ByteArray.size x0) : Int) - 0), Decidable.decide ((↑(ByteArray.size x0) : Int) - 0 > 18) = Bool.true, Bool.true = Bool.true]) := by kernel_rfl
theorem p25_7 (x0 : ByteArray) : runF tab ext25 false 62 [] 2000 [] tys25 Tryz.f25.results [true, false, false, false, true, true] [.code b25] (entE 0 0 sig25 (x0, ())) (entL sig25 (x0, ())) = some ([Dyn.mk (Ty.int IntKind.i64) 0, Dyn.mk Ty.bool Bool.false], [], [Decidable.decide ((↑(ByteArray.size x0) : Int) > 0) = Bool.true, (0 : Int) ≤ (0 : Int), 0 < (↑(ByteArray.size x0) : Int), ((↑(UInt8.toNat (List.getD (Array.toList (ByteArray.data x0)) 0 0)) : Int) == 45) = Bool.false, ((↑(ByteArray.size x0) : Int) == 0) = Bool.false, InR IntKind.i64 ((↑(ByteArray.size x0) : Int) - 0), Decidable.decide ((↑(ByteArray.size x0) : Int) - 0 > 18) = Bool.false, (0 : Int) ≤ (0 : Int), 0 < (↑(ByteArray.size x0) : Int), ((↑(UInt8.toNat (List.getD (Array.toList (ByteArray.data x0)) 0 0)) : Int) == 48) = Bool.true, Decidable.decide ((↑(ByteArray.size x0) : Int) > 1) = Bool.true]) := by kernel_rfl
theorem p25_8 (x0 : ByteArray) : Am.runN tab ext25 false 62 [] 2000 [] [] [0, 4, 5, 6] [] [true, false, false, false, true, false] [.code b25] (entE 0 0 sig25 (x0, ())) (entL sig25 (x0, ())) = some (cutAt b25 8, E25_8 (0) (0) (0) (x0), L25_8 (0) (0) (0) (x0), [Decidable.decide ((↑(ByteArray.size x0) : Int) > 0) = Bool.true, (0 : Int) ≤ (0 : Int), 0 < (↑(ByteArray.size x0) : Int), ((↑(UInt8.toNat (List.getD (Array.toList (ByteArray.data x0)) 0 0)) : Int) == 45) = Bool.false, ((↑(ByteArray.size x0) : Int) == 0) = Bool.false, InR IntKind.i64 ((↑(ByteArray.size x0) : Int) - 0), Decidable.decide ((↑(ByteArray.size x0) : Int) - 0 > 18) = Bool.false, (0 : Int) ≤ (0 : Int), 0 < (↑(ByteArray.size x0) : Int), ((↑(UInt8.toNat (List.getD (Array.toList (ByteArray.data x0)) 0 0)) : Int) == 48) = Bool.true, Decidable.decide ((↑(ByteArray.size x0) : Int) > 1) = Bool.false]) := by kernel_rfl
theorem p25_9 (x0 : ByteArray) : Am.runN tab ext25 false 62 [] 2000 [] [] [0, 4, 5, 6] [] [true, false, false, false, false, false] [.code b25] (entE 0 0 sig25 (x0, ())) (entL sig25 (x0, ())) = some (cutAt b25 8, E25_8 (0) (0) (0) (x0), L25_8 (0) (0) (0) (x0), [Decidable.decide ((↑(ByteArray.size x0) : Int) > 0) = Bool.true, (0 : Int) ≤ (0 : Int), 0 < (↑(ByteArray.size x0) : Int), ((↑(UInt8.toNat (List.getD (Array.toList (ByteArray.data x0)) 0 0)) : Int) == 45) = Bool.false, ((↑(ByteArray.size x0) : Int) == 0) = Bool.false, InR IntKind.i64 ((↑(ByteArray.size x0) : Int) - 0), Decidable.decide ((↑(ByteArray.size x0) : Int) - 0 > 18) = Bool.false, (0 : Int) ≤ (0 : Int), 0 < (↑(ByteArray.size x0) : Int), ((↑(UInt8.toNat (List.getD (Array.toList (ByteArray.data x0)) 0 0)) : Int) == 48) = Bool.false, Bool.false = Bool.false]) := by kernel_rfl
theorem p25_10 (x0 : ByteArray) : runF tab ext25 false 62 [] 2000 [] tys25 Tryz.f25.results [false, false, true, true, true] [.code b25] (entE 0 0 sig25 (x0, ())) (entL sig25 (x0, ())) = some ([Dyn.mk (Ty.int IntKind.i64) 0, Dyn.mk Ty.bool Bool.false], [], [Decidable.decide ((↑(ByteArray.size x0) : Int) > 0) = Bool.false, Bool.false = Bool.false, ((↑(ByteArray.size x0) : Int) == 0) = Bool.true, Bool.true = Bool.true, Bool.true = Bool.true]) := by kernel_rfl
theorem p25_11 (x0 : ByteArray) : runF tab ext25 false 62 [] 2000 [] tys25 Tryz.f25.results [false, false, false, true, true] [.code b25] (entE 0 0 sig25 (x0, ())) (entL sig25 (x0, ())) = some ([Dyn.mk (Ty.int IntKind.i64) 0, Dyn.mk Ty.bool Bool.false], [], [Decidable.decide ((↑(ByteArray.size x0) : Int) > 0) = Bool.false, Bool.false = Bool.false, ((↑(ByteArray.size x0) : Int) == 0) = Bool.false, InR IntKind.i64 ((↑(ByteArray.size x0) : Int) - 0), Decidable.decide ((↑(ByteArray.size x0) : Int) - 0 > 18) = Bool.true, Bool.true = Bool.true]) := by kernel_rfl
theorem p25_12 (x0 : ByteArray) : runF tab ext25 false 62 [] 2000 [] tys25 Tryz.f25.results [false, false, false, false, true, true] [.code b25] (entE 0 0 sig25 (x0, ())) (entL sig25 (x0, ())) = some ([Dyn.mk (Ty.int IntKind.i64) 0, Dyn.mk Ty.bool Bool.false], [], [Decidable.decide ((↑(ByteArray.size x0) : Int) > 0) = Bool.false, Bool.false = Bool.false, ((↑(ByteArray.size x0) : Int) == 0) = Bool.false, InR IntKind.i64 ((↑(ByteArray.size x0) : Int) - 0), Decidable.decide ((↑(ByteArray.size x0) : Int) - 0 > 18) = Bool.false, (0 : Int) ≤ (0 : Int), 0 < (↑(ByteArray.size x0) : Int), ((↑(UInt8.toNat (List.getD (Array.toList (ByteArray.data x0)) 0 0)) : Int) == 48) = Bool.true, Decidable.decide ((↑(ByteArray.size x0) : Int) > 1) = Bool.true]) := by kernel_rfl
theorem p25_13 (x0 : ByteArray) : Am.runN tab ext25 false 62 [] 2000 [] [] [0, 4, 5, 6] [] [false, false, false, false, true, false] [.code b25] (entE 0 0 sig25 (x0, ())) (entL sig25 (x0, ())) = some (cutAt b25 8, E25_8 (0) (0) (0) (x0), L25_8 (0) (0) (0) (x0), [Decidable.decide ((↑(ByteArray.size x0) : Int) > 0) = Bool.false, Bool.false = Bool.false, ((↑(ByteArray.size x0) : Int) == 0) = Bool.false, InR IntKind.i64 ((↑(ByteArray.size x0) : Int) - 0), Decidable.decide ((↑(ByteArray.size x0) : Int) - 0 > 18) = Bool.false, (0 : Int) ≤ (0 : Int), 0 < (↑(ByteArray.size x0) : Int), ((↑(UInt8.toNat (List.getD (Array.toList (ByteArray.data x0)) 0 0)) : Int) == 48) = Bool.true, Decidable.decide ((↑(ByteArray.size x0) : Int) > 1) = Bool.false]) := by kernel_rfl
theorem p25_14 (x0 : ByteArray) : Am.runN tab ext25 false 62 [] 2000 [] [] [0, 4, 5, 6] [] [false, false, false, false, false, false] [.code b25] (entE 0 0 sig25 (x0, ())) (entL sig25 (x0, ())) = some (cutAt b25 8, E25_8 (0) (0) (0) (x0), L25_8 (0) (0) (0) (x0), [Decidable.decide ((↑(ByteArray.size x0) : Int) > 0) = Bool.false, Bool.false = Bool.false, ((↑(ByteArray.size x0) : Int) == 0) = Bool.false, InR IntKind.i64 ((↑(ByteArray.size x0) : Int) - 0), Decidable.decide ((↑(ByteArray.size x0) : Int) - 0 > 18) = Bool.false, (0 : Int) ≤ (0 : Int), 0 < (↑(ByteArray.size x0) : Int), ((↑(UInt8.toNat (List.getD (Array.toList (ByteArray.data x0)) 0 0)) : Int) == 48) = Bool.false, Bool.false = Bool.false]) := by kernel_rfl
theorem p25_15 (v4 : Int) (v5 : Int) (v6 : Int) (x0 : ByteArray) : runF tab ext25 false 62 [] 2000 [] tys25 Tryz.f25.results [true, true] (cutAt b25 8) (E25_8 v4 v5 v6 x0) (L25_8 v4 v5 v6 x0) = some ([Dyn.mk (Ty.int IntKind.i64) 0, Dyn.mk Ty.bool Bool.false], [], [Decidable.decide (v6 < (↑(ByteArray.size x0) : Int)) = Bool.true, 0 ≤ v6, v6 < (↑(ByteArray.size x0) : Int), True, (!g43_0 (↑(UInt8.toNat (List.getD (Array.toList (ByteArray.data x0)) (Int.toNat v6) 0)) : Int)) = Bool.true]) := by kernel_rfl
theorem p25_16 (v4 : Int) (v5 : Int) (v6 : Int) (x0 : ByteArray) : Am.runN tab ext25 false 62 [] 2000 [] [] [0, 4, 5, 6] [] [true, false] (cutAt b25 8) (E25_8 v4 v5 v6 x0) (L25_8 v4 v5 v6 x0) = some (cutAt b25 8, E25_8 (v4) (10 * v5 + ((↑(UInt8.toNat (List.getD (Array.toList (ByteArray.data x0)) (Int.toNat v6) 0)) : Int) - 48)) (v6 + 1) (x0), L25_8 (v4) (10 * v5 + ((↑(UInt8.toNat (List.getD (Array.toList (ByteArray.data x0)) (Int.toNat v6) 0)) : Int) - 48)) (v6 + 1) (x0), [Decidable.decide (v6 < (↑(ByteArray.size x0) : Int)) = Bool.true, 0 ≤ v6, v6 < (↑(ByteArray.size x0) : Int), True, (!g43_0 (↑(UInt8.toNat (List.getD (Array.toList (ByteArray.data x0)) (Int.toNat v6) 0)) : Int)) = Bool.false, InR IntKind.i64 (10 * v5), 0 ≤ v6, v6 < (↑(ByteArray.size x0) : Int), InR IntKind.u8 ((↑(UInt8.toNat (List.getD (Array.toList (ByteArray.data x0)) (Int.toNat v6) 0)) : Int) - 48), InR IntKind.i64 ((↑(UInt8.toNat (List.getD (Array.toList (ByteArray.data x0)) (Int.toNat v6) 0)) : Int) - 48), InR IntKind.i64 (10 * v5 + ((↑(UInt8.toNat (List.getD (Array.toList (ByteArray.data x0)) (Int.toNat v6) 0)) : Int) - 48)), InR IntKind.i64 (v6 + 1)]) := by kernel_rfl
theorem p25_17 (v4 : Int) (v5 : Int) (v6 : Int) (x0 : ByteArray) : runF tab ext25 false 62 [] 2000 [] tys25 Tryz.f25.results [false, true] (cutAt b25 8) (E25_8 v4 v5 v6 x0) (L25_8 v4 v5 v6 x0) = some ([Dyn.mk (Ty.int IntKind.i64) (0 - v5), Dyn.mk Ty.bool Bool.true], [], [Decidable.decide (v6 < (↑(ByteArray.size x0) : Int)) = Bool.false, (v4 == 1) = Bool.true, InR IntKind.i64 (0 - v5)]) := by kernel_rfl
theorem p25_18 (v4 : Int) (v5 : Int) (v6 : Int) (x0 : ByteArray) : runF tab ext25 false 62 [] 2000 [] tys25 Tryz.f25.results [false, false] (cutAt b25 8) (E25_8 v4 v5 v6 x0) (L25_8 v4 v5 v6 x0) = some ([Dyn.mk (Ty.int IntKind.i64) v5, Dyn.mk Ty.bool Bool.true], [], [Decidable.decide (v6 < (↑(ByteArray.size x0) : Int)) = Bool.false, (v4 == 1) = Bool.false]) := by kernel_rfl
theorem snd25 : ∀ n, (∀ (x0 : ByteArray) ds, R25 n x0 ds → ∀ w0 O q, AtV Tryz.prog 25 (PostR ds [] [] q w0 O) 62 w0 O q [] [.code b25] (entE 0 0 sig25 (x0, ())) (entL sig25 (x0, ()))) ∧ (∀ (v4 : Int) (v5 : Int) (v6 : Int) (x0 : ByteArray) ds, R25_8 n v4 v5 v6 x0 ds → ∀ w0 O q, AtV Tryz.prog 25 (PostR ds [] [] q w0 O) 62 w0 O q [] (cutAt b25 8) (E25_8 v4 v5 v6 x0) (L25_8 v4 v5 v6 x0)) := by
  intro n
  induction n with
  | zero => exact ⟨fun _ _ h => by simp only [R25] at h, fun _ _ _ _ _ h => by simp only [R25_8] at h⟩
  | succ n ih =>
  obtain ⟨ih, ih8⟩ := ih
  refine ⟨?_, ?_⟩
  · intro x0 ds h w0 O q
    rw [R25] at h
    by_cases b0 : (Decidable.decide ((↑(ByteArray.size x0) : Int) > 0)) = true
    · rw [if_pos b0] at h
      obtain ⟨s0, h⟩ := h
      by_cases b1 : ((↑(UInt8.toNat (List.getD (Array.toList (ByteArray.data x0)) 0 0)) : Int) == 45) = true
      · rw [if_pos b1] at h
        by_cases b2 : ((↑(ByteArray.size x0) : Int) == 1) = true
        · rw [if_pos b2] at h
          subst h
          exact AtV.fin Tryz.func25 tabOk ext25Ok mixed (p25_0 x0) ⟨b0, (by decide), s0, b1, b2, rfl, rfl, trivial⟩
        · rw [if_neg b2] at h
          replace b2 := Bool.eq_false_iff.2 b2
          obtain ⟨s1, h⟩ := h
          by_cases b3 : (Decidable.decide ((↑(ByteArray.size x0) : Int) - 1 > 18)) = true
          · rw [if_pos b3] at h
            subst h
            exact AtV.fin Tryz.func25 tabOk ext25Ok mixed (p25_1 x0) ⟨b0, (by decide), s0, b1, b2, s1, b3, rfl, trivial⟩
          · rw [if_neg b3] at h
            replace b3 := Bool.eq_false_iff.2 b3
            obtain ⟨s2, h⟩ := h
            by_cases b4 : ((↑(UInt8.toNat (List.getD (Array.toList (ByteArray.data x0)) 1 0)) : Int) == 48) = true
            · rw [if_pos b4] at h
              by_cases b5 : (Decidable.decide ((↑(ByteArray.size x0) : Int) > 1)) = true
              · rw [if_pos b5] at h
                subst h
                exact AtV.fin Tryz.func25 tabOk ext25Ok mixed (p25_2 x0) ⟨b0, (by decide), s0, b1, b2, s1, b3, (by decide), s2, b4, b5, trivial⟩
              · rw [if_neg b5] at h
                replace b5 := Bool.eq_false_iff.2 b5
                exact AtV.runN tabOk ext25Ok mixed (p25_3 x0) ⟨b0, (by decide), s0, b1, b2, s1, b3, (by decide), s2, b4, b5, trivial⟩ (ih8 _ _ _ _ _ h w0 O q)
            · rw [if_neg b4] at h
              replace b4 := Bool.eq_false_iff.2 b4
              exact AtV.runN tabOk ext25Ok mixed (p25_4 x0) ⟨b0, (by decide), s0, b1, b2, s1, b3, (by decide), s2, b4, rfl, trivial⟩ (ih8 _ _ _ _ _ h w0 O q)
      · rw [if_neg b1] at h
        replace b1 := Bool.eq_false_iff.2 b1
        by_cases b2 : ((↑(ByteArray.size x0) : Int) == 0) = true
        · rw [if_pos b2] at h
          subst h
          exact AtV.fin Tryz.func25 tabOk ext25Ok mixed (p25_5 x0) ⟨b0, (by decide), s0, b1, b2, rfl, rfl, trivial⟩
        · rw [if_neg b2] at h
          replace b2 := Bool.eq_false_iff.2 b2
          obtain ⟨s1, h⟩ := h
          by_cases b3 : (Decidable.decide ((↑(ByteArray.size x0) : Int) - 0 > 18)) = true
          · rw [if_pos b3] at h
            subst h
            exact AtV.fin Tryz.func25 tabOk ext25Ok mixed (p25_6 x0) ⟨b0, (by decide), s0, b1, b2, s1, b3, rfl, trivial⟩
          · rw [if_neg b3] at h
            replace b3 := Bool.eq_false_iff.2 b3
            obtain ⟨s2, h⟩ := h
            by_cases b4 : ((↑(UInt8.toNat (List.getD (Array.toList (ByteArray.data x0)) 0 0)) : Int) == 48) = true
            · rw [if_pos b4] at h
              by_cases b5 : (Decidable.decide ((↑(ByteArray.size x0) : Int) > 1)) = true
              · rw [if_pos b5] at h
                subst h
                exact AtV.fin Tryz.func25 tabOk ext25Ok mixed (p25_7 x0) ⟨b0, (by decide), s0, b1, b2, s1, b3, (by decide), s2, b4, b5, trivial⟩
              · rw [if_neg b5] at h
                replace b5 := Bool.eq_false_iff.2 b5
                exact AtV.runN tabOk ext25Ok mixed (p25_8 x0) ⟨b0, (by decide), s0, b1, b2, s1, b3, (by decide), s2, b4, b5, trivial⟩ (ih8 _ _ _ _ _ h w0 O q)
            · rw [if_neg b4] at h
              replace b4 := Bool.eq_false_iff.2 b4
              exact AtV.runN tabOk ext25Ok mixed (p25_9 x0) ⟨b0, (by decide), s0, b1, b2, s1, b3, (by decide), s2, b4, rfl, trivial⟩ (ih8 _ _ _ _ _ h w0 O q)
    · rw [if_neg b0] at h
      replace b0 := Bool.eq_false_iff.2 b0
      by_cases b1 : ((↑(ByteArray.size x0) : Int) == 0) = true
      · rw [if_pos b1] at h
        subst h
        exact AtV.fin Tryz.func25 tabOk ext25Ok mixed (p25_10 x0) ⟨b0, rfl, b1, rfl, rfl, trivial⟩
      · rw [if_neg b1] at h
        replace b1 := Bool.eq_false_iff.2 b1
        obtain ⟨s0, h⟩ := h
        by_cases b2 : (Decidable.decide ((↑(ByteArray.size x0) : Int) - 0 > 18)) = true
        · rw [if_pos b2] at h
          subst h
          exact AtV.fin Tryz.func25 tabOk ext25Ok mixed (p25_11 x0) ⟨b0, rfl, b1, s0, b2, rfl, trivial⟩
        · rw [if_neg b2] at h
          replace b2 := Bool.eq_false_iff.2 b2
          obtain ⟨s1, h⟩ := h
          by_cases b3 : ((↑(UInt8.toNat (List.getD (Array.toList (ByteArray.data x0)) 0 0)) : Int) == 48) = true
          · rw [if_pos b3] at h
            by_cases b4 : (Decidable.decide ((↑(ByteArray.size x0) : Int) > 1)) = true
            · rw [if_pos b4] at h
              subst h
              exact AtV.fin Tryz.func25 tabOk ext25Ok mixed (p25_12 x0) ⟨b0, rfl, b1, s0, b2, (by decide), s1, b3, b4, trivial⟩
            · rw [if_neg b4] at h
              replace b4 := Bool.eq_false_iff.2 b4
              exact AtV.runN tabOk ext25Ok mixed (p25_13 x0) ⟨b0, rfl, b1, s0, b2, (by decide), s1, b3, b4, trivial⟩ (ih8 _ _ _ _ _ h w0 O q)
          · rw [if_neg b3] at h
            replace b3 := Bool.eq_false_iff.2 b3
            exact AtV.runN tabOk ext25Ok mixed (p25_14 x0) ⟨b0, rfl, b1, s0, b2, (by decide), s1, b3, rfl, trivial⟩ (ih8 _ _ _ _ _ h w0 O q)

  · intro v4 v5 v6 x0 ds h w0 O q
    rw [R25_8] at h
    by_cases b0 : (Decidable.decide (v6 < (↑(ByteArray.size x0) : Int))) = true
    · rw [if_pos b0] at h
      obtain ⟨s0, s1, h⟩ := h
      by_cases b1 : (!g43_0 (↑(UInt8.toNat (List.getD (Array.toList (ByteArray.data x0)) (Int.toNat v6) 0)) : Int)) = true
      · rw [if_pos b1] at h
        subst h
        exact AtV.fin Tryz.func25 tabOk ext25Ok mixed (p25_15 v4 v5 v6 x0) ⟨b0, s0, s1, trivial, b1, trivial⟩
      · rw [if_neg b1] at h
        replace b1 := Bool.eq_false_iff.2 b1
        obtain ⟨s2, h⟩ := h
        obtain ⟨s3, s4, h⟩ := h
        obtain ⟨s5, h⟩ := h
        obtain ⟨s6, h⟩ := h
        obtain ⟨s7, h⟩ := h
        obtain ⟨s8, h⟩ := h
        exact AtV.runN tabOk ext25Ok mixed (p25_16 v4 v5 v6 x0) ⟨b0, s0, s1, trivial, b1, s2, s3, s4, s5, s6, s7, s8, trivial⟩ (ih8 _ _ _ _ _ h w0 O q)
    · rw [if_neg b0] at h
      replace b0 := Bool.eq_false_iff.2 b0
      by_cases b1 : (v4 == 1) = true
      · rw [if_pos b1] at h
        obtain ⟨s0, h⟩ := h
        subst h
        exact AtV.fin Tryz.func25 tabOk ext25Ok mixed (p25_17 v4 v5 v6 x0) ⟨b0, b1, s0, trivial⟩
      · rw [if_neg b1] at h
        replace b1 := Bool.eq_false_iff.2 b1
        subst h
        exact AtV.fin Tryz.func25 tabOk ext25Ok mixed (p25_18 v4 v5 v6 x0) ⟨b0, b1, trivial⟩



def d25 (b : UInt8) : Bool := decide (48 ≤ b.toNat) && decide (b.toNat ≤ 57)
def dig25 : List UInt8 → Int → Int × Bool
  | [], n => (n, true)
  | b :: r, n => if d25 b then dig25 r (10 * n + ((b.toNat : Int) - 48)) else (0, false)
def fin25 (off : Nat) (p : Int × Bool) : Int × Bool := if off = 1 then (0 - p.1, p.2) else p
def num25 : List UInt8 → Int × Bool
  | [] => (0, false)
  | b :: r => if b.toNat = 45 then (if r.length = 0 ∨ 18 < r.length ∨ (r.getD 0 0).toNat = 48 then (0, false) else fin25 1 (dig25 r 0))
    else if 18 < r.length + 1 ∨ (b.toNat = 48 ∧ 0 < r.length) then (0, false) else fin25 0 (dig25 (b :: r) 0)
def g25_0 (x0 : ByteArray) : Int := (num25 x0.data.toList).1
def g25_1 (x0 : ByteArray) : Bool := (num25 x0.data.toList).2
def P25 (x0 : ByteArray) : Prop := True

theorem run25 (x0 : ByteArray) (off : Nat) (hs : x0.size ≤ off + 18) (ho : off ≤ 1) : ∀ (k j m : Nat), off + j + k = x0.size → m < 10 ^ j →
    R25_8 (k + 1) (off : Int) (m : Int) ((off + j : Nat) : Int) x0 [⟨.int .i64, (fin25 off (dig25 (x0.data.toList.drop (off + j)) (m : Int))).1⟩, ⟨.bool, (fin25 off (dig25 (x0.data.toList.drop (off + j)) (m : Int))).2⟩] := by
  intro k
  have hll : x0.data.toList.length = x0.size := rfl
  induction k with
  | zero =>
    intro j m hi hm
    have hp : 10 ^ j ≤ 10 ^ 18 := Nat.pow_le_pow_right (by decide) (by omega)
    have hm2 : m < 1000000000000000000 := Nat.lt_of_lt_of_le hm hp
    rw [R25_8, if_neg (by simp; omega), List.drop_of_length_le (by omega)]
    unfold fin25 dig25
    by_cases h1 : off = 1
    · subst h1
      rw [if_pos (by rfl)]
      exact ⟨by rw [i64_iff]; omega, rfl⟩
    · obtain rfl : off = 0 := by omega
      rw [if_neg (by decide)]
      rfl
  | succ k ih =>
    intro j m hi hm
    have hlt : off + j < x0.data.toList.length := by rw [hll]; omega
    have hcons : x0.data.toList.drop (off + j) = x0.data.toList.getD (off + j) 0 :: x0.data.toList.drop (off + j + 1) := drop_get _ _ 0 hlt
    rw [R25_8, if_pos (by simp only [decide_eq_true_eq]; omega), hcons]
    simp only [Int.toNat_natCast]
    generalize x0.data.toList.getD (off + j) 0 = b at *
    refine ⟨by omega, by omega, ?_⟩
    have hg : g43_0 (b.toNat : Int) = d25 b := by
      unfold g43_0 d25
      by_cases h1 : 48 ≤ b.toNat
      · have h1' : (b.toNat : Int) ≥ 48 := by omega
        by_cases h2 : b.toNat ≤ 57
        · have h2' : (b.toNat : Int) ≤ 57 := by omega
          simp [h1, h2, h1', h2']
        · have h2' : ¬ (b.toNat : Int) ≤ 57 := by omega
          simp [h1, h2, h1', h2']
      · have h1' : ¬ (b.toNat : Int) ≥ 48 := by omega
        simp [h1, h1']
    rw [hg]
    unfold dig25
    cases hd : d25 b with
    | false => simp [fin25]
    | true =>
      have hd' : 48 ≤ b.toNat ∧ b.toNat ≤ 57 := by unfold d25 at hd; simpa using hd
      have hp : 10 ^ j ≤ 10 ^ 17 := Nat.pow_le_pow_right (by decide) (by omega)
      have hm2 : m < 100000000000000000 := Nat.lt_of_lt_of_le hm hp
      simp only [Bool.not_true, Bool.false_eq_true, if_false, if_true]
      refine ⟨by rw [i64_iff]; omega, by omega, by omega, ?_, by rw [i64_iff]; omega, by rw [i64_iff]; omega, by rw [i64_iff]; omega, ?_⟩
      · rw [u8_iff]; omega
      · have e1 : 10 * (m : Int) + ((b.toNat : Int) - 48) = ((10 * m + (b.toNat - 48) : Nat) : Int) := by omega
        have e2 : ((off + j : Nat) : Int) + 1 = ((off + (j + 1) : Nat) : Int) := by omega
        rw [e1, e2]
        exact ih (j + 1) (10 * m + (b.toNat - 48)) (by omega) (by rw [Nat.pow_succ]; omega)

theorem top25 (x0 : ByteArray) (hm : x0.size ≤ 9223372036854775807) : ∃ n, R25 n x0 [⟨.int .i64, g25_0 x0⟩, ⟨.bool, g25_1 x0⟩] := by
  obtain ⟨⟨l⟩⟩ := x0
  unfold g25_0 g25_1
  cases l with
  | nil => exact ⟨1, by
      rw [R25, if_neg (by decide), if_pos (by decide)]
      rfl⟩
  | cons b r =>
    have hsz : (ByteArray.mk ⟨b :: r⟩).size = r.length + 1 := rfl
    rw [hsz] at hm
    have g0 : List.getD (Array.toList (ByteArray.data (ByteArray.mk ⟨b :: r⟩))) 0 0 = b := rfl
    have g1 : List.getD (Array.toList (ByteArray.data (ByteArray.mk ⟨b :: r⟩))) 1 0 = r.getD 0 0 := rfl
    by_cases hb : b.toNat = 45
    · refine ⟨(r.length - 0 + 1) + 1, ?_⟩
      rw [R25, hsz, g0, g1, if_pos (by simp only [decide_eq_true_eq]; omega)]
      refine ⟨by omega, ?_⟩
      rw [if_pos (by rw [hb]; rfl)]
      show _
      unfold num25
      simp only [if_pos hb]
      by_cases h0 : r.length = 0
      · rw [if_pos (by rw [h0]; rfl), if_pos (.inl h0)]
      · rw [if_neg (by simp; omega)]
        refine ⟨by rw [i64_iff]; omega, ?_⟩
        by_cases h18 : 18 < r.length
        · rw [if_pos (by simp only [decide_eq_true_eq]; omega), if_pos (.inr (.inl h18))]
        · rw [if_neg (by simp only [decide_eq_true_eq]; omega)]
          refine ⟨by omega, ?_⟩
          by_cases h48 : (r.getD 0 0).toNat = 48
          · rw [if_pos (by rw [h48]; rfl), if_pos (by simp only [decide_eq_true_eq]; omega), if_pos (.inr (.inr h48))]
          · rw [if_neg (by rw [beq_iff_eq]; omega), if_neg (by omega)]
            exact run25 ⟨⟨b :: r⟩⟩ 1 (by rw [hsz]; omega) (by omega) r.length 0 0 (by rw [hsz]; omega) (by decide)
    · refine ⟨(r.length + 1 + 1) + 1, ?_⟩
      rw [R25, hsz, g0, if_pos (by simp only [decide_eq_true_eq]; omega)]
      refine ⟨by omega, ?_⟩
      rw [if_neg (by simp; omega)]
      unfold num25
      simp only [if_neg hb]
      rw [if_neg (by simp; omega)]
      refine ⟨by rw [i64_iff]; omega, ?_⟩
      by_cases h18 : 18 < r.length + 1
      · rw [if_pos (by simp only [decide_eq_true_eq]; omega), if_pos (.inl h18)]
      · rw [if_neg (by simp only [decide_eq_true_eq]; omega)]
        refine ⟨by omega, ?_⟩
        by_cases h48 : b.toNat = 48
        · rw [if_pos (by rw [h48]; rfl)]
          by_cases hr : 0 < r.length
          · rw [if_pos (by simp only [decide_eq_true_eq]; omega), if_pos (.inr ⟨h48, hr⟩)]
          · rw [if_neg (by simp only [decide_eq_true_eq]; omega), if_neg (by omega)]
            exact run25 ⟨⟨b :: r⟩⟩ 0 (by rw [hsz]; omega) (by omega) (r.length + 1) 0 0 (by rw [hsz]; omega) (by decide)
        · rw [if_neg (by simp; omega), if_neg (by omega)]
          exact run25 ⟨⟨b :: r⟩⟩ 0 (by rw [hsz]; omega) (by omega) (r.length + 1) 0 0 (by rw [hsz]; omega) (by decide)

def S25 : Am.Spec := { sig := sig25, pre := fun ⟨x0, _⟩ => P25 x0, res := fun ⟨x0, _⟩ => [⟨.int .i64, g25_0 x0⟩, ⟨.bool, g25_1 x0⟩] }
theorem con25 : Contract Tryz.prog 25 S25 := contract_of Tryz.func25 hb25 (Nat.le_of_ble_eq_true (by kernel_rfl)) (fun ⟨x0, _⟩ h hwf w0 O q => by
  obtain ⟨n, hn⟩ := top25 x0 hwf.1
  exact (snd25 n).1 x0 _ hn w0 O q)

end Go.Proofs.YtcppjmlhilklcaaGreatDoor

/- Function 10 (spec.l29Head): its runs between cut points. Written by a program of this repo (gen). -/
set_option linter.unusedVariables false
set_option linter.unusedSimpArgs false
set_option maxRecDepth 100000
namespace Go.Proofs.YtcppjmlhilklcaaGreatDoor
open Go Go.Am Go.Proofs
def ext10 : Ext := [(24, S24), (25, S25), (26, S26)]
theorem call10_24 : Callable Tryz.prog 24 := ⟨Tryz.f24, Tryz.func24, by kernel_rfl, by kernel_rfl⟩
theorem call10_25 : Callable Tryz.prog 25 := ⟨Tryz.f25, Tryz.func25, by kernel_rfl, by kernel_rfl⟩
theorem call10_26 : Callable Tryz.prog 26 := ⟨Tryz.f26, Tryz.func26, by kernel_rfl, by kernel_rfl⟩
theorem ext10Ok : ExtOk Tryz.prog ext10 := ⟨⟨call10_24, con24⟩, ⟨call10_25, con25⟩, ⟨call10_26, con26⟩, trivial⟩
/-! Function 10. -/
noncomputable def b10 : Code := bodyOf Tryz.f10
theorem hb10 : Tryz.f10.body = some b10 := by kernel_rfl
def sig10 : List AT := [AT.v (Ty.str)]
def tys10 : List Ty := [Ty.int IntKind.i64, Ty.bool]
def P10 (x0 : ByteArray) : Prop := ((P24 x0 32) ∧ (if ((↑(List.length (g24_0 x0 32)) : Int) != 2) = true then True else ((0 < (↑(List.length (g24_0 x0 32)) : Int)) ∧ (if (!ByteArray.toList (List.getD (g24_0 x0 32) 0 ByteArray.empty) == ByteArray.toList (ByteArray.mk #[97, 114, 99, 104, 105, 118, 101])) = true then True else ((1 < (↑(List.length (g24_0 x0 32)) : Int)) ∧ True)))))
def g10_0 (x0 : ByteArray) : Int := (if ((↑(List.length (g24_0 x0 32)) : Int) != 2) = true then 0 else (if (!ByteArray.toList (List.getD (g24_0 x0 32) 0 ByteArray.empty) == ByteArray.toList (ByteArray.mk #[97, 114, 99, 104, 105, 118, 101])) = true then 0 else (if (g25_1 (List.getD (g24_0 x0 32) 1 ByteArray.empty)) = true then g25_0 (List.getD (g24_0 x0 32) 1 ByteArray.empty) else g25_0 (List.getD (g24_0 x0 32) 1 ByteArray.empty))))
def g10_1 (x0 : ByteArray) : Bool := (if ((↑(List.length (g24_0 x0 32)) : Int) != 2) = true then Bool.false else (if (!ByteArray.toList (List.getD (g24_0 x0 32) 0 ByteArray.empty) == ByteArray.toList (ByteArray.mk #[97, 114, 99, 104, 105, 118, 101])) = true then Bool.false else (if (g25_1 (List.getD (g24_0 x0 32) 1 ByteArray.empty)) = true then g26_0 (g25_0 (List.getD (g24_0 x0 32) 1 ByteArray.empty)) 0 32 else Bool.false)))
theorem p10_0 (x0 : ByteArray) : runF tab ext10 false 31 [] 2000 [] tys10 Tryz.f10.results [true, true] [.code b10] (entE 0 0 sig10 (x0, ())) (entL sig10 (x0, ())) = some ([Dyn.mk (Ty.int IntKind.i64) 0, Dyn.mk Ty.bool Bool.false], [], [P24 x0 32, ((↑(List.length (g24_0 x0 32)) : Int) != 2) = Bool.true, Bool.true = Bool.true]) := by kernel_rfl
theorem p10_1 (x0 : ByteArray) : runF tab ext10 false 31 [] 2000 [] tys10 Tryz.f10.results [false, true] [.code b10] (entE 0 0 sig10 (x0, ())) (entL sig10 (x0, ())) = some ([Dyn.mk (Ty.int IntKind.i64) 0, Dyn.mk Ty.bool Bool.false], [], [P24 x0 32, ((↑(List.length (g24_0 x0 32)) : Int) != 2) = Bool.false, (0 : Int) ≤ (0 : Int), 0 < (↑(List.length (g24_0 x0 32)) : Int), (!ByteArray.toList (List.getD (g24_0 x0 32) 0 ByteArray.empty) == ByteArray.toList (ByteArray.mk #[97, 114, 99, 104, 105, 118, 101])) = Bool.true]) := by kernel_rfl
theorem p10_2 (x0 : ByteArray) : runF tab ext10 false 31 [] 2000 [] tys10 Tryz.f10.results [false, false, true] [.code b10] (entE 0 0 sig10 (x0, ())) (entL sig10 (x0, ())) = some ([Dyn.mk (Ty.int IntKind.i64) (g25_0 (List.getD (g24_0 x0 32) 1 ByteArray.empty)), Dyn.mk Ty.bool (g26_0 (g25_0 (List.getD (g24_0 x0 32) 1 ByteArray.empty)) 0 32)], [], [P24 x0 32, ((↑(List.length (g24_0 x0 32)) : Int) != 2) = Bool.false, (0 : Int) ≤ (0 : Int), 0 < (↑(List.length (g24_0 x0 32)) : Int), (!ByteArray.toList (List.getD (g24_0 x0 32) 0 ByteArray.empty) == ByteArray.toList (ByteArray.mk #[97, 114, 99, 104, 105, 118, 101])) = Bool.false, (0 : Int) ≤ (1 : Int), 1 < (↑(List.length (g24_0 x0 32)) : Int), True, g25_1 (List.getD (g24_0 x0 32) 1 ByteArray.empty) = Bool.true, True]) := by kernel_rfl
theorem p10_3 (x0 : ByteArray) : runF tab ext10 false 31 [] 2000 [] tys10 Tryz.f10.results [false, false, false] [.code b10] (entE 0 0 sig10 (x0, ())) (entL sig10 (x0, ())) = some ([Dyn.mk (Ty.int IntKind.i64) (g25_0 (List.getD (g24_0 x0 32) 1 ByteArray.empty)), Dyn.mk Ty.bool Bool.false], [], [P24 x0 32, ((↑(List.length (g24_0 x0 32)) : Int) != 2) = Bool.false, (0 : Int) ≤ (0 : Int), 0 < (↑(List.length (g24_0 x0 32)) : Int), (!ByteArray.toList (List.getD (g24_0 x0 32) 0 ByteArray.empty) == ByteArray.toList (ByteArray.mk #[97, 114, 99, 104, 105, 118, 101])) = Bool.false, (0 : Int) ≤ (1 : Int), 1 < (↑(List.length (g24_0 x0 32)) : Int), True, g25_1 (List.getD (g24_0 x0 32) 1 ByteArray.empty) = Bool.false]) := by kernel_rfl
theorem at10 (x0 : ByteArray) (h : P10 x0) (w0 : World) (O : List Nat) (q : Nat → Value) : AtV Tryz.prog 10 (PostR [⟨Ty.int IntKind.i64, g10_0 x0⟩, ⟨Ty.bool, g10_1 x0⟩] [] [] q w0 O) 31 w0 O q [] [.code b10] (entE 0 0 sig10 (x0, ())) (entL sig10 (x0, ())) := by
  unfold P10 at h
  unfold g10_0 g10_1
  obtain ⟨s0, h⟩ := h
  by_cases b0 : ((↑(List.length (g24_0 x0 32)) : Int) != 2) = true
  · try simp only [if_pos b0] at h ⊢
    exact AtV.fin Tryz.func10 tabOk ext10Ok mixed (p10_0 x0) ⟨s0, b0, rfl, trivial⟩
  · try simp only [if_neg b0] at h ⊢
    replace b0 := Bool.eq_false_iff.2 b0
    obtain ⟨s1, h⟩ := h
    by_cases b1 : (!ByteArray.toList (List.getD (g24_0 x0 32) 0 ByteArray.empty) == ByteArray.toList (ByteArray.mk #[97, 114, 99, 104, 105, 118, 101])) = true
    · try simp only [if_pos b1] at h ⊢
      exact AtV.fin Tryz.func10 tabOk ext10Ok mixed (p10_1 x0) ⟨s0, b0, (by decide), s1, b1, trivial⟩
    · try simp only [if_neg b1] at h ⊢
      replace b1 := Bool.eq_false_iff.2 b1
      obtain ⟨s2, h⟩ := h
      by_cases b2 : (g25_1 (List.getD (g24_0 x0 32) 1 ByteArray.empty)) = true
      · try simp only [if_pos b2] at h ⊢
        exact AtV.fin Tryz.func10 tabOk ext10Ok mixed (p10_2 x0) ⟨s0, b0, (by decide), s1, b1, (by decide), s2, trivial, b2, trivial, trivial⟩
      · try simp only [if_neg b2] at h ⊢
        replace b2 := Bool.eq_false_iff.2 b2
        exact AtV.fin Tryz.func10 tabOk ext10Ok mixed (p10_3 x0) ⟨s0, b0, (by decide), s1, b1, (by decide), s2, trivial, b2, trivial⟩

def S10 : Am.Spec := { sig := sig10, pre := fun ⟨x0, _⟩ => P10 x0, res := fun ⟨x0, _⟩ => [⟨Ty.int IntKind.i64, g10_0 x0⟩, ⟨Ty.bool, g10_1 x0⟩] }
theorem con10 : Contract Tryz.prog 10 S10 := contract_of Tryz.func10 hb10 (Nat.le_of_ble_eq_true (by kernel_rfl)) (fun ⟨x0, _⟩ h _ w0 O q => at10 x0 h w0 O q)


end Go.Proofs.YtcppjmlhilklcaaGreatDoor

/- Function 16 (strings.TrimPrefix): its contract, off what is known of the library. -/
set_option linter.unusedVariables false
set_option linter.unusedSimpArgs false
set_option maxRecDepth 100000
namespace Go.Proofs.YtcppjmlhilklcaaGreatDoor
open Go Go.Am Go.Proofs
def sig16 : List AT := [AT.v Ty.str, AT.v Ty.str]
def g16_0 (x0 x1 : ByteArray) : ByteArray := ⟨(Lib.trimPrefix x0.data.toList x1.data.toList).toArray⟩
def P16 (x0 x1 : ByteArray) : Prop := True
def S16 : Am.Spec := { sig := sig16, pre := fun ⟨x0, x1, _⟩ => P16 x0 x1, res := fun ⟨x0, x1, _⟩ => [⟨Ty.str, g16_0 x0 x1⟩] }
theorem con16 : Contract Tryz.prog 16 S16 := contract_flat rfl fun w ⟨x0, x1, _⟩ vs bss hg hp hw ha => by
  obtain ⟨v0, s0, _, _, rfl, _, ⟨_, rfl, _⟩, v1, s1, _, _, rfl, _, ⟨_, rfl, _⟩, rfl, _⟩ := ha
  have hi : x0.size ≤ maxLen := hw.1
  refine ⟨fun d hd => ?_, ?_⟩
  · rw [List.mem_singleton.1 hd]
    refine ⟨rfl, ?_⟩
    show (List.toArray _).size ≤ maxLen
    rw [List.size_toArray]
    have e : x0.data.toList.length = x0.size := rfl
    unfold Lib.trimPrefix
    split
    · rw [List.length_drop]; omega
    · omega
  · refine (Tryz.strings_TrimPrefix x0 x1 w).mono ?_
    rintro e w' ⟨rfl, rfl⟩
    exact ⟨rfl, Kept.refl _ _⟩

end Go.Proofs.YtcppjmlhilklcaaGreatDoor

/- Function 33 (strconv.ParseInt): its contract, off what is known of the library. -/
set_option linter.unusedVariables false
set_option linter.unusedSimpArgs false
set_option maxRecDepth 100000
namespace Go.Proofs.YtcppjmlhilklcaaGreatDoor
open Go Go.Am Go.Proofs

/-- What ParseInt(s, 10, 64) gives. -/
theorem parseOk33 (s : ByteArray) (hs : s.size ≤ 281474976710656) (v : Int) (h : Lib.parseIntB 64 s.data.toList = .ok v) (W : World) :
    Calls Tryz.prog 33 #[.string s, .int .i64 10, .int .i64 64] W fun e w' => e = .returned (.tuple #[.int .i64 v, .nilIface]) ∧ Go.RowKit.Below W.heap.size W w' := by
  refine (Tryz.strconv_ParseInt_10_at64_ok s (by omega) v h W).mono ?_
  rintro e w' ⟨rfl, hw⟩
  refine ⟨rfl, ?_⟩
  rcases hw with rfl | ⟨t, rfl⟩
  · exact Go.RowKit.Below.refl _ _
  · exact Lib.bytesWorld_below _ _ _

theorem parseNo33 (s : ByteArray) (hs : s.size ≤ 281474976710656) (h : ∀ v, Lib.parseIntB 64 s.data.toList ≠ .ok v) (W : World) (hg : GInv W) :
    Calls Tryz.prog 33 #[.string s, .int .i64 10, .int .i64 64] W fun e w' => ∃ n t N, e = .returned (.tuple #[.int .i64 n, .iface t (.pointer (some ⟨N, 0, none⟩))]) ∧ Go.RowKit.Below W.heap.size W w' := by
  obtain ⟨es, hes, hes2⟩ := errSyntaxG hg
  obtain ⟨er, her, her2⟩ := errRangeG hg
  rcases hp : Lib.parseIntB 64 s.data.toList with v | _ | _
  · exact absurd hp (h v)
  · refine (Tryz.strconv_ParseInt_10_at64_syntax s hs hp es W hes hes2).mono ?_
    rintro e w' ⟨N, rfl, _, _, hb⟩
    exact ⟨_, _, _, rfl, hb⟩
  · refine (Tryz.strconv_ParseInt_10_at64_range s hs hp er W her her2).mono ?_
    rintro e w' ⟨N, rfl, _, _, hb⟩
    exact ⟨_, _, _, rfl, hb⟩

end Go.Proofs.YtcppjmlhilklcaaGreatDoor

/- Function 35 (strconv.FormatInt): its contract, off what is known of the library. -/
set_option linter.unusedVariables false
set_option linter.unusedSimpArgs false
set_option maxRecDepth 100000
namespace Go.Proofs.YtcppjmlhilklcaaGreatDoor
open Go Go.Am Go.Proofs

def sig35 : List AT := [AT.v (Ty.int .i64), AT.v (Ty.int .i64)]
def g35_0 (x0 x1 : Int) : ByteArray := numB x0
def P35 (x0 x1 : Int) : Prop := x1 = 10
def S35 : Am.Spec := { sig := sig35, pre := fun ⟨x0, x1, _⟩ => P35 x0 x1, res := fun ⟨x0, x1, _⟩ => [⟨Ty.str, g35_0 x0 x1⟩] }
theorem con35 : Contract Tryz.prog 35 S35 := contract_flat rfl fun w ⟨x0, x1, _⟩ vs bss hg hp hw ha => by
  obtain ⟨v0, s0, _, _, rfl, _, ⟨_, rfl, hi⟩, v1, s1, _, _, rfl, _, ⟨_, rfl, _⟩, rfl, _⟩ := ha
  obtain rfl : x1 = 10 := hp
  have hi : InR .i64 x0 := hi
  rw [i64_iff] at hi
  refine ⟨fun d hd => ?_, ?_⟩
  · rw [List.mem_singleton.1 hd]
    refine ⟨rfl, ?_⟩
    show (numB x0).size ≤ maxLen
    have := numB_size x0 hi.1 hi.2
    unfold maxLen; omega
  · refine (Tryz.strconv_FormatInt_10 x0 hi.1 hi.2 w (pow10G hg)).mono ?_
    rintro e w' ⟨rfl, n, os, rfl⟩
    exact ⟨rfl, kept_grow _ _ _⟩

end Go.Proofs.YtcppjmlhilklcaaGreatDoor

/- Function 18 (impl.Decimal): its runs between cut points. Written by a program of this repo (gen). -/
set_option linter.unusedVariables false
set_option linter.unusedSimpArgs false
set_option maxRecDepth 100000
namespace Go.Proofs.YtcppjmlhilklcaaGreatDoor
open Go Go.Am Go.Proofs
def ext18 : Ext := [(35, S35)]
theorem call18_35 : Callable Tryz.prog 35 := ⟨Tryz.f35, Tryz.func35, by kernel_rfl, by kernel_rfl⟩
theorem ext18Ok : ExtOk Tryz.prog ext18 := ⟨⟨call18_35, con35⟩, trivial⟩
/-! Function 18. -/
noncomputable def b18 : Code := bodyOf Tryz.f18
theorem hb18 : Tryz.f18.body = some b18 := by kernel_rfl
def sig18 : List AT := [AT.v (Ty.int IntKind.i64)]
def tys18 : List Ty := [Ty.str]
def P18 (x0 : Int) : Prop := ((P35 x0 10) ∧ True)
def g18_0 (x0 : Int) : ByteArray := g35_0 x0 10
theorem p18_0 (x0 : Int) : runF tab ext18 false 5 [] 2000 [] tys18 Tryz.f18.results [] [.code b18] (entE 0 0 sig18 (x0, ())) (entL sig18 (x0, ())) = some ([Dyn.mk Ty.str (g35_0 x0 10)], [], [P35 x0 10]) := by kernel_rfl
theorem at18 (x0 : Int) (h : P18 x0) (w0 : World) (O : List Nat) (q : Nat → Value) : AtV Tryz.prog 18 (PostR [⟨Ty.str, g18_0 x0⟩] [] [] q w0 O) 5 w0 O q [] [.code b18] (entE 0 0 sig18 (x0, ())) (entL sig18 (x0, ())) := by
  unfold P18 at h
  unfold g18_0
  obtain ⟨s0, h⟩ := h
  exact AtV.fin Tryz.func18 tabOk ext18Ok mixed (p18_0 x0) ⟨s0, trivial⟩

def S18 : Am.Spec := { sig := sig18, pre := fun ⟨x0, _⟩ => P18 x0, res := fun ⟨x0, _⟩ => [⟨Ty.str, g18_0 x0⟩] }
theorem con18 : Contract Tryz.prog 18 S18 := contract_of Tryz.func18 hb18 (Nat.le_of_ble_eq_true (by kernel_rfl)) (fun ⟨x0, _⟩ h _ w0 O q => at18 x0 h w0 O q)


end Go.Proofs.YtcppjmlhilklcaaGreatDoor

/- Function 15 (impl.ReadDecimal): its contract; by the kit's walk, the callees by their contracts. -/
set_option linter.unusedVariables false
set_option linter.unusedSimpArgs false
set_option maxRecDepth 100000
namespace Go.Proofs.YtcppjmlhilklcaaGreatDoor
open Go Go.Am Go.Proofs Go.RowKit

theorem dec15 (W : World) (n : Int) (hi : InR .i64 n) (hgo : GOk W []) :
    Calls Tryz.prog 18 #[.int .i64 n] W fun e w' => e = .returned (.string (numB n)) ∧ Below W.heap.size W w' := by
  have h := con18 W (n, ()) [.int .i64 n] [[]] hgo ⟨rfl, trivial⟩ ⟨_, [], [], [], rfl, rfl, ⟨rfl, rfl, hi⟩, rfl, rfl⟩ (by simp)
  refine h.mono ?_
  rintro e w' ⟨rs, ubs, rbs, rfl, hk, ⟨u, s, b1, bs1, cs, rfl, rfl, ho, hv, rfl, rfl⟩, _⟩
  obtain ⟨ho, _⟩ := ho
  have hv : cs = [u] := hv
  rw [ho] at hv
  cases hv
  exact ⟨rfl, hk.below⟩

theorem trim15 (W : World) (s d : ByteArray) (h : g16_0 s ⟨#[45]⟩ = d) : Calls Tryz.prog 16 #[.string s, .string ⟨#[45]⟩] W fun e w' => e = .returned (.string d) ∧ w' = W := by
  rw [← h]
  exact Tryz.strings_TrimPrefix s ⟨#[45]⟩ W

theorem gok15 {w W : World} (h : GOk w []) (hb : Below w.heap.size w W) : GOk W [] where
  inv := h.inv.keep fun b _ hs => hb.5 b hs
  size := Nat.le_trans h.size hb.4
  out := h.out

theorem range15 {l : List UInt8} {v : Int} (h : Lib.parseIntB 64 l = .ok v) : InR .i64 v := by
  unfold Lib.parseIntB at h
  split at h
  · cases h
  · simp only at h
    split at h
    · cases h
    · cases h
    · split at h
      · cases h
      · split at h
        · cases h
        · rename_i u _ h1 h2
          have e1 : (2 : Nat) ^ (64 - 1) = 9223372036854775808 := by decide
          rw [e1] at h1 h2
          rw [i64_iff]
          split at h
          · cases h; rename_i hn; have : ¬ 9223372036854775808 < u := fun hh => h2 ⟨hn, hh⟩; omega
          · cases h; rename_i hn; have : ¬ 9223372036854775808 ≤ u := fun hh => h1 ⟨hn, hh⟩; omega

def long15 (s : ByteArray) : Bool := decide ((g16_0 s ⟨#[45]⟩).size < 1) || decide (18 < (g16_0 s ⟨#[45]⟩).size)
def rd15 (s : ByteArray) : Option Int := if long15 s = true then none else match Lib.parseIntB 64 s.data.toList with
  | .ok v => if numB v = s then some v else none
  | _ => none

set_option maxHeartbeats 4000000 in
theorem walkShort15 (w : World) (s d : ByteArray) (HD : Aside (g16_0 s ⟨#[45]⟩ = d)) (h1 : (d.size : Int) < 1) :
    Calls Tryz.prog 15 #[.string s] w fun e w' => e = .returned (.tuple #[.int .i64 0, .bool false]) ∧ Below w.heap.size w w' := by
  have mixed := mixed
  go_enter Tryz.func15, Tryz.ntmps15
  go_wp2_with (go_at_call 16; refine (trim15 _ s d HD.out).mono ?_; rintro e w1 ⟨rfl, rfl⟩)
  go_ret2
  exact ⟨rfl, Below.refl _ _⟩

set_option maxHeartbeats 4000000 in
theorem walkLong15 (w : World) (s d : ByteArray) (HD : Aside (g16_0 s ⟨#[45]⟩ = d)) (h1 : ¬ (d.size : Int) < 1) (h2 : (d.size : Int) > 18) :
    Calls Tryz.prog 15 #[.string s] w fun e w' => e = .returned (.tuple #[.int .i64 0, .bool false]) ∧ Below w.heap.size w w' := by
  have mixed := mixed
  go_enter Tryz.func15, Tryz.ntmps15
  go_wp2_with (go_at_call 16; refine (trim15 _ s d HD.out).mono ?_; rintro e w1 ⟨rfl, rfl⟩)
  go_ret2
  exact ⟨rfl, Below.refl _ _⟩

set_option maxHeartbeats 4000000 in
theorem walkEq15 (w : World) (s d : ByteArray) (hs : s.size ≤ 281474976710656) (hgo : GOk w []) (HD : Aside (g16_0 s ⟨#[45]⟩ = d)) (h1 : ¬ (d.size : Int) < 1) (h2 : ¬ (d.size : Int) > 18) (v : Int) (HP : Aside (Lib.parseIntB 64 s.data.toList = .ok v)) (HE : Aside (numB v = s)) :
    Calls Tryz.prog 15 #[.string s] w fun e w' => e = .returned (.tuple #[.int .i64 v, .bool true]) ∧ Below w.heap.size w w' := by
  have mixed := mixed
  go_enter Tryz.func15, Tryz.ntmps15
  go_wp2_with (go_at_call 16; refine (trim15 _ s d HD.out).mono ?_; rintro e w1 ⟨rfl, rfl⟩)
  have HR : Aside (InR .i64 v) := range15 HP.out
  go_wp2_with (go_at_call 33; refine (parseOk33 s hs v HP.out _).mono ?_)
  rintro e w2 ⟨rfl, b2⟩
  go_wp2_with (go_at_call 18; refine (dec15 _ v HR.out (gok15 hgo b2)).mono ?_)
  rintro e w3 ⟨rfl, b3⟩
  rw [HE.out]
  go_wp2
  go_ret2
  exact ⟨rfl, b2.trans (b3.mono b2.size)⟩

set_option maxHeartbeats 4000000 in
theorem walkNe15 (w : World) (s d : ByteArray) (hs : s.size ≤ 281474976710656) (hgo : GOk w []) (HD : Aside (g16_0 s ⟨#[45]⟩ = d)) (h1 : ¬ (d.size : Int) < 1) (h2 : ¬ (d.size : Int) > 18) (v : Int) (HP : Aside (Lib.parseIntB 64 s.data.toList = .ok v)) (HE : Aside (¬ numB v = s)) :
    Calls Tryz.prog 15 #[.string s] w fun e w' => e = .returned (.tuple #[.int .i64 0, .bool false]) ∧ Below w.heap.size w w' := by
  have mixed := mixed
  go_enter Tryz.func15, Tryz.ntmps15
  go_wp2_with (go_at_call 16; refine (trim15 _ s d HD.out).mono ?_; rintro e w1 ⟨rfl, rfl⟩)
  have HR : Aside (InR .i64 v) := range15 HP.out
  go_wp2_with (go_at_call 33; refine (parseOk33 s hs v HP.out _).mono ?_)
  rintro e w2 ⟨rfl, b2⟩
  go_wp2_with (go_at_call 18; refine (dec15 _ v HR.out (gok15 hgo b2)).mono ?_)
  rintro e w3 ⟨rfl, b3⟩
  have he' : ((numB v).toList == s.toList) = false := by
    rw [Bool.eq_false_iff]; exact fun hh => HE.out ((bytes_eq _ _).1 hh)
  go_wp2
  go_ret2
  exact ⟨rfl, b2.trans (b3.mono b2.size)⟩

set_option maxHeartbeats 4000000 in
theorem walkNo15 (w : World) (s d : ByteArray) (hs : s.size ≤ 281474976710656) (hgo : GOk w []) (HD : Aside (g16_0 s ⟨#[45]⟩ = d)) (h1 : ¬ (d.size : Int) < 1) (h2 : ¬ (d.size : Int) > 18) (HP : Aside (∀ v, Lib.parseIntB 64 s.data.toList ≠ .ok v)) :
    Calls Tryz.prog 15 #[.string s] w fun e w' => e = .returned (.tuple #[.int .i64 0, .bool false]) ∧ Below w.heap.size w w' := by
  have mixed := mixed
  go_enter Tryz.func15, Tryz.ntmps15
  go_wp2_with (go_at_call 16; refine (trim15 _ s d HD.out).mono ?_; rintro e w1 ⟨rfl, rfl⟩)
  go_wp2_with (go_at_call 33; refine (parseNo33 s hs HP.out _ hgo.inv).mono ?_)
  rintro e w2 ⟨n, t, N, rfl, b2⟩
  go_wp2
  go_ret2
  exact ⟨rfl, b2⟩

def sig15 : List AT := [AT.v .str]
def g15_0 (x0 : ByteArray) : Int := (rd15 x0).getD 0
def g15_1 (x0 : ByteArray) : Bool := (rd15 x0).isSome
def P15 (x0 : ByteArray) : Prop := x0.size ≤ 281474976710656
def S15 : Am.Spec := { sig := sig15, pre := fun ⟨x0, _⟩ => P15 x0, res := fun ⟨x0, _⟩ => [⟨.int .i64, g15_0 x0⟩, ⟨.bool, g15_1 x0⟩] }

theorem con15 : Contract Tryz.prog 15 S15 := contract_flat rfl fun w ⟨x0, _⟩ vs bss hg hp hw ha => by
  obtain ⟨v0, s0, _, _, rfl, _, ⟨_, rfl, _⟩, rfl, _⟩ := ha
  have hs : x0.size ≤ 281474976710656 := hp
  have hgo : GOk w [] := ⟨hg, hg.size, fun b hb => by cases hb⟩
  refine ⟨fun d hd => ?_, ?_⟩
  · simp only [List.mem_cons, List.mem_nil_iff, or_false] at hd
    rcases hd with rfl | rfl
    · refine ⟨rfl, ?_⟩
      show InR .i64 ((rd15 x0).getD 0)
      have z : InR .i64 0 := by rw [i64_iff]; omega
      unfold rd15
      split
      · exact z
      · split
        · rename_i v h
          split
          · exact range15 h
          · exact z
        · exact z
    · exact ⟨rfl, trivial⟩
  · show Calls Tryz.prog 15 #[.string x0] w fun e w' => e = .returned (.tuple #[.int .i64 ((rd15 x0).getD 0), .bool (rd15 x0).isSome]) ∧ Kept [] w w'
    have hd : Aside (g16_0 x0 ⟨#[45]⟩ = g16_0 x0 ⟨#[45]⟩) := rfl
    unfold rd15 long15
    by_cases h1 : (g16_0 x0 ⟨#[45]⟩).size < 1
    · rw [if_pos (by simp [h1])]
      refine (walkShort15 w x0 _ hd (by omega)).mono ?_
      rintro e w' ⟨rfl, hb⟩
      exact ⟨rfl, Kept.of_below hb⟩
    · by_cases h2 : 18 < (g16_0 x0 ⟨#[45]⟩).size
      · rw [if_pos (by simp [h2])]
        refine (walkLong15 w x0 _ hd (by omega) (by omega)).mono ?_
        rintro e w' ⟨rfl, hb⟩
        exact ⟨rfl, Kept.of_below hb⟩
      · rw [if_neg (by simp [h1, h2])]
        by_cases hok : ∃ v, Lib.parseIntB 64 x0.data.toList = .ok v
        · obtain ⟨v, hv⟩ := hok
          rw [hv]
          by_cases he : numB v = x0
          · simp only [if_pos he]
            refine (walkEq15 w x0 _ hs hgo hd (by omega) (by omega) v hv he).mono ?_
            rintro e w' ⟨rfl, hb⟩
            exact ⟨rfl, Kept.of_below hb⟩
          · simp only [if_neg he]
            refine (walkNe15 w x0 _ hs hgo hd (by omega) (by omega) v hv he).mono ?_
            rintro e w' ⟨rfl, hb⟩
            exact ⟨rfl, Kept.of_below hb⟩
        · have hno : ∀ v, Lib.parseIntB 64 x0.data.toList ≠ .ok v := fun v hv => hok ⟨v, hv⟩
          have e : (match Lib.parseIntB 64 x0.data.toList with
            | .ok v => if numB v = x0 then some v else none
            | _ => none : Option Int) = none := by
            split
            · rename_i v hv; exact absurd hv (hno v)
            · rfl
          rw [e]
          refine (walkNo15 w x0 _ hs hgo hd (by omega) (by omega) hno).mono ?_
          rintro e w' ⟨rfl, hb⟩
          exact ⟨rfl, Kept.of_below hb⟩
end Go.Proofs.YtcppjmlhilklcaaGreatDoor

/- Function 17 (impl.within): its runs between cut points. Written by a program of this repo (gen). -/
set_option linter.unusedVariables false
set_option linter.unusedSimpArgs false
set_option maxRecDepth 100000
namespace Go.Proofs.YtcppjmlhilklcaaGreatDoor
open Go Go.Am Go.Proofs
def ext17 : Ext := []
theorem ext17Ok : ExtOk Tryz.prog ext17 := trivial
/-! Function 17. -/
noncomputable def b17 : Code := bodyOf Tryz.f17
theorem hb17 : Tryz.f17.body = some b17 := by kernel_rfl
def sig17 : List AT := [AT.v (Ty.int IntKind.i64), AT.v (Ty.int IntKind.i64), AT.v (Ty.int IntKind.i64)]
def tys17 : List Ty := [Ty.bool]
def P17 (x0 : Int) (x1 : Int) (x2 : Int) : Prop := True
def g17_0 (x0 : Int) (x1 : Int) (x2 : Int) : Bool := (if (Decidable.decide (x0 ≥ x1)) = true then Decidable.decide (x0 ≤ x2) else Bool.false)
theorem p17_0 (x0 : Int) (x1 : Int) (x2 : Int) : runF tab ext17 false 15 [] 2000 [] tys17 Tryz.f17.results [true] [.code b17] (entE 0 0 sig17 (x0, x1, x2, ())) (entL sig17 (x0, x1, x2, ())) = some ([Dyn.mk Ty.bool (Decidable.decide (x0 ≤ x2))], [], [Decidable.decide (x0 ≥ x1) = Bool.true]) := by kernel_rfl
theorem p17_1 (x0 : Int) (x1 : Int) (x2 : Int) : runF tab ext17 false 15 [] 2000 [] tys17 Tryz.f17.results [false] [.code b17] (entE 0 0 sig17 (x0, x1, x2, ())) (entL sig17 (x0, x1, x2, ())) = some ([Dyn.mk Ty.bool Bool.false], [], [Decidable.decide (x0 ≥ x1) = Bool.false]) := by kernel_rfl
theorem at17 (x0 : Int) (x1 : Int) (x2 : Int) (h : P17 x0 x1 x2) (w0 : World) (O : List Nat) (q : Nat → Value) : AtV Tryz.prog 17 (PostR [⟨Ty.bool, g17_0 x0 x1 x2⟩] [] [] q w0 O) 15 w0 O q [] [.code b17] (entE 0 0 sig17 (x0, x1, x2, ())) (entL sig17 (x0, x1, x2, ())) := by
  unfold P17 at h
  unfold g17_0
  by_cases b0 : (Decidable.decide (x0 ≥ x1)) = true
  · try simp only [if_pos b0] at h ⊢
    exact AtV.fin Tryz.func17 tabOk ext17Ok mixed (p17_0 x0 x1 x2) ⟨b0, trivial⟩
  · try simp only [if_neg b0] at h ⊢
    replace b0 := Bool.eq_false_iff.2 b0
    exact AtV.fin Tryz.func17 tabOk ext17Ok mixed (p17_1 x0 x1 x2) ⟨b0, trivial⟩

def S17 : Am.Spec := { sig := sig17, pre := fun ⟨x0, x1, x2, _⟩ => P17 x0 x1 x2, res := fun ⟨x0, x1, x2, _⟩ => [⟨Ty.bool, g17_0 x0 x1 x2⟩] }
theorem con17 : Contract Tryz.prog 17 S17 := contract_of Tryz.func17 hb17 (Nat.le_of_ble_eq_true (by kernel_rfl)) (fun ⟨x0, x1, x2, _⟩ h _ w0 O q => at17 x0 x1 x2 h w0 O q)


end Go.Proofs.YtcppjmlhilklcaaGreatDoor

/- Function 36 (strings.Cut): its contract, off what is known of the library. -/
set_option linter.unusedVariables false
set_option linter.unusedSimpArgs false
set_option maxRecDepth 100000
namespace Go.Proofs.YtcppjmlhilklcaaGreatDoor
open Go Go.Am Go.Proofs

def sig36 : List AT := [AT.v Ty.str, AT.v Ty.str]
def g36_0 (x0 x1 : ByteArray) : ByteArray := ⟨(Lib.cut x0.data.toList x1.data.toList).1.toArray⟩
def g36_1 (x0 x1 : ByteArray) : ByteArray := ⟨(Lib.cut x0.data.toList x1.data.toList).2.1.toArray⟩
def g36_2 (x0 x1 : ByteArray) : Bool := (Lib.cut x0.data.toList x1.data.toList).2.2
def P36 (x0 x1 : ByteArray) : Prop := x0.size < 4294967281
def S36 : Am.Spec := { sig := sig36, pre := fun ⟨x0, x1, _⟩ => P36 x0 x1, res := fun ⟨x0, x1, _⟩ => [⟨Ty.str, g36_0 x0 x1⟩, ⟨Ty.str, g36_1 x0 x1⟩, ⟨Ty.bool, g36_2 x0 x1⟩] }
theorem cutLen36 (s sep : List UInt8) : (Lib.cut s sep).1.length ≤ s.length ∧ (Lib.cut s sep).2.1.length ≤ s.length := by
  unfold Lib.cut
  split
  · exact ⟨by simp; omega, by simp⟩
  · exact ⟨Nat.le_refl _, Nat.zero_le _⟩
theorem con36 : Contract Tryz.prog 36 S36 := contract_flat rfl fun w ⟨x0, x1, _⟩ vs bss hg hp hw ha => by
  obtain ⟨v0, s0, _, _, rfl, _, ⟨_, rfl, _⟩, v1, s1, _, _, rfl, _, ⟨_, rfl, _⟩, rfl, _⟩ := ha
  have hp : x0.size < 4294967281 := hp
  obtain ⟨l1, l2⟩ := cutLen36 x0.data.toList x1.data.toList
  have e : x0.data.toList.length = x0.size := rfl
  refine ⟨fun d hd => ?_, ?_⟩
  · simp only [S36, List.mem_cons, List.mem_nil_iff, or_false] at hd
    rcases hd with rfl | rfl | rfl
    · refine ⟨rfl, ?_⟩
      show (List.toArray _).size ≤ maxLen
      rw [List.size_toArray]; unfold maxLen; omega
    · refine ⟨rfl, ?_⟩
      show (List.toArray _).size ≤ maxLen
      rw [List.size_toArray]; unfold maxLen; omega
    · exact ⟨rfl, trivial⟩
  · obtain ⟨m, hm⟩ := maxLenG hg
    refine (Tryz.strings_Cut x0 x1 m w hp hm).mono ?_
    rintro e w' ⟨rfl, n, rfl⟩
    exact ⟨rfl, ⟨rfl, rfl, rfl, Nat.le_refl _, fun _ _ _ => rfl⟩⟩

end Go.Proofs.YtcppjmlhilklcaaGreatDoor

/- Function 37 (impl.Crc16): its runs between cut points. Written by a program of this repo (gen). -/
set_option linter.unusedVariables false
set_option linter.unusedSimpArgs false
set_option maxRecDepth 100000
namespace Go.Proofs.YtcppjmlhilklcaaGreatDoor
open Go Go.Am Go.Proofs
def ext37 : Ext := [(17, S17)]
theorem call37_17 : Callable Tryz.prog 17 := ⟨Tryz.f17, Tryz.func17, by kernel_rfl, by kernel_rfl⟩
theorem ext37Ok : ExtOk Tryz.prog ext37 := ⟨⟨call37_17, con17⟩, trivial⟩
/-! Function 37. -/
noncomputable def b37 : Code := bodyOf Tryz.f37
theorem hb37 : Tryz.f37.body = some b37 := by kernel_rfl
def sig37 : List AT := [AT.v (Ty.str), AT.v (Ty.int IntKind.i64)]
def tys37 : List Ty := [Ty.int IntKind.i64]
def E37_5 (v15 : Int) (x1 : Int) (x0 : ByteArray) : Env := [(5, PV.a (Atom.val (Value.int IntKind.i64 x1))), (13, PV.a (Atom.osl 0 Option.none)), (14, PV.a (Atom.val (Value.int IntKind.i64 (↑(List.length (bytesOf x0)) : Int)))), (15, PV.a (Atom.val (Value.int IntKind.i64 v15)))]
def L37_5 (v15 : Int) (x1 : Int) (x0 : ByteArray) : Heap := [Option.some (Arr.mk (Ty.int IntKind.u8) (bytesOf x0) Bool.false)]
def E37_9 (v5 : Int) (v24 : Int) (x0 : ByteArray) (v15 : Int) : Env := [(5, PV.a (Atom.val (Value.int IntKind.i64 v5))), (13, PV.a (Atom.osl 0 Option.none)), (14, PV.a (Atom.val (Value.int IntKind.i64 (↑(List.length (bytesOf x0)) : Int)))), (15, PV.a (Atom.val (Value.int IntKind.i64 v15))), (24, PV.a (Atom.val (Value.int IntKind.i64 v24)))]
def L37_9 (v5 : Int) (v24 : Int) (x0 : ByteArray) (v15 : Int) : Heap := [Option.some (Arr.mk (Ty.int IntKind.u8) (bytesOf x0) Bool.false)]
mutual
def R37 : Nat → ByteArray → Int → List Dyn → Prop
  | 0, _, _, _ => False
  | n + 1, x0, x1, ds => (if (!g17_0 x1 0 65535) = true then (ds = [Dyn.mk (Ty.int IntKind.i64) 0]) else (R37_5 n (0) (x1) (x0) ds))
def R37_5 : Nat → Int → Int → ByteArray → List Dyn → Prop
  | 0, _, _, _, _ => False
  | n + 1, v15, x1, x0, ds => (if (Decidable.decide (v15 < (↑(List.length (bytesOf x0)) : Int))) = true then ((0 ≤ v15) ∧ (v15 < (↑(List.length (bytesOf x0)) : Int)) ∧ ((InR IntKind.i64 (List.getD (bytesOf x0) (Int.toNat v15) 0)) ∧ (R37_9 n (IntKind.wrap IntKind.i64 (↑(BitVec.toNat (BitVec.ofInt 64 x1 ^^^ BitVec.ofInt 64 (IntKind.wrap IntKind.i64 (List.getD (bytesOf x0) (Int.toNat v15) 0 * 256)))) : Int)) (0) (x0) (v15) ds))) else (ds = [Dyn.mk (Ty.int IntKind.i64) x1]))
def R37_9 : Nat → Int → Int → ByteArray → Int → List Dyn → Prop
  | 0, _, _, _, _, _ => False
  | n + 1, v5, v24, x0, v15, ds => (if (Decidable.decide (v24 < 8)) = true then (if (Decidable.decide (IntKind.wrap IntKind.i64 (v5 * 2) > 65535)) = true then ((InR IntKind.i64 (v24 + 1)) ∧ (R37_9 n (IntKind.wrap IntKind.i64 (↑(BitVec.toNat (BitVec.ofInt 64 (IntKind.wrap IntKind.i64 (↑(BitVec.toNat (BitVec.ofInt 64 (IntKind.wrap IntKind.i64 (v5 * 2)) &&& BitVec.ofInt 64 65535)) : Int)) ^^^ BitVec.ofInt 64 4129)) : Int)) (v24 + 1) (x0) (v15) ds)) else ((InR IntKind.i64 (v24 + 1)) ∧ (R37_9 n (IntKind.wrap IntKind.i64 (v5 * 2)) (v24 + 1) (x0) (v15) ds))) else ((InR IntKind.i64 (v15 + 1)) ∧ (R37_5 n (v15 + 1) (v5) (x0) ds)))
end
theorem p37_0 (x0 : ByteArray) (x1 : Int) : runF tab ext37 false 36 [] 2000 [] tys37 Tryz.f37.results [true] [.code b37] (entE 0 0 sig37 (x0, x1, ())) (entL sig37 (x0, x1, ())) = some ([Dyn.mk (Ty.int IntKind.i64) 0], [], [True, (!g17_0 x1 0 65535) = Bool.true]) := by kernel_rfl
theorem p37_1 (x0 : ByteArray) (x1 : Int) : Am.runN tab ext37 false 36 [] 2000 [] [] [5, 13, 14, 15] [0] [false] [.code b37] (entE 0 0 sig37 (x0, x1, ())) (entL sig37 (x0, x1, ())) = some (cutAt b37 5, E37_5 (0) (x1) (x0), L37_5 (0) (x1) (x0), [True, (!g17_0 x1 0 65535) = Bool.false]) := by kernel_rfl
theorem p37_2 (v15 : Int) (x1 : Int) (x0 : ByteArray) : Am.runN tab ext37 false 36 [] 2000 [] [] [5, 13, 14, 15, 24] [0] [true] (cutAt b37 5) (E37_5 v15 x1 x0) (L37_5 v15 x1 x0) = some (cutAt b37 9, E37_9 (IntKind.wrap IntKind.i64 (↑(BitVec.toNat (BitVec.ofInt 64 x1 ^^^ BitVec.ofInt 64 (IntKind.wrap IntKind.i64 (List.getD (bytesOf x0) (Int.toNat v15) 0 * 256)))) : Int)) (0) (x0) (v15), L37_9 (IntKind.wrap IntKind.i64 (↑(BitVec.toNat (BitVec.ofInt 64 x1 ^^^ BitVec.ofInt 64 (IntKind.wrap IntKind.i64 (List.getD (bytesOf x0) (Int.toNat v15) 0 * 256)))) : Int)) (0) (x0) (v15), [Decidable.decide (v15 < (↑(List.length (bytesOf x0)) : Int)) = Bool.true, 0 ≤ v15, v15 < (↑(List.length (bytesOf x0)) : Int), InR IntKind.i64 (List.getD (bytesOf x0) (Int.toNat v15) 0), (0 : Int) ≤ (8 : Int)]) := by kernel_rfl
theorem p37_3 (v15 : Int) (x1 : Int) (x0 : ByteArray) : runF tab ext37 false 36 [] 2000 [] tys37 Tryz.f37.results [false] (cutAt b37 5) (E37_5 v15 x1 x0) (L37_5 v15 x1 x0) = some ([Dyn.mk (Ty.int IntKind.i64) x1], [], [Decidable.decide (v15 < (↑(List.length (bytesOf x0)) : Int)) = Bool.false]) := by kernel_rfl
theorem p37_4 (v5 : Int) (v24 : Int) (x0 : ByteArray) (v15 : Int) : Am.runN tab ext37 false 36 [] 2000 [] [] [5, 13, 14, 15, 24] [0] [true, true] (cutAt b37 9) (E37_9 v5 v24 x0 v15) (L37_9 v5 v24 x0 v15) = some (cutAt b37 9, E37_9 (IntKind.wrap IntKind.i64 (↑(BitVec.toNat (BitVec.ofInt 64 (IntKind.wrap IntKind.i64 (↑(BitVec.toNat (BitVec.ofInt 64 (IntKind.wrap IntKind.i64 (v5 * 2)) &&& BitVec.ofInt 64 65535)) : Int)) ^^^ BitVec.ofInt 64 4129)) : Int)) (v24 + 1) (x0) (v15), L37_9 (IntKind.wrap IntKind.i64 (↑(BitVec.toNat (BitVec.ofInt 64 (IntKind.wrap IntKind.i64 (↑(BitVec.toNat (BitVec.ofInt 64 (IntKind.wrap IntKind.i64 (v5 * 2)) &&& BitVec.ofInt 64 65535)) : Int)) ^^^ BitVec.ofInt 64 4129)) : Int)) (v24 + 1) (x0) (v15), [Decidable.decide (v24 < 8) = Bool.true, (0 : Int) ≤ (1 : Int), Decidable.decide (IntKind.wrap IntKind.i64 (v5 * 2) > 65535) = Bool.true, InR IntKind.i64 (v24 + 1)]) := by kernel_rfl
theorem p37_5 (v5 : Int) (v24 : Int) (x0 : ByteArray) (v15 : Int) : Am.runN tab ext37 false 36 [] 2000 [] [] [5, 13, 14, 15, 24] [0] [true, false] (cutAt b37 9) (E37_9 v5 v24 x0 v15) (L37_9 v5 v24 x0 v15) = some (cutAt b37 9, E37_9 (IntKind.wrap IntKind.i64 (v5 * 2)) (v24 + 1) (x0) (v15), L37_9 (IntKind.wrap IntKind.i64 (v5 * 2)) (v24 + 1) (x0) (v15), [Decidable.decide (v24 < 8) = Bool.true, (0 : Int) ≤ (1 : Int), Decidable.decide (IntKind.wrap IntKind.i64 (v5 * 2) > 65535) = Bool.false, InR IntKind.i64 (v24 + 1)]) := by kernel_rfl
theorem p37_6 (v5 : Int) (v24 : Int) (x0 : ByteArray) (v15 : Int) : Am.runN tab ext37 false 36 [] 2000 [] [] [5, 13, 14, 15] [0] [false] (cutAt b37 9) (E37_9 v5 v24 x0 v15) (L37_9 v5 v24 x0 v15) = some (cutAt b37 5, E37_5 (v15 + 1) (v5) (x0), L37_5 (v15 + 1) (v5) (x0), [Decidable.decide (v24 < 8) = Bool.false, InR IntKind.i64 (v15 + 1)]) := by kernel_rfl
theorem snd37 : ∀ n, (∀ (x0 : ByteArray) (x1 : Int) ds, R37 n x0 x1 ds → ∀ w0 O q, AtV Tryz.prog 37 (PostR ds [] [] q w0 O) 36 w0 O q [] [.code b37] (entE 0 0 sig37 (x0, x1, ())) (entL sig37 (x0, x1, ()))) ∧ (∀ (v15 : Int) (x1 : Int) (x0 : ByteArray) ds, R37_5 n v15 x1 x0 ds → ∀ w0 O q, AtV Tryz.prog 37 (PostR ds [] [] q w0 O) 36 w0 O q [] (cutAt b37 5) (E37_5 v15 x1 x0) (L37_5 v15 x1 x0)) ∧ (∀ (v5 : Int) (v24 : Int) (x0 : ByteArray) (v15 : Int) ds, R37_9 n v5 v24 x0 v15 ds → ∀ w0 O q, AtV Tryz.prog 37 (PostR ds [] [] q w0 O) 36 w0 O q [] (cutAt b37 9) (E37_9 v5 v24 x0 v15) (L37_9 v5 v24 x0 v15)) := by
  intro n
  induction n with
  | zero => exact ⟨fun _ _ _ h => by simp only [R37] at h, fun _ _ _ _ h => by simp only [R37_5] at h, fun _ _ _ _ _ h => by simp only [R37_9] at h⟩
  | succ n ih =>
  obtain ⟨ih, ih5, ih9⟩ := ih
  refine ⟨?_, ?_, ?_⟩
  · intro x0 x1 ds h w0 O q
    rw [R37] at h
    by_cases b0 : (!g17_0 x1 0 65535) = true
    · rw [if_pos b0] at h
      subst h
      exact AtV.fin Tryz.func37 tabOk ext37Ok mixed (p37_0 x0 x1) ⟨trivial, b0, trivial⟩
    · rw [if_neg b0] at h
      replace b0 := Bool.eq_false_iff.2 b0
      exact AtV.runN tabOk ext37Ok mixed (p37_1 x0 x1) ⟨trivial, b0, trivial⟩ (ih5 _ _ _ _ h w0 O q)

  · intro v15 x1 x0 ds h w0 O q
    rw [R37_5] at h
    by_cases b0 : (Decidable.decide (v15 < (↑(List.length (bytesOf x0)) : Int))) = true
    · rw [if_pos b0] at h
      obtain ⟨s0, s1, h⟩ := h
      obtain ⟨s2, h⟩ := h
      exact AtV.runN tabOk ext37Ok mixed (p37_2 v15 x1 x0) ⟨b0, s0, s1, s2, (by decide), trivial⟩ (ih9 _ _ _ _ _ h w0 O q)
    · rw [if_neg b0] at h
      replace b0 := Bool.eq_false_iff.2 b0
      subst h
      exact AtV.fin Tryz.func37 tabOk ext37Ok mixed (p37_3 v15 x1 x0) ⟨b0, trivial⟩

  · intro v5 v24 x0 v15 ds h w0 O q
    rw [R37_9] at h
    by_cases b0 : (Decidable.decide (v24 < 8)) = true
    · rw [if_pos b0] at h
      by_cases b1 : (Decidable.decide (IntKind.wrap IntKind.i64 (v5 * 2) > 65535)) = true
      · rw [if_pos b1] at h
        obtain ⟨s0, h⟩ := h
        exact AtV.runN tabOk ext37Ok mixed (p37_4 v5 v24 x0 v15) ⟨b0, (by decide), b1, s0, trivial⟩ (ih9 _ _ _ _ _ h w0 O q)
      · rw [if_neg b1] at h
        replace b1 := Bool.eq_false_iff.2 b1
        obtain ⟨s0, h⟩ := h
        exact AtV.runN tabOk ext37Ok mixed (p37_5 v5 v24 x0 v15) ⟨b0, (by decide), b1, s0, trivial⟩ (ih9 _ _ _ _ _ h w0 O q)
    · rw [if_neg b0] at h
      replace b0 := Bool.eq_false_iff.2 b0
      obtain ⟨s0, h⟩ := h
      exact AtV.runN tabOk ext37Ok mixed (p37_6 v5 v24 x0 v15) ⟨b0, s0, trivial⟩ (ih5 _ _ _ _ h w0 O q)



def bit37 (s : Int) : Int := if (Decidable.decide (IntKind.wrap IntKind.i64 (s * 2) > 65535)) = true then (IntKind.wrap IntKind.i64 (↑(BitVec.toNat (BitVec.ofInt 64 (IntKind.wrap IntKind.i64 (↑(BitVec.toNat (BitVec.ofInt 64 (IntKind.wrap IntKind.i64 (s * 2)) &&& BitVec.ofInt 64 65535)) : Int)) ^^^ BitVec.ofInt 64 4129)) : Int)) else (IntKind.wrap IntKind.i64 (s * 2))
def bits37 : Nat → Int → Int
  | 0, s => s
  | k + 1, s => bits37 k (bit37 s)
def byte37 (s c : Int) : Int := bits37 8 (IntKind.wrap IntKind.i64 (↑(BitVec.toNat (BitVec.ofInt 64 s ^^^ BitVec.ofInt 64 (IntKind.wrap IntKind.i64 (c * 256)))) : Int))
def g37_0 (x0 : ByteArray) (x1 : Int) : Int := if (!g17_0 x1 0 65535) = true then 0 else (bytesOf x0).foldl byte37 x1
def P37 (x0 : ByteArray) (x1 : Int) : Prop := True

theorem inner37 (x0 : ByteArray) (hm : (bytesOf x0).length ≤ maxLen) (i n : Nat) (hi : i < (bytesOf x0).length) (ds : List Dyn) : ∀ (k j : Nat) (s : Int), j + k = 8 → R37_5 n ((i : Int) + 1) (bits37 k s) x0 ds → R37_9 (n + 1 + k) s (j : Int) x0 (i : Int) ds := by
  intro k
  induction k with
  | zero =>
    intro j s hj hr
    rw [R37_9, if_neg (by simp; omega)]
    exact ⟨inR_up hm hi, hr⟩
  | succ k ih =>
    intro j s hj hr
    have e2 : (j : Int) + 1 = ((j + 1 : Nat) : Int) := by omega
    rw [show n + 1 + (k + 1) = (n + 1 + k) + 1 by omega, R37_9, if_pos (by simp; omega)]
    unfold bits37 bit37 at hr
    by_cases hc : (Decidable.decide (IntKind.wrap IntKind.i64 (s * 2) > 65535)) = true
    · rw [if_pos hc] at hr ⊢
      rw [e2]
      exact ⟨by rw [i64_iff]; omega, ih (j + 1) _ (by omega) hr⟩
    · rw [if_neg hc] at hr ⊢
      rw [e2]
      exact ⟨by rw [i64_iff]; omega, ih (j + 1) _ (by omega) hr⟩

theorem run37 (x0 : ByteArray) (hm : x0.size ≤ maxLen) : ∀ (k i : Nat) (s : Int), i + k = x0.size → ∃ n, R37_5 n (i : Int) s x0 [⟨.int .i64, ((bytesOf x0).drop i).foldl byte37 s⟩] := by
  intro k
  have hl := bytesOf_length x0
  induction k with
  | zero =>
    intro i s hi
    refine ⟨1, ?_⟩
    rw [R37_5, if_neg (by rw [hl]; simp; omega), List.drop_of_length_le (by omega)]
    rfl
  | succ k ih =>
    intro i s hi
    have hlt : i < (bytesOf x0).length := by omega
    have hcons := drop_get (bytesOf x0) i 0 hlt
    obtain ⟨n, hn⟩ := ih (i + 1) (byte37 s ((bytesOf x0).getD i 0)) (by omega)
    refine ⟨n + 1 + 8 + 1, ?_⟩
    have hb := bytesOf_range x0 _ (mem_getD (bytesOf x0) i 0 hlt)
    rw [R37_5, if_pos (by rw [hl]; simp; omega)]
    simp only [Int.toNat_natCast]
    rw [hcons, List.foldl_cons]
    exact ⟨by omega, by omega, by rw [i64_iff]; omega, inner37 x0 (by rw [hl]; exact hm) i n hlt _ 8 0 _ (by omega) hn⟩

theorem top37 (x0 : ByteArray) (x1 : Int) (hm : x0.size ≤ maxLen) : ∃ n, R37 n x0 x1 [⟨.int .i64, g37_0 x0 x1⟩] := by
  obtain ⟨n, hn⟩ := run37 x0 hm x0.size 0 x1 (by omega)
  refine ⟨n + 1, ?_⟩
  rw [R37]
  unfold g37_0
  by_cases hc : (!g17_0 x1 0 65535) = true
  · rw [if_pos hc, if_pos hc]
  · rw [if_neg hc, if_neg hc]
    exact hn

def S37 : Am.Spec := { sig := sig37, pre := fun ⟨x0, x1, _⟩ => P37 x0 x1, res := fun ⟨x0, x1, _⟩ => [⟨Ty.int .i64, g37_0 x0 x1⟩] }
theorem con37 : Contract Tryz.prog 37 S37 := contract_of Tryz.func37 hb37 (Nat.le_of_ble_eq_true (by kernel_rfl)) (fun ⟨x0, x1, _⟩ h hwf w0 O q =>
  let ⟨n, hn⟩ := top37 x0 x1 hwf.1
  (snd37 n).1 x0 x1 _ hn w0 O q)

end Go.Proofs.YtcppjmlhilklcaaGreatDoor

/- Function 38 (strings.Repeat): its contract, off what is known of the library. -/
set_option linter.unusedVariables false
set_option linter.unusedSimpArgs false
set_option maxRecDepth 100000
namespace Go.Proofs.YtcppjmlhilklcaaGreatDoor
open Go Go.Am Go.Proofs

def sig38 : List AT := [AT.v Ty.str, AT.v (Ty.int .i64)]
def g38_0 (x0 : ByteArray) (x1 : Int) : ByteArray := ⟨(Lib.repeatL x0.data.toList x1.toNat).toArray⟩
def P38 (x0 : ByteArray) (x1 : Int) : Prop := 0 ≤ x1 ∧ (x0.size : Int) * x1 ≤ 140737488355328
def S38 : Am.Spec := { sig := sig38, pre := fun ⟨x0, x1, _⟩ => P38 x0 x1, res := fun ⟨x0, x1, _⟩ => [⟨Ty.str, g38_0 x0 x1⟩] }
theorem con38 : Contract Tryz.prog 38 S38 := contract_flat rfl fun w ⟨x0, x1, _⟩ vs bss hg hp hw ha => by
  obtain ⟨v0, s0, _, _, rfl, _, ⟨_, rfl, _⟩, v1, s1, _, _, rfl, _, ⟨_, rfl, _⟩, rfl, _⟩ := ha
  obtain ⟨h0, h1⟩ := hp
  obtain ⟨c, rfl⟩ : ∃ c : Nat, x1 = (c : Int) := Int.eq_ofNat_of_zero_le h0
  have hi : InR .i64 (c : Int) := hw.2.1
  rw [i64_iff] at hi
  have hm : x0.size * c ≤ 140737488355328 := by
    have : ((x0.size * c : Nat) : Int) = (x0.size : Int) * (c : Int) := Int.natCast_mul _ _
    omega
  refine ⟨fun d hd => ?_, ?_⟩
  · rw [List.mem_singleton.1 hd]
    refine ⟨rfl, ?_⟩
    show (ByteArray.mk (Lib.repeatL x0.data.toList c).toArray).size ≤ maxLen
    have : (ByteArray.mk (Lib.repeatL x0.data.toList c).toArray).size = c * x0.data.toList.length := by
      show (Lib.repeatL x0.data.toList c).toArray.size = _
      rw [List.size_toArray, Lib.repeatL_length]
    rw [this, Nat.mul_comm]
    have e : x0.data.toList.length = x0.size := rfl
    rw [e]
    unfold maxLen
    omega
  · refine (Tryz.strings_Repeat x0 c w (by omega) hm).mono ?_
    rintro e w' ⟨rfl, hb⟩
    exact ⟨rfl, Kept.of_below hb⟩

end Go.Proofs.YtcppjmlhilklcaaGreatDoor

/- Function 59 (impl.IsName): its runs between cut points. Written by a program of this repo (gen). -/
set_option linter.unusedVariables false
set_option linter.unusedSimpArgs false
set_option maxRecDepth 100000
namespace Go.Proofs.YtcppjmlhilklcaaGreatDoor
open Go Go.Am Go.Proofs
def ext59 : Ext := []
theorem ext59Ok : ExtOk Tryz.prog ext59 := trivial
/-! Function 59. -/
noncomputable def b59 : Code := bodyOf Tryz.f59
theorem hb59 : Tryz.f59.body = some b59 := by kernel_rfl
def sig59 : List AT := [AT.v (Ty.str)]
def tys59 : List Ty := [Ty.bool]
def E59_4 (v18 : Int) (x0 : ByteArray) : Env := [(16, PV.a (Atom.osl 0 Option.none)), (17, PV.a (Atom.val (Value.int IntKind.i64 (↑(List.length (bytesOf x0)) : Int)))), (18, PV.a (Atom.val (Value.int IntKind.i64 v18)))]
def L59_4 (v18 : Int) (x0 : ByteArray) : Heap := [Option.some (Arr.mk (Ty.int IntKind.u8) (bytesOf x0) Bool.false)]
mutual
def R59 : Nat → ByteArray → List Dyn → Prop
  | 0, _, _ => False
  | n + 1, x0, ds => (if (Decidable.decide ((↑(ByteArray.size x0) : Int) < 1)) = true then (ds = [Dyn.mk Ty.bool Bool.false]) else (if (Decidable.decide ((↑(ByteArray.size x0) : Int) > 10)) = true then (ds = [Dyn.mk Ty.bool Bool.false]) else (R59_4 n (0) (x0) ds)))
def R59_4 : Nat → Int → ByteArray → List Dyn → Prop
  | 0, _, _, _ => False
  | n + 1, v18, x0, ds => (if (Decidable.decide (v18 < (↑(List.length (bytesOf x0)) : Int))) = true then ((0 ≤ v18) ∧ (v18 < (↑(List.length (bytesOf x0)) : Int)) ∧ (if (Decidable.decide (List.getD (bytesOf x0) (Int.toNat v18) 0 ≥ 97)) = true then (if (Decidable.decide (List.getD (bytesOf x0) (Int.toNat v18) 0 ≥ 48)) = true then (if (!Decidable.decide (List.getD (bytesOf x0) (Int.toNat v18) 0 ≤ 122)) = true then (if (v18 == 0) = true then (ds = [Dyn.mk Ty.bool Bool.false]) else (if (!Decidable.decide (List.getD (bytesOf x0) (Int.toNat v18) 0 ≤ 57)) = true then (ds = [Dyn.mk Ty.bool Bool.false]) else ((InR IntKind.i64 (v18 + 1)) ∧ (R59_4 n (v18 + 1) (x0) ds)))) else ((InR IntKind.i64 (v18 + 1)) ∧ (R59_4 n (v18 + 1) (x0) ds))) else (if (!Decidable.decide (List.getD (bytesOf x0) (Int.toNat v18) 0 ≤ 122)) = true then (if (v18 == 0) = true then (ds = [Dyn.mk Ty.bool Bool.false]) else (ds = [Dyn.mk Ty.bool Bool.false])) else ((InR IntKind.i64 (v18 + 1)) ∧ (R59_4 n (v18 + 1) (x0) ds)))) else (if (Decidable.decide (List.getD (bytesOf x0) (Int.toNat v18) 0 ≥ 48)) = true then (if (v18 == 0) = true then (ds = [Dyn.mk Ty.bool Bool.false]) else (if (!Decidable.decide (List.getD (bytesOf x0) (Int.toNat v18) 0 ≤ 57)) = true then (ds = [Dyn.mk Ty.bool Bool.false]) else ((InR IntKind.i64 (v18 + 1)) ∧ (R59_4 n (v18 + 1) (x0) ds)))) else (if (v18 == 0) = true then (ds = [Dyn.mk Ty.bool Bool.false]) else (ds = [Dyn.mk Ty.bool Bool.false]))))) else (ds = [Dyn.mk Ty.bool Bool.true]))
end
theorem p59_0 (x0 : ByteArray) : runF tab ext59 false 46 [] 2000 [] tys59 Tryz.f59.results [true, true] [.code b59] (entE 0 0 sig59 (x0, ())) (entL sig59 (x0, ())) = some ([Dyn.mk Ty.bool Bool.false], [], [Decidable.decide ((↑(ByteArray.size x0) : Int) < 1) = Bool.true, Bool.true = Bool.true]) := by kernel_rfl
theorem p59_1 (x0 : ByteArray) : runF tab ext59 false 46 [] 2000 [] tys59 Tryz.f59.results [false, true] [.code b59] (entE 0 0 sig59 (x0, ())) (entL sig59 (x0, ())) = some ([Dyn.mk Ty.bool Bool.false], [], [Decidable.decide ((↑(ByteArray.size x0) : Int) < 1) = Bool.false, Decidable.decide ((↑(ByteArray.size x0) : Int) > 10) = Bool.true]) := by kernel_rfl
theorem p59_2 (x0 : ByteArray) : Am.runN tab ext59 false 46 [] 2000 [] [] [16, 17, 18] [0] [false, false] [.code b59] (entE 0 0 sig59 (x0, ())) (entL sig59 (x0, ())) = some (cutAt b59 4, E59_4 (0) (x0), L59_4 (0) (x0), [Decidable.decide ((↑(ByteArray.size x0) : Int) < 1) = Bool.false, Decidable.decide ((↑(ByteArray.size x0) : Int) > 10) = Bool.false]) := by kernel_rfl
theorem p59_3 (v18 : Int) (x0 : ByteArray) : runF tab ext59 false 46 [] 2000 [] tys59 Tryz.f59.results [true, true, true, true, true, true] (cutAt b59 4) (E59_4 v18 x0) (L59_4 v18 x0) = some ([Dyn.mk Ty.bool Bool.false], [], [Decidable.decide (v18 < (↑(List.length (bytesOf x0)) : Int)) = Bool.true, 0 ≤ v18, v18 < (↑(List.length (bytesOf x0)) : Int), Decidable.decide (List.getD (bytesOf x0) (Int.toNat v18) 0 ≥ 97) = Bool.true, Decidable.decide (List.getD (bytesOf x0) (Int.toNat v18) 0 ≥ 48) = Bool.true, (!Decidable.decide (List.getD (bytesOf x0) (Int.toNat v18) 0 ≤ 122)) = Bool.true, (v18 == 0) = Bool.true, Bool.true = Bool.true]) := by kernel_rfl
theorem p59_4 (v18 : Int) (x0 : ByteArray) : runF tab ext59 false 46 [] 2000 [] tys59 Tryz.f59.results [true, true, true, true, false, true] (cutAt b59 4) (E59_4 v18 x0) (L59_4 v18 x0) = some ([Dyn.mk Ty.bool Bool.false], [], [Decidable.decide (v18 < (↑(List.length (bytesOf x0)) : Int)) = Bool.true, 0 ≤ v18, v18 < (↑(List.length (bytesOf x0)) : Int), Decidable.decide (List.getD (bytesOf x0) (Int.toNat v18) 0 ≥ 97) = Bool.true, Decidable.decide (List.getD (bytesOf x0) (Int.toNat v18) 0 ≥ 48) = Bool.true, (!Decidable.decide (List.getD (bytesOf x0) (Int.toNat v18) 0 ≤ 122)) = Bool.true, (v18 == 0) = Bool.false, (!Decidable.decide (List.getD (bytesOf x0) (Int.toNat v18) 0 ≤ 57)) = Bool.true]) := by kernel_rfl
theorem p59_5 (v18 : Int) (x0 : ByteArray) : Am.runN tab ext59 false 46 [] 2000 [] [] [16, 17, 18] [0] [true, true, true, true, false, false] (cutAt b59 4) (E59_4 v18 x0) (L59_4 v18 x0) = some (cutAt b59 4, E59_4 (v18 + 1) (x0), L59_4 (v18 + 1) (x0), [Decidable.decide (v18 < (↑(List.length (bytesOf x0)) : Int)) = Bool.true, 0 ≤ v18, v18 < (↑(List.length (bytesOf x0)) : Int), Decidable.decide (List.getD (bytesOf x0) (Int.toNat v18) 0 ≥ 97) = Bool.true, Decidable.decide (List.getD (bytesOf x0) (Int.toNat v18) 0 ≥ 48) = Bool.true, (!Decidable.decide (List.getD (bytesOf x0) (Int.toNat v18) 0 ≤ 122)) = Bool.true, (v18 == 0) = Bool.false, (!Decidable.decide (List.getD (bytesOf x0) (Int.toNat v18) 0 ≤ 57)) = Bool.false, InR IntKind.i64 (v18 + 1)]) := by kernel_rfl
theorem p59_6 (v18 : Int) (x0 : ByteArray) : Am.runN tab ext59 false 46 [] 2000 [] [] [16, 17, 18] [0] [true, true, true, false, false] (cutAt b59 4) (E59_4 v18 x0) (L59_4 v18 x0) = some (cutAt b59 4, E59_4 (v18 + 1) (x0), L59_4 (v18 + 1) (x0), [Decidable.decide (v18 < (↑(List.length (bytesOf x0)) : Int)) = Bool.true, 0 ≤ v18, v18 < (↑(List.length (bytesOf x0)) : Int), Decidable.decide (List.getD (bytesOf x0) (Int.toNat v18) 0 ≥ 97) = Bool.true, Decidable.decide (List.getD (bytesOf x0) (Int.toNat v18) 0 ≥ 48) = Bool.true, (!Decidable.decide (List.getD (bytesOf x0) (Int.toNat v18) 0 ≤ 122)) = Bool.false, Bool.false = Bool.false, InR IntKind.i64 (v18 + 1)]) := by kernel_rfl
theorem p59_7 (v18 : Int) (x0 : ByteArray) : runF tab ext59 false 46 [] 2000 [] tys59 Tryz.f59.results [true, true, false, true, true, true] (cutAt b59 4) (E59_4 v18 x0) (L59_4 v18 x0) = some ([Dyn.mk Ty.bool Bool.false], [], [Decidable.decide (v18 < (↑(List.length (bytesOf x0)) : Int)) = Bool.true, 0 ≤ v18, v18 < (↑(List.length (bytesOf x0)) : Int), Decidable.decide (List.getD (bytesOf x0) (Int.toNat v18) 0 ≥ 97) = Bool.true, Decidable.decide (List.getD (bytesOf x0) (Int.toNat v18) 0 ≥ 48) = Bool.false, (!Decidable.decide (List.getD (bytesOf x0) (Int.toNat v18) 0 ≤ 122)) = Bool.true, (v18 == 0) = Bool.true, Bool.true = Bool.true]) := by kernel_rfl
theorem p59_8 (v18 : Int) (x0 : ByteArray) : runF tab ext59 false 46 [] 2000 [] tys59 Tryz.f59.results [true, true, false, true, false, true] (cutAt b59 4) (E59_4 v18 x0) (L59_4 v18 x0) = some ([Dyn.mk Ty.bool Bool.false], [], [Decidable.decide (v18 < (↑(List.length (bytesOf x0)) : Int)) = Bool.true, 0 ≤ v18, v18 < (↑(List.length (bytesOf x0)) : Int), Decidable.decide (List.getD (bytesOf x0) (Int.toNat v18) 0 ≥ 97) = Bool.true, Decidable.decide (List.getD (bytesOf x0) (Int.toNat v18) 0 ≥ 48) = Bool.false, (!Decidable.decide (List.getD (bytesOf x0) (Int.toNat v18) 0 ≤ 122)) = Bool.true, (v18 == 0) = Bool.false, Bool.true = Bool.true]) := by kernel_rfl
theorem p59_9 (v18 : Int) (x0 : ByteArray) : Am.runN tab ext59 false 46 [] 2000 [] [] [16, 17, 18] [0] [true, true, false, false, false] (cutAt b59 4) (E59_4 v18 x0) (L59_4 v18 x0) = some (cutAt b59 4, E59_4 (v18 + 1) (x0), L59_4 (v18 + 1) (x0), [Decidable.decide (v18 < (↑(List.length (bytesOf x0)) : Int)) = Bool.true, 0 ≤ v18, v18 < (↑(List.length (bytesOf x0)) : Int), Decidable.decide (List.getD (bytesOf x0) (Int.toNat v18) 0 ≥ 97) = Bool.true, Decidable.decide (List.getD (bytesOf x0) (Int.toNat v18) 0 ≥ 48) = Bool.false, (!Decidable.decide (List.getD (bytesOf x0) (Int.toNat v18) 0 ≤ 122)) = Bool.false, Bool.false = Bool.false, InR IntKind.i64 (v18 + 1)]) := by kernel_rfl
theorem p59_10 (v18 : Int) (x0 : ByteArray) : runF tab ext59 false 46 [] 2000 [] tys59 Tryz.f59.results [true, false, true, true, true, true] (cutAt b59 4) (E59_4 v18 x0) (L59_4 v18 x0) = some ([Dyn.mk Ty.bool Bool.false], [], [Decidable.decide (v18 < (↑(List.length (bytesOf x0)) : Int)) = Bool.true, 0 ≤ v18, v18 < (↑(List.length (bytesOf x0)) : Int), Decidable.decide (List.getD (bytesOf x0) (Int.toNat v18) 0 ≥ 97) = Bool.false, Decidable.decide (List.getD (bytesOf x0) (Int.toNat v18) 0 ≥ 48) = Bool.true, Bool.true = Bool.true, (v18 == 0) = Bool.true, Bool.true = Bool.true]) := by kernel_rfl
theorem p59_11 (v18 : Int) (x0 : ByteArray) : runF tab ext59 false 46 [] 2000 [] tys59 Tryz.f59.results [true, false, true, true, false, true] (cutAt b59 4) (E59_4 v18 x0) (L59_4 v18 x0) = some ([Dyn.mk Ty.bool Bool.false], [], [Decidable.decide (v18 < (↑(List.length (bytesOf x0)) : Int)) = Bool.true, 0 ≤ v18, v18 < (↑(List.length (bytesOf x0)) : Int), Decidable.decide (List.getD (bytesOf x0) (Int.toNat v18) 0 ≥ 97) = Bool.false, Decidable.decide (List.getD (bytesOf x0) (Int.toNat v18) 0 ≥ 48) = Bool.true, Bool.true = Bool.true, (v18 == 0) = Bool.false, (!Decidable.decide (List.getD (bytesOf x0) (Int.toNat v18) 0 ≤ 57)) = Bool.true]) := by kernel_rfl
theorem p59_12 (v18 : Int) (x0 : ByteArray) : Am.runN tab ext59 false 46 [] 2000 [] [] [16, 17, 18] [0] [true, false, true, true, false, false] (cutAt b59 4) (E59_4 v18 x0) (L59_4 v18 x0) = some (cutAt b59 4, E59_4 (v18 + 1) (x0), L59_4 (v18 + 1) (x0), [Decidable.decide (v18 < (↑(List.length (bytesOf x0)) : Int)) = Bool.true, 0 ≤ v18, v18 < (↑(List.length (bytesOf x0)) : Int), Decidable.decide (List.getD (bytesOf x0) (Int.toNat v18) 0 ≥ 97) = Bool.false, Decidable.decide (List.getD (bytesOf x0) (Int.toNat v18) 0 ≥ 48) = Bool.true, Bool.true = Bool.true, (v18 == 0) = Bool.false, (!Decidable.decide (List.getD (bytesOf x0) (Int.toNat v18) 0 ≤ 57)) = Bool.false, InR IntKind.i64 (v18 + 1)]) := by kernel_rfl
theorem p59_13 (v18 : Int) (x0 : ByteArray) : runF tab ext59 false 46 [] 2000 [] tys59 Tryz.f59.results [true, false, false, true, true, true] (cutAt b59 4) (E59_4 v18 x0) (L59_4 v18 x0) = some ([Dyn.mk Ty.bool Bool.false], [], [Decidable.decide (v18 < (↑(List.length (bytesOf x0)) : Int)) = Bool.true, 0 ≤ v18, v18 < (↑(List.length (bytesOf x0)) : Int), Decidable.decide (List.getD (bytesOf x0) (Int.toNat v18) 0 ≥ 97) = Bool.false, Decidable.decide (List.getD (bytesOf x0) (Int.toNat v18) 0 ≥ 48) = Bool.false, Bool.true = Bool.true, (v18 == 0) = Bool.true, Bool.true = Bool.true]) := by kernel_rfl
theorem p59_14 (v18 : Int) (x0 : ByteArray) : runF tab ext59 false 46 [] 2000 [] tys59 Tryz.f59.results [true, false, false, true, false, true] (cutAt b59 4) (E59_4 v18 x0) (L59_4 v18 x0) = some ([Dyn.mk Ty.bool Bool.false], [], [Decidable.decide (v18 < (↑(List.length (bytesOf x0)) : Int)) = Bool.true, 0 ≤ v18, v18 < (↑(List.length (bytesOf x0)) : Int), Decidable.decide (List.getD (bytesOf x0) (Int.toNat v18) 0 ≥ 97) = Bool.false, Decidable.decide (List.getD (bytesOf x0) (Int.toNat v18) 0 ≥ 48) = Bool.false, Bool.true = Bool.true, (v18 == 0) = Bool.false, Bool.true = Bool.true]) := by kernel_rfl
theorem p59_15 (v18 : Int) (x0 : ByteArray) : runF tab ext59 false 46 [] 2000 [] tys59 Tryz.f59.results [false] (cutAt b59 4) (E59_4 v18 x0) (L59_4 v18 x0) = some ([Dyn.mk Ty.bool Bool.true], [], [Decidable.decide (v18 < (↑(List.length (bytesOf x0)) : Int)) = Bool.false]) := by kernel_rfl
theorem snd59 : ∀ n, (∀ (x0 : ByteArray) ds, R59 n x0 ds → ∀ w0 O q, AtV Tryz.prog 59 (PostR ds [] [] q w0 O) 46 w0 O q [] [.code b59] (entE 0 0 sig59 (x0, ())) (entL sig59 (x0, ()))) ∧ (∀ (v18 : Int) (x0 : ByteArray) ds, R59_4 n v18 x0 ds → ∀ w0 O q, AtV Tryz.prog 59 (PostR ds [] [] q w0 O) 46 w0 O q [] (cutAt b59 4) (E59_4 v18 x0) (L59_4 v18 x0)) := by
  intro n
  induction n with
  | zero => exact ⟨fun _ _ h => by simp only [R59] at h, fun _ _ _ h => by simp only [R59_4] at h⟩
  | succ n ih =>
  obtain ⟨ih, ih4⟩ := ih
  refine ⟨?_, ?_⟩
  · intro x0 ds h w0 O q
    rw [R59] at h
    by_cases b0 : (Decidable.decide ((↑(ByteArray.size x0) : Int) < 1)) = true
    · rw [if_pos b0] at h
      subst h
      exact AtV.fin Tryz.func59 tabOk ext59Ok mixed (p59_0 x0) ⟨b0, rfl, trivial⟩
    · rw [if_neg b0] at h
      replace b0 := Bool.eq_false_iff.2 b0
      by_cases b1 : (Decidable.decide ((↑(ByteArray.size x0) : Int) > 10)) = true
      · rw [if_pos b1] at h
        subst h
        exact AtV.fin Tryz.func59 tabOk ext59Ok mixed (p59_1 x0) ⟨b0, b1, trivial⟩
      · rw [if_neg b1] at h
        replace b1 := Bool.eq_false_iff.2 b1
        exact AtV.runN tabOk ext59Ok mixed (p59_2 x0) ⟨b0, b1, trivial⟩ (ih4 _ _ _ h w0 O q)

  · intro v18 x0 ds h w0 O q
    rw [R59_4] at h
    by_cases b0 : (Decidable.decide (v18 < (↑(List.length (bytesOf x0)) : Int))) = true
    · rw [if_pos b0] at h
      obtain ⟨s0, s1, h⟩ := h
      by_cases b1 : (Decidable.decide (List.getD (bytesOf x0) (Int.toNat v18) 0 ≥ 97)) = true
      · rw [if_pos b1] at h
        by_cases b2 : (Decidable.decide (List.getD (bytesOf x0) (Int.toNat v18) 0 ≥ 48)) = true
        · rw [if_pos b2] at h
          by_cases b3 : (!Decidable.decide (List.getD (bytesOf x0) (Int.toNat v18) 0 ≤ 122)) = true
          · rw [if_pos b3] at h
            by_cases b4 : (v18 == 0) = true
            · rw [if_pos b4] at h
              subst h
              exact AtV.fin Tryz.func59 tabOk ext59Ok mixed (p59_3 v18 x0) ⟨b0, s0, s1, b1, b2, b3, b4, rfl, trivial⟩
            · rw [if_neg b4] at h
              replace b4 := Bool.eq_false_iff.2 b4
              by_cases b5 : (!Decidable.decide (List.getD (bytesOf x0) (Int.toNat v18) 0 ≤ 57)) = true
              · rw [if_pos b5] at h
                subst h
                exact AtV.fin Tryz.func59 tabOk ext59Ok mixed (p59_4 v18 x0) ⟨b0, s0, s1, b1, b2, b3, b4, b5, trivial⟩
              · rw [if_neg b5] at h
                replace b5 := Bool.eq_false_iff.2 b5
                obtain ⟨s2, h⟩ := h
                exact AtV.runN tabOk ext59Ok mixed (p59_5 v18 x0) ⟨b0, s0, s1, b1, b2, b3, b4, b5, s2, trivial⟩ (ih4 _ _ _ h w0 O q)
          · rw [if_neg b3] at h
            replace b3 := Bool.eq_false_iff.2 b3
            obtain ⟨s2, h⟩ := h
            exact AtV.runN tabOk ext59Ok mixed (p59_6 v18 x0) ⟨b0, s0, s1, b1, b2, b3, rfl, s2, trivial⟩ (ih4 _ _ _ h w0 O q)
        · rw [if_neg b2] at h
          replace b2 := Bool.eq_false_iff.2 b2
          by_cases b3 : (!Decidable.decide (List.getD (bytesOf x0) (Int.toNat v18) 0 ≤ 122)) = true
          · rw [if_pos b3] at h
            by_cases b4 : (v18 == 0) = true
            · rw [if_pos b4] at h
              subst h
              exact AtV.fin Tryz.func59 tabOk ext59Ok mixed (p59_7 v18 x0) ⟨b0, s0, s1, b1, b2, b3, b4, rfl, trivial⟩
            · rw [if_neg b4] at h
              replace b4 := Bool.eq_false_iff.2 b4
              subst h
              exact AtV.fin Tryz.func59 tabOk ext59Ok mixed (p59_8 v18 x0) ⟨b0, s0, s1, b1, b2, b3, b4, rfl, trivial⟩
          · rw [if_neg b3] at h
            replace b3 := Bool.eq_false_iff.2 b3
            obtain ⟨s2, h⟩ := h
            exact AtV.runN tabOk ext59Ok mixed (p59_9 v18 x0) ⟨b0, s0, s1, b1, b2, b3, rfl, s2, trivial⟩ (ih4 _ _ _ h w0 O q)
      · rw [if_neg b1] at h
        replace b1 := Bool.eq_false_iff.2 b1
        by_cases b2 : (Decidable.decide (List.getD (bytesOf x0) (Int.toNat v18) 0 ≥ 48)) = true
        · rw [if_pos b2] at h
          by_cases b3 : (v18 == 0) = true
          · rw [if_pos b3] at h
            subst h
            exact AtV.fin Tryz.func59 tabOk ext59Ok mixed (p59_10 v18 x0) ⟨b0, s0, s1, b1, b2, rfl, b3, rfl, trivial⟩
          · rw [if_neg b3] at h
            replace b3 := Bool.eq_false_iff.2 b3
            by_cases b4 : (!Decidable.decide (List.getD (bytesOf x0) (Int.toNat v18) 0 ≤ 57)) = true
            · rw [if_pos b4] at h
              subst h
              exact AtV.fin Tryz.func59 tabOk ext59Ok mixed (p59_11 v18 x0) ⟨b0, s0, s1, b1, b2, rfl, b3, b4, trivial⟩
            · rw [if_neg b4] at h
              replace b4 := Bool.eq_false_iff.2 b4
              obtain ⟨s2, h⟩ := h
              exact AtV.runN tabOk ext59Ok mixed (p59_12 v18 x0) ⟨b0, s0, s1, b1, b2, rfl, b3, b4, s2, trivial⟩ (ih4 _ _ _ h w0 O q)
        · rw [if_neg b2] at h
          replace b2 := Bool.eq_false_iff.2 b2
          by_cases b3 : (v18 == 0) = true
          · rw [if_pos b3] at h
            subst h
            exact AtV.fin Tryz.func59 tabOk ext59Ok mixed (p59_13 v18 x0) ⟨b0, s0, s1, b1, b2, rfl, b3, rfl, trivial⟩
          · rw [if_neg b3] at h
            replace b3 := Bool.eq_false_iff.2 b3
            subst h
            exact AtV.fin Tryz.func59 tabOk ext59Ok mixed (p59_14 v18 x0) ⟨b0, s0, s1, b1, b2, rfl, b3, rfl, trivial⟩
    · rw [if_neg b0] at h
      replace b0 := Bool.eq_false_iff.2 b0
      subst h
      exact AtV.fin Tryz.func59 tabOk ext59Ok mixed (p59_15 v18 x0) ⟨b0, trivial⟩



/-- A byte of a name, at its place. -/
def ok59 (i : Nat) (b : Int) : Bool := (decide (97 ≤ b) && decide (b ≤ 122)) || (!(i == 0) && (decide (48 ≤ b) && decide (b ≤ 57)))
def g59_0 (x0 : ByteArray) : Bool := decide (1 ≤ x0.size) && decide (x0.size ≤ 10) && allI ok59 0 (bytesOf x0)
def P59 (x0 : ByteArray) : Prop := True

theorem step59 (n i : Nat) (x0 : ByteArray) (hw : Wf .str x0) (hi : i < (bytesOf x0).length) (ds : List Dyn) :
    R59_4 (n + 1) (i : Int) x0 ds ↔ (if ok59 i ((bytesOf x0).getD i 0) = true then R59_4 n ((i : Int) + 1) x0 ds else ds = [⟨.bool, false⟩]) := by
  have hu := inR_up (xs := bytesOf x0) (by rw [bytesOf_length]; exact hw) hi
  rw [R59_4, if_pos (by simp; omega)]
  simp only [Int.toNat_natCast]
  have hb : (0 : Int) ≤ (i : Int) ∧ (i : Int) < ((bytesOf x0).length : Int) := by omega
  have hz : ((i : Int) == 0) = (i == 0) := by
    cases i with
    | zero => rfl
    | succ k => simp; omega
  simp only [hz, ok59, hu, true_and, hb.1, hb.2, ge_iff_le]
  by_cases h1 : (97 : Int) ≤ (bytesOf x0).getD i 0 <;> by_cases h2 : (bytesOf x0).getD i 0 ≤ 122 <;> by_cases h3 : (48 : Int) ≤ (bytesOf x0).getD i 0 <;> by_cases h4 : (bytesOf x0).getD i 0 ≤ 57 <;> rcases Bool.eq_false_or_eq_true (i == 0) with e0 | e0 <;> first | (exfalso; omega) | simp only [h1, h2, h3, h4, e0, decide_true, decide_false, Bool.not_true, Bool.not_false, Bool.true_and, Bool.false_and, Bool.and_true, Bool.and_false, Bool.true_or, Bool.or_true, Bool.or_false, Bool.false_or, if_true, if_false, Bool.false_eq_true]

theorem top59 (x0 : ByteArray) (hw : Wf .str x0) : R59 (x0.size + 1 + 1) x0 [⟨.bool, g59_0 x0⟩] := by
  have hl := bytesOf_length x0
  rw [R59]
  by_cases h0 : (x0.size : Int) < 1
  · rw [if_pos (by simpa using h0)]
    have : ¬ 1 ≤ x0.size := by omega
    simp [g59_0, this]
  · rw [if_neg (by simpa using h0)]
    by_cases h1 : (x0.size : Int) > 10
    · rw [if_pos (by simpa using h1)]
      have : ¬ x0.size ≤ 10 := by omega
      simp [g59_0, this]
    · rw [if_neg (by simpa using h1)]
      have key := loop_testI (bytesOf x0) 0 ok59 [(⟨.bool, false⟩ : Dyn)] [⟨.bool, true⟩] (fun n i ds => R59_4 n i x0 ds) (fun n => ?_) (fun n i hi hok ds hr => ?_) (fun n i hi hok => ?_)
      · rw [hl] at key
        have e : g59_0 x0 = allI ok59 0 (bytesOf x0) := by
          have a : 1 ≤ x0.size := by omega
          have b : x0.size ≤ 10 := by omega
          simp [g59_0, a, b]
        rw [e]
        cases h : allI ok59 0 (bytesOf x0) with
        | true => rw [if_pos h] at key; exact key
        | false => rw [if_neg (by rw [h]; simp)] at key; exact key
      · show R59_4 (n + 1) ((bytesOf x0).length : Int) x0 _
        rw [R59_4, if_neg (by simp)]
      · exact (step59 n i x0 hw hi ds).2 (by rw [if_pos hok]; exact hr)
      · exact (step59 n i x0 hw hi _).2 (by rw [if_neg (by rw [hok]; simp)])

def S59 : Am.Spec := { sig := sig59, pre := fun ⟨x0, _⟩ => P59 x0, res := fun ⟨x0, _⟩ => [⟨Ty.bool, g59_0 x0⟩] }
theorem con59 : Contract Tryz.prog 59 S59 := contract_of Tryz.func59 hb59 (Nat.le_of_ble_eq_true (by kernel_rfl)) (fun ⟨x0, _⟩ h hwf w0 O q =>
  (snd59 _).1 x0 _ (top59 x0 hwf.1) w0 O q)

end Go.Proofs.YtcppjmlhilklcaaGreatDoor

/- Function 60 (strings.Contains): its contract, off what is known of the library. -/
set_option linter.unusedVariables false
set_option linter.unusedSimpArgs false
set_option maxRecDepth 100000
namespace Go.Proofs.YtcppjmlhilklcaaGreatDoor
open Go Go.Am Go.Proofs

def sig60 : List AT := [AT.v Ty.str, AT.v Ty.str]
def g60_0 (x0 x1 : ByteArray) : Bool := Lib.contains x0.data.toList x1.data.toList
def P60 (x0 x1 : ByteArray) : Prop := x0.size < 4294967281
def S60 : Am.Spec := { sig := sig60, pre := fun ⟨x0, x1, _⟩ => P60 x0 x1, res := fun ⟨x0, x1, _⟩ => [⟨Ty.bool, g60_0 x0 x1⟩] }
theorem con60 : Contract Tryz.prog 60 S60 := contract_flat rfl fun w ⟨x0, x1, _⟩ vs bss hg hp hw ha => by
  obtain ⟨v0, s0, _, _, rfl, _, ⟨_, rfl, _⟩, v1, s1, _, _, rfl, _, ⟨_, rfl, _⟩, rfl, _⟩ := ha
  refine ⟨fun d hd => by rw [List.mem_singleton.1 hd]; exact ⟨rfl, trivial⟩, ?_⟩
  obtain ⟨m, hm⟩ := maxLenG hg
  refine (Tryz.strings_Contains x0 x1 m w hp hm).mono ?_
  rintro e w' ⟨rfl, rfl⟩
  exact ⟨rfl, Kept.refl _ _⟩

end Go.Proofs.YtcppjmlhilklcaaGreatDoor

/- Function 39 (impl.ValidBlock): its runs between cut points. Written by a program of this repo (gen). -/
set_option linter.unusedVariables false
set_option linter.unusedSimpArgs false
set_option maxRecDepth 100000
namespace Go.Proofs.YtcppjmlhilklcaaGreatDoor
open Go Go.Am Go.Proofs
def ext39 : Ext := [(59, S59), (60, S60)]
theorem call39_59 : Callable Tryz.prog 59 := ⟨Tryz.f59, Tryz.func59, by kernel_rfl, by kernel_rfl⟩
theorem call39_60 : Callable Tryz.prog 60 := ⟨Tryz.f60, Tryz.func60, by kernel_rfl, by kernel_rfl⟩
theorem ext39Ok : ExtOk Tryz.prog ext39 := ⟨⟨call39_59, con59⟩, ⟨call39_60, con60⟩, trivial⟩
/-! Function 39. -/
noncomputable def b39 : Code := bodyOf Tryz.f39
theorem hb39 : Tryz.f39.body = some b39 := by kernel_rfl
def sig39 : List AT := [AT.v (Ty.cons Ty.str (Ty.cons Ty.str (Ty.cons Ty.str Ty.unit)))]
def tys39 : List Ty := [Ty.bool]
def P39 (x0 : ByteArray × ByteArray × ByteArray × Unit) : Prop := (if (g59_0 (Prod.fst x0)) = true then (if (g59_0 (Prod.fst (Prod.snd x0))) = true then (if (Decidable.decide ((↑(ByteArray.size (Prod.fst (Prod.snd (Prod.snd x0)))) : Int) ≤ 400)) = true then ((P60 (Prod.fst (Prod.snd (Prod.snd x0))) (ByteArray.mk #[10])) ∧ True) else True) else True) else True)
def g39_0 (x0 : ByteArray × ByteArray × ByteArray × Unit) : Bool := (if (g59_0 (Prod.fst x0)) = true then (if (g59_0 (Prod.fst (Prod.snd x0))) = true then (if (Decidable.decide ((↑(ByteArray.size (Prod.fst (Prod.snd (Prod.snd x0)))) : Int) ≤ 400)) = true then !g60_0 (Prod.fst (Prod.snd (Prod.snd x0))) (ByteArray.mk #[10]) else Bool.false) else Bool.false) else Bool.false)
theorem p39_0 (x0 : ByteArray × ByteArray × ByteArray × Unit) : runF tab ext39 false 23 [] 2000 [] tys39 Tryz.f39.results [true, true, true] [.code b39] (entE 0 0 sig39 (x0, ())) (entL sig39 (x0, ())) = some ([Dyn.mk Ty.bool !g60_0 (Prod.fst (Prod.snd (Prod.snd x0))) (ByteArray.mk #[10])], [], [True, g59_0 (Prod.fst x0) = Bool.true, True, g59_0 (Prod.fst (Prod.snd x0)) = Bool.true, Decidable.decide ((↑(ByteArray.size (Prod.fst (Prod.snd (Prod.snd x0)))) : Int) ≤ 400) = Bool.true, P60 (Prod.fst (Prod.snd (Prod.snd x0))) (ByteArray.mk #[10])]) := by kernel_rfl
theorem p39_1 (x0 : ByteArray × ByteArray × ByteArray × Unit) : runF tab ext39 false 23 [] 2000 [] tys39 Tryz.f39.results [true, true, false] [.code b39] (entE 0 0 sig39 (x0, ())) (entL sig39 (x0, ())) = some ([Dyn.mk Ty.bool Bool.false], [], [True, g59_0 (Prod.fst x0) = Bool.true, True, g59_0 (Prod.fst (Prod.snd x0)) = Bool.true, Decidable.decide ((↑(ByteArray.size (Prod.fst (Prod.snd (Prod.snd x0)))) : Int) ≤ 400) = Bool.false]) := by kernel_rfl
theorem p39_2 (x0 : ByteArray × ByteArray × ByteArray × Unit) : runF tab ext39 false 23 [] 2000 [] tys39 Tryz.f39.results [true, false, false] [.code b39] (entE 0 0 sig39 (x0, ())) (entL sig39 (x0, ())) = some ([Dyn.mk Ty.bool Bool.false], [], [True, g59_0 (Prod.fst x0) = Bool.true, True, g59_0 (Prod.fst (Prod.snd x0)) = Bool.false, Bool.false = Bool.false]) := by kernel_rfl
theorem p39_3 (x0 : ByteArray × ByteArray × ByteArray × Unit) : runF tab ext39 false 23 [] 2000 [] tys39 Tryz.f39.results [false, false, false] [.code b39] (entE 0 0 sig39 (x0, ())) (entL sig39 (x0, ())) = some ([Dyn.mk Ty.bool Bool.false], [], [True, g59_0 (Prod.fst x0) = Bool.false, Bool.false = Bool.false, Bool.false = Bool.false]) := by kernel_rfl
theorem at39 (x0 : ByteArray × ByteArray × ByteArray × Unit) (h : P39 x0) (w0 : World) (O : List Nat) (q : Nat → Value) : AtV Tryz.prog 39 (PostR [⟨Ty.bool, g39_0 x0⟩] [] [] q w0 O) 23 w0 O q [] [.code b39] (entE 0 0 sig39 (x0, ())) (entL sig39 (x0, ())) := by
  unfold P39 at h
  unfold g39_0
  by_cases b0 : (g59_0 (Prod.fst x0)) = true
  · try simp only [if_pos b0] at h ⊢
    by_cases b1 : (g59_0 (Prod.fst (Prod.snd x0))) = true
    · try simp only [if_pos b1] at h ⊢
      by_cases b2 : (Decidable.decide ((↑(ByteArray.size (Prod.fst (Prod.snd (Prod.snd x0)))) : Int) ≤ 400)) = true
      · try simp only [if_pos b2] at h ⊢
        obtain ⟨s0, h⟩ := h
        exact AtV.fin Tryz.func39 tabOk ext39Ok mixed (p39_0 x0) ⟨trivial, b0, trivial, b1, b2, s0, trivial⟩
      · try simp only [if_neg b2] at h ⊢
        replace b2 := Bool.eq_false_iff.2 b2
        exact AtV.fin Tryz.func39 tabOk ext39Ok mixed (p39_1 x0) ⟨trivial, b0, trivial, b1, b2, trivial⟩
    · try simp only [if_neg b1] at h ⊢
      replace b1 := Bool.eq_false_iff.2 b1
      exact AtV.fin Tryz.func39 tabOk ext39Ok mixed (p39_2 x0) ⟨trivial, b0, trivial, b1, rfl, trivial⟩
  · try simp only [if_neg b0] at h ⊢
    replace b0 := Bool.eq_false_iff.2 b0
    exact AtV.fin Tryz.func39 tabOk ext39Ok mixed (p39_3 x0) ⟨trivial, b0, rfl, rfl, trivial⟩

def S39 : Am.Spec := { sig := sig39, pre := fun ⟨x0, _⟩ => P39 x0, res := fun ⟨x0, _⟩ => [⟨Ty.bool, g39_0 x0⟩] }
theorem con39 : Contract Tryz.prog 39 S39 := contract_of Tryz.func39 hb39 (Nat.le_of_ble_eq_true (by kernel_rfl)) (fun ⟨x0, _⟩ h _ w0 O q => at39 x0 h w0 O q)


theorem pre39 (x : ByteArray × ByteArray × ByteArray × Unit) : P39 x := by
  unfold P39
  split
  · split
    · split
      · rename_i h
        simp only [decide_eq_true_eq] at h
        refine ⟨?_, trivial⟩
        show x.2.2.1.size < 4294967281
        omega
      · trivial
    · trivial
  · trivial

end Go.Proofs.YtcppjmlhilklcaaGreatDoor

/- Function 40 (impl.lineOfBlock): its runs between cut points. Written by a program of this repo (gen). -/
set_option linter.unusedVariables false
set_option linter.unusedSimpArgs false
set_option maxRecDepth 100000
namespace Go.Proofs.YtcppjmlhilklcaaGreatDoor
open Go Go.Am Go.Proofs
def ext40 : Ext := [(37, S37), (18, S18), (38, S38)]
theorem call40_37 : Callable Tryz.prog 37 := ⟨Tryz.f37, Tryz.func37, by kernel_rfl, by kernel_rfl⟩
theorem call40_18 : Callable Tryz.prog 18 := ⟨Tryz.f18, Tryz.func18, by kernel_rfl, by kernel_rfl⟩
theorem call40_38 : Callable Tryz.prog 38 := ⟨Tryz.f38, Tryz.func38, by kernel_rfl, by kernel_rfl⟩
theorem ext40Ok : ExtOk Tryz.prog ext40 := ⟨⟨call40_37, con37⟩, ⟨call40_18, con18⟩, ⟨call40_38, con38⟩, trivial⟩
/-! Function 40. -/
noncomputable def b40 : Code := bodyOf Tryz.f40
theorem hb40 : Tryz.f40.body = some b40 := by kernel_rfl
def sig40 : List AT := [AT.v (Ty.cons Ty.str (Ty.cons Ty.str (Ty.cons Ty.str Ty.unit)))]
def tys40 : List Ty := [Ty.str]
def P40 (x0 : ByteArray × ByteArray × ByteArray × Unit) : Prop := ((ByteArray.size (Prod.fst x0) + 1 ≤ 9223372036854775807) ∧ ((ByteArray.size (Prod.fst x0 ++ ByteArray.mk #[32]) + ByteArray.size (Prod.fst (Prod.snd x0)) ≤ 9223372036854775807) ∧ ((ByteArray.size (Prod.fst x0 ++ ByteArray.mk #[32] ++ Prod.fst (Prod.snd x0)) + 1 ≤ 9223372036854775807) ∧ ((ByteArray.size (Prod.fst x0 ++ ByteArray.mk #[32] ++ Prod.fst (Prod.snd x0) ++ ByteArray.mk #[32]) + ByteArray.size (Prod.fst (Prod.snd (Prod.snd x0))) ≤ 9223372036854775807) ∧ ((P18 (g37_0 (Prod.fst x0 ++ ByteArray.mk #[32] ++ Prod.fst (Prod.snd x0) ++ ByteArray.mk #[32] ++ Prod.fst (Prod.snd (Prod.snd x0))) 65535)) ∧ ((InR IntKind.i64 (5 - (↑(ByteArray.size (g18_0 (g37_0 (Prod.fst x0 ++ ByteArray.mk #[32] ++ Prod.fst (Prod.snd x0) ++ ByteArray.mk #[32] ++ Prod.fst (Prod.snd (Prod.snd x0))) 65535))) : Int))) ∧ ((P38 (ByteArray.mk #[48]) (5 - (↑(ByteArray.size (g18_0 (g37_0 (Prod.fst x0 ++ ByteArray.mk #[32] ++ Prod.fst (Prod.snd x0) ++ ByteArray.mk #[32] ++ Prod.fst (Prod.snd (Prod.snd x0))) 65535))) : Int))) ∧ ((ByteArray.size (g38_0 (ByteArray.mk #[48]) (5 - (↑(ByteArray.size (g18_0 (g37_0 (Prod.fst x0 ++ ByteArray.mk #[32] ++ Prod.fst (Prod.snd x0) ++ ByteArray.mk #[32] ++ Prod.fst (Prod.snd (Prod.snd x0))) 65535))) : Int))) + ByteArray.size (g18_0 (g37_0 (Prod.fst x0 ++ ByteArray.mk #[32] ++ Prod.fst (Prod.snd x0) ++ ByteArray.mk #[32] ++ Prod.fst (Prod.snd (Prod.snd x0))) 65535)) ≤ 9223372036854775807) ∧ ((ByteArray.size (g38_0 (ByteArray.mk #[48]) (5 - (↑(ByteArray.size (g18_0 (g37_0 (Prod.fst x0 ++ ByteArray.mk #[32] ++ Prod.fst (Prod.snd x0) ++ ByteArray.mk #[32] ++ Prod.fst (Prod.snd (Prod.snd x0))) 65535))) : Int)) ++ g18_0 (g37_0 (Prod.fst x0 ++ ByteArray.mk #[32] ++ Prod.fst (Prod.snd x0) ++ ByteArray.mk #[32] ++ Prod.fst (Prod.snd (Prod.snd x0))) 65535)) + 1 ≤ 9223372036854775807) ∧ ((ByteArray.size (g38_0 (ByteArray.mk #[48]) (5 - (↑(ByteArray.size (g18_0 (g37_0 (Prod.fst x0 ++ ByteArray.mk #[32] ++ Prod.fst (Prod.snd x0) ++ ByteArray.mk #[32] ++ Prod.fst (Prod.snd (Prod.snd x0))) 65535))) : Int)) ++ g18_0 (g37_0 (Prod.fst x0 ++ ByteArray.mk #[32] ++ Prod.fst (Prod.snd x0) ++ ByteArray.mk #[32] ++ Prod.fst (Prod.snd (Prod.snd x0))) 65535) ++ ByteArray.mk #[32]) + ByteArray.size (Prod.fst x0 ++ ByteArray.mk #[32] ++ Prod.fst (Prod.snd x0) ++ ByteArray.mk #[32] ++ Prod.fst (Prod.snd (Prod.snd x0))) ≤ 9223372036854775807) ∧ True))))))))))
def g40_0 (x0 : ByteArray × ByteArray × ByteArray × Unit) : ByteArray := g38_0 (ByteArray.mk #[48]) (5 - (↑(ByteArray.size (g18_0 (g37_0 (Prod.fst x0 ++ ByteArray.mk #[32] ++ Prod.fst (Prod.snd x0) ++ ByteArray.mk #[32] ++ Prod.fst (Prod.snd (Prod.snd x0))) 65535))) : Int)) ++ g18_0 (g37_0 (Prod.fst x0 ++ ByteArray.mk #[32] ++ Prod.fst (Prod.snd x0) ++ ByteArray.mk #[32] ++ Prod.fst (Prod.snd (Prod.snd x0))) 65535) ++ ByteArray.mk #[32] ++ (Prod.fst x0 ++ ByteArray.mk #[32] ++ Prod.fst (Prod.snd x0) ++ ByteArray.mk #[32] ++ Prod.fst (Prod.snd (Prod.snd x0)))
theorem p40_0 (x0 : ByteArray × ByteArray × ByteArray × Unit) : runF tab ext40 false 27 [] 2000 [] tys40 Tryz.f40.results [] [.code b40] (entE 0 0 sig40 (x0, ())) (entL sig40 (x0, ())) = some ([Dyn.mk Ty.str (g38_0 (ByteArray.mk #[48]) (5 - (↑(ByteArray.size (g18_0 (g37_0 (Prod.fst x0 ++ ByteArray.mk #[32] ++ Prod.fst (Prod.snd x0) ++ ByteArray.mk #[32] ++ Prod.fst (Prod.snd (Prod.snd x0))) 65535))) : Int)) ++ g18_0 (g37_0 (Prod.fst x0 ++ ByteArray.mk #[32] ++ Prod.fst (Prod.snd x0) ++ ByteArray.mk #[32] ++ Prod.fst (Prod.snd (Prod.snd x0))) 65535) ++ ByteArray.mk #[32] ++ (Prod.fst x0 ++ ByteArray.mk #[32] ++ Prod.fst (Prod.snd x0) ++ ByteArray.mk #[32] ++ Prod.fst (Prod.snd (Prod.snd x0))))], [], [ByteArray.size (Prod.fst x0) + 1 ≤ 9223372036854775807, ByteArray.size (Prod.fst x0 ++ ByteArray.mk #[32]) + ByteArray.size (Prod.fst (Prod.snd x0)) ≤ 9223372036854775807, ByteArray.size (Prod.fst x0 ++ ByteArray.mk #[32] ++ Prod.fst (Prod.snd x0)) + 1 ≤ 9223372036854775807, ByteArray.size (Prod.fst x0 ++ ByteArray.mk #[32] ++ Prod.fst (Prod.snd x0) ++ ByteArray.mk #[32]) + ByteArray.size (Prod.fst (Prod.snd (Prod.snd x0))) ≤ 9223372036854775807, True, P18 (g37_0 (Prod.fst x0 ++ ByteArray.mk #[32] ++ Prod.fst (Prod.snd x0) ++ ByteArray.mk #[32] ++ Prod.fst (Prod.snd (Prod.snd x0))) 65535), InR IntKind.i64 (5 - (↑(ByteArray.size (g18_0 (g37_0 (Prod.fst x0 ++ ByteArray.mk #[32] ++ Prod.fst (Prod.snd x0) ++ ByteArray.mk #[32] ++ Prod.fst (Prod.snd (Prod.snd x0))) 65535))) : Int)), P38 (ByteArray.mk #[48]) (5 - (↑(ByteArray.size (g18_0 (g37_0 (Prod.fst x0 ++ ByteArray.mk #[32] ++ Prod.fst (Prod.snd x0) ++ ByteArray.mk #[32] ++ Prod.fst (Prod.snd (Prod.snd x0))) 65535))) : Int)), ByteArray.size (g38_0 (ByteArray.mk #[48]) (5 - (↑(ByteArray.size (g18_0 (g37_0 (Prod.fst x0 ++ ByteArray.mk #[32] ++ Prod.fst (Prod.snd x0) ++ ByteArray.mk #[32] ++ Prod.fst (Prod.snd (Prod.snd x0))) 65535))) : Int))) + ByteArray.size (g18_0 (g37_0 (Prod.fst x0 ++ ByteArray.mk #[32] ++ Prod.fst (Prod.snd x0) ++ ByteArray.mk #[32] ++ Prod.fst (Prod.snd (Prod.snd x0))) 65535)) ≤ 9223372036854775807, ByteArray.size (g38_0 (ByteArray.mk #[48]) (5 - (↑(ByteArray.size (g18_0 (g37_0 (Prod.fst x0 ++ ByteArray.mk #[32] ++ Prod.fst (Prod.snd x0) ++ ByteArray.mk #[32] ++ Prod.fst (Prod.snd (Prod.snd x0))) 65535))) : Int)) ++ g18_0 (g37_0 (Prod.fst x0 ++ ByteArray.mk #[32] ++ Prod.fst (Prod.snd x0) ++ ByteArray.mk #[32] ++ Prod.fst (Prod.snd (Prod.snd x0))) 65535)) + 1 ≤ 9223372036854775807, ByteArray.size (g38_0 (ByteArray.mk #[48]) (5 - (↑(ByteArray.size (g18_0 (g37_0 (Prod.fst x0 ++ ByteArray.mk #[32] ++ Prod.fst (Prod.snd x0) ++ ByteArray.mk #[32] ++ Prod.fst (Prod.snd (Prod.snd x0))) 65535))) : Int)) ++ g18_0 (g37_0 (Prod.fst x0 ++ ByteArray.mk #[32] ++ Prod.fst (Prod.snd x0) ++ ByteArray.mk #[32] ++ Prod.fst (Prod.snd (Prod.snd x0))) 65535) ++ ByteArray.mk #[32]) + ByteArray.size (Prod.fst x0 ++ ByteArray.mk #[32] ++ Prod.fst (Prod.snd x0) ++ ByteArray.mk #[32] ++ Prod.fst (Prod.snd (Prod.snd x0))) ≤ 9223372036854775807]) := by kernel_rfl
theorem at40 (x0 : ByteArray × ByteArray × ByteArray × Unit) (h : P40 x0) (w0 : World) (O : List Nat) (q : Nat → Value) : AtV Tryz.prog 40 (PostR [⟨Ty.str, g40_0 x0⟩] [] [] q w0 O) 27 w0 O q [] [.code b40] (entE 0 0 sig40 (x0, ())) (entL sig40 (x0, ())) := by
  unfold P40 at h
  unfold g40_0
  obtain ⟨s0, h⟩ := h
  obtain ⟨s1, h⟩ := h
  obtain ⟨s2, h⟩ := h
  obtain ⟨s3, h⟩ := h
  obtain ⟨s4, h⟩ := h
  obtain ⟨s5, h⟩ := h
  obtain ⟨s6, h⟩ := h
  obtain ⟨s7, h⟩ := h
  obtain ⟨s8, h⟩ := h
  obtain ⟨s9, h⟩ := h
  exact AtV.fin Tryz.func40 tabOk ext40Ok mixed (p40_0 x0) ⟨s0, s1, s2, s3, trivial, s4, s5, s6, s7, s8, s9, trivial⟩

def S40 : Am.Spec := { sig := sig40, pre := fun ⟨x0, _⟩ => P40 x0, res := fun ⟨x0, _⟩ => [⟨Ty.str, g40_0 x0⟩] }
theorem con40 : Contract Tryz.prog 40 S40 := contract_of Tryz.func40 hb40 (Nat.le_of_ble_eq_true (by kernel_rfl)) (fun ⟨x0, _⟩ h _ w0 O q => at40 x0 h w0 O q)


end Go.Proofs.YtcppjmlhilklcaaGreatDoor

/- Function 19 (impl.blockOfLine): its runs between cut points. Written by a program of this repo (gen). -/
set_option linter.unusedVariables false
set_option linter.unusedSimpArgs false
set_option maxRecDepth 100000
namespace Go.Proofs.YtcppjmlhilklcaaGreatDoor
open Go Go.Am Go.Proofs
def ext19 : Ext := [(36, S36), (37, S37), (18, S18), (38, S38), (39, S39), (40, S40)]
theorem call19_36 : Callable Tryz.prog 36 := ⟨Tryz.f36, Tryz.func36, by kernel_rfl, by kernel_rfl⟩
theorem call19_37 : Callable Tryz.prog 37 := ⟨Tryz.f37, Tryz.func37, by kernel_rfl, by kernel_rfl⟩
theorem call19_18 : Callable Tryz.prog 18 := ⟨Tryz.f18, Tryz.func18, by kernel_rfl, by kernel_rfl⟩
theorem call19_38 : Callable Tryz.prog 38 := ⟨Tryz.f38, Tryz.func38, by kernel_rfl, by kernel_rfl⟩
theorem call19_39 : Callable Tryz.prog 39 := ⟨Tryz.f39, Tryz.func39, by kernel_rfl, by kernel_rfl⟩
theorem call19_40 : Callable Tryz.prog 40 := ⟨Tryz.f40, Tryz.func40, by kernel_rfl, by kernel_rfl⟩
theorem ext19Ok : ExtOk Tryz.prog ext19 := ⟨⟨call19_36, con36⟩, ⟨call19_37, con37⟩, ⟨call19_18, con18⟩, ⟨call19_38, con38⟩, ⟨call19_39, con39⟩, ⟨call19_40, con40⟩, trivial⟩
/-! Function 19. -/
noncomputable def b19 : Code := bodyOf Tryz.f19
theorem hb19 : Tryz.f19.body = some b19 := by kernel_rfl
def sig19 : List AT := [AT.v (Ty.str)]
def tys19 : List Ty := [Ty.cons Ty.str (Ty.cons Ty.str (Ty.cons Ty.str Ty.unit)), Ty.int IntKind.i64]
def P19 (x0 : ByteArray) : Prop := (if (Decidable.decide ((↑(ByteArray.size x0) : Int) < 6)) = true then True else ((5 < (↑(ByteArray.size x0) : Int)) ∧ (if ((↑(UInt8.toNat (List.getD (Array.toList (ByteArray.data x0)) 5 0)) : Int) != 32) = true then True else ((6 ≤ (↑(ByteArray.size x0) : Int)) ∧ ((P36 (ByteArray.extract x0 6 (Int.toNat (↑(ByteArray.size x0) : Int))) (ByteArray.mk #[32])) ∧ ((P36 (g36_1 (ByteArray.extract x0 6 (Int.toNat (↑(ByteArray.size x0) : Int))) (ByteArray.mk #[32])) (ByteArray.mk #[32])) ∧ ((6 ≤ (↑(ByteArray.size x0) : Int)) ∧ ((P18 (g37_0 (ByteArray.extract x0 6 (Int.toNat (↑(ByteArray.size x0) : Int))) 65535)) ∧ ((5 ≤ (↑(ByteArray.size x0) : Int)) ∧ ((InR IntKind.i64 (5 - (↑(ByteArray.size (g18_0 (g37_0 (ByteArray.extract x0 6 (Int.toNat (↑(ByteArray.size x0) : Int))) 65535))) : Int))) ∧ ((P38 (ByteArray.mk #[48]) (5 - (↑(ByteArray.size (g18_0 (g37_0 (ByteArray.extract x0 6 (Int.toNat (↑(ByteArray.size x0) : Int))) 65535))) : Int))) ∧ ((ByteArray.size (g38_0 (ByteArray.mk #[48]) (5 - (↑(ByteArray.size (g18_0 (g37_0 (ByteArray.extract x0 6 (Int.toNat (↑(ByteArray.size x0) : Int))) 65535))) : Int))) + ByteArray.size (g18_0 (g37_0 (ByteArray.extract x0 6 (Int.toNat (↑(ByteArray.size x0) : Int))) 65535)) ≤ 9223372036854775807) ∧ (if (!ByteArray.toList (ByteArray.extract x0 0 5) == ByteArray.toList (g38_0 (ByteArray.mk #[48]) (5 - (↑(ByteArray.size (g18_0 (g37_0 (ByteArray.extract x0 6 (Int.toNat (↑(ByteArray.size x0) : Int))) 65535))) : Int)) ++ g18_0 (g37_0 (ByteArray.extract x0 6 (Int.toNat (↑(ByteArray.size x0) : Int))) 65535))) = true then True else ((P39 (g36_0 (ByteArray.extract x0 6 (Int.toNat (↑(ByteArray.size x0) : Int))) (ByteArray.mk #[32]), g36_0 (g36_1 (ByteArray.extract x0 6 (Int.toNat (↑(ByteArray.size x0) : Int))) (ByteArray.mk #[32])) (ByteArray.mk #[32]), g36_1 (g36_1 (ByteArray.extract x0 6 (Int.toNat (↑(ByteArray.size x0) : Int))) (ByteArray.mk #[32])) (ByteArray.mk #[32]), ())) ∧ (if (!g39_0 (g36_0 (ByteArray.extract x0 6 (Int.toNat (↑(ByteArray.size x0) : Int))) (ByteArray.mk #[32]), g36_0 (g36_1 (ByteArray.extract x0 6 (Int.toNat (↑(ByteArray.size x0) : Int))) (ByteArray.mk #[32])) (ByteArray.mk #[32]), g36_1 (g36_1 (ByteArray.extract x0 6 (Int.toNat (↑(ByteArray.size x0) : Int))) (ByteArray.mk #[32])) (ByteArray.mk #[32]), ())) = true then True else ((P40 (g36_0 (ByteArray.extract x0 6 (Int.toNat (↑(ByteArray.size x0) : Int))) (ByteArray.mk #[32]), g36_0 (g36_1 (ByteArray.extract x0 6 (Int.toNat (↑(ByteArray.size x0) : Int))) (ByteArray.mk #[32])) (ByteArray.mk #[32]), g36_1 (g36_1 (ByteArray.extract x0 6 (Int.toNat (↑(ByteArray.size x0) : Int))) (ByteArray.mk #[32])) (ByteArray.mk #[32]), ())) ∧ True))))))))))))))))
def g19_0 (x0 : ByteArray) : ByteArray × ByteArray × ByteArray × Unit := (if (Decidable.decide ((↑(ByteArray.size x0) : Int) < 6)) = true then (ByteArray.empty, ByteArray.empty, ByteArray.empty, ()) else (if ((↑(UInt8.toNat (List.getD (Array.toList (ByteArray.data x0)) 5 0)) : Int) != 32) = true then (ByteArray.empty, ByteArray.empty, ByteArray.empty, ()) else (if (!ByteArray.toList (ByteArray.extract x0 0 5) == ByteArray.toList (g38_0 (ByteArray.mk #[48]) (5 - (↑(ByteArray.size (g18_0 (g37_0 (ByteArray.extract x0 6 (Int.toNat (↑(ByteArray.size x0) : Int))) 65535))) : Int)) ++ g18_0 (g37_0 (ByteArray.extract x0 6 (Int.toNat (↑(ByteArray.size x0) : Int))) 65535))) = true then (ByteArray.empty, ByteArray.empty, ByteArray.empty, ()) else (if (!g39_0 (g36_0 (ByteArray.extract x0 6 (Int.toNat (↑(ByteArray.size x0) : Int))) (ByteArray.mk #[32]), g36_0 (g36_1 (ByteArray.extract x0 6 (Int.toNat (↑(ByteArray.size x0) : Int))) (ByteArray.mk #[32])) (ByteArray.mk #[32]), g36_1 (g36_1 (ByteArray.extract x0 6 (Int.toNat (↑(ByteArray.size x0) : Int))) (ByteArray.mk #[32])) (ByteArray.mk #[32]), ())) = true then (ByteArray.empty, ByteArray.empty, ByteArray.empty, ()) else (if (!ByteArray.toList (g40_0 (g36_0 (ByteArray.extract x0 6 (Int.toNat (↑(ByteArray.size x0) : Int))) (ByteArray.mk #[32]), g36_0 (g36_1 (ByteArray.extract x0 6 (Int.toNat (↑(ByteArray.size x0) : Int))) (ByteArray.mk #[32])) (ByteArray.mk #[32]), g36_1 (g36_1 (ByteArray.extract x0 6 (Int.toNat (↑(ByteArray.size x0) : Int))) (ByteArray.mk #[32])) (ByteArray.mk #[32]), ())) == ByteArray.toList x0) = true then (ByteArray.empty, ByteArray.empty, ByteArray.empty, ()) else (g36_0 (ByteArray.extract x0 6 (Int.toNat (↑(ByteArray.size x0) : Int))) (ByteArray.mk #[32]), g36_0 (g36_1 (ByteArray.extract x0 6 (Int.toNat (↑(ByteArray.size x0) : Int))) (ByteArray.mk #[32])) (ByteArray.mk #[32]), g36_1 (g36_1 (ByteArray.extract x0 6 (Int.toNat (↑(ByteArray.size x0) : Int))) (ByteArray.mk #[32])) (ByteArray.mk #[32]), ()))))))
def g19_1 (x0 : ByteArray) : Int := (if (Decidable.decide ((↑(ByteArray.size x0) : Int) < 6)) = true then 9 else (if ((↑(UInt8.toNat (List.getD (Array.toList (ByteArray.data x0)) 5 0)) : Int) != 32) = true then 9 else (if (!ByteArray.toList (ByteArray.extract x0 0 5) == ByteArray.toList (g38_0 (ByteArray.mk #[48]) (5 - (↑(ByteArray.size (g18_0 (g37_0 (ByteArray.extract x0 6 (Int.toNat (↑(ByteArray.size x0) : Int))) 65535))) : Int)) ++ g18_0 (g37_0 (ByteArray.extract x0 6 (Int.toNat (↑(ByteArray.size x0) : Int))) 65535))) = true then 10 else (if (!g39_0 (g36_0 (ByteArray.extract x0 6 (Int.toNat (↑(ByteArray.size x0) : Int))) (ByteArray.mk #[32]), g36_0 (g36_1 (ByteArray.extract x0 6 (Int.toNat (↑(ByteArray.size x0) : Int))) (ByteArray.mk #[32])) (ByteArray.mk #[32]), g36_1 (g36_1 (ByteArray.extract x0 6 (Int.toNat (↑(ByteArray.size x0) : Int))) (ByteArray.mk #[32])) (ByteArray.mk #[32]), ())) = true then 9 else (if (!ByteArray.toList (g40_0 (g36_0 (ByteArray.extract x0 6 (Int.toNat (↑(ByteArray.size x0) : Int))) (ByteArray.mk #[32]), g36_0 (g36_1 (ByteArray.extract x0 6 (Int.toNat (↑(ByteArray.size x0) : Int))) (ByteArray.mk #[32])) (ByteArray.mk #[32]), g36_1 (g36_1 (ByteArray.extract x0 6 (Int.toNat (↑(ByteArray.size x0) : Int))) (ByteArray.mk #[32])) (ByteArray.mk #[32]), ())) == ByteArray.toList x0) = true then 9 else 0)))))
theorem p19_0 (x0 : ByteArray) : runF tab ext19 false 63 [] 2000 [] tys19 Tryz.f19.results [true, true] [.code b19] (entE 0 0 sig19 (x0, ())) (entL sig19 (x0, ())) = some ([Dyn.mk (Ty.cons Ty.str (Ty.cons Ty.str (Ty.cons Ty.str Ty.unit))) (ByteArray.empty, ByteArray.empty, ByteArray.empty, ()), Dyn.mk (Ty.int IntKind.i64) 9], [], [Decidable.decide ((↑(ByteArray.size x0) : Int) < 6) = Bool.true, Bool.true = Bool.true]) := by kernel_rfl
theorem p19_1 (x0 : ByteArray) : runF tab ext19 false 63 [] 2000 [] tys19 Tryz.f19.results [false, true] [.code b19] (entE 0 0 sig19 (x0, ())) (entL sig19 (x0, ())) = some ([Dyn.mk (Ty.cons Ty.str (Ty.cons Ty.str (Ty.cons Ty.str Ty.unit))) (ByteArray.empty, ByteArray.empty, ByteArray.empty, ()), Dyn.mk (Ty.int IntKind.i64) 9], [], [Decidable.decide ((↑(ByteArray.size x0) : Int) < 6) = Bool.false, (0 : Int) ≤ (5 : Int), 5 < (↑(ByteArray.size x0) : Int), ((↑(UInt8.toNat (List.getD (Array.toList (ByteArray.data x0)) 5 0)) : Int) != 32) = Bool.true]) := by kernel_rfl
theorem p19_2 (x0 : ByteArray) : runF tab ext19 false 63 [] 2000 [] tys19 Tryz.f19.results [false, false, true] [.code b19] (entE 0 0 sig19 (x0, ())) (entL sig19 (x0, ())) = some ([Dyn.mk (Ty.cons Ty.str (Ty.cons Ty.str (Ty.cons Ty.str Ty.unit))) (ByteArray.empty, ByteArray.empty, ByteArray.empty, ()), Dyn.mk (Ty.int IntKind.i64) 10], [], [Decidable.decide ((↑(ByteArray.size x0) : Int) < 6) = Bool.false, (0 : Int) ≤ (5 : Int), 5 < (↑(ByteArray.size x0) : Int), ((↑(UInt8.toNat (List.getD (Array.toList (ByteArray.data x0)) 5 0)) : Int) != 32) = Bool.false, (0 : Int) ≤ (6 : Int), 6 ≤ (↑(ByteArray.size x0) : Int), P36 (ByteArray.extract x0 6 (Int.toNat (↑(ByteArray.size x0) : Int))) (ByteArray.mk #[32]), P36 (g36_1 (ByteArray.extract x0 6 (Int.toNat (↑(ByteArray.size x0) : Int))) (ByteArray.mk #[32])) (ByteArray.mk #[32]), (0 : Int) ≤ (6 : Int), 6 ≤ (↑(ByteArray.size x0) : Int), True, P18 (g37_0 (ByteArray.extract x0 6 (Int.toNat (↑(ByteArray.size x0) : Int))) 65535), (0 : Int) ≤ (5 : Int), 5 ≤ (↑(ByteArray.size x0) : Int), InR IntKind.i64 (5 - (↑(ByteArray.size (g18_0 (g37_0 (ByteArray.extract x0 6 (Int.toNat (↑(ByteArray.size x0) : Int))) 65535))) : Int)), P38 (ByteArray.mk #[48]) (5 - (↑(ByteArray.size (g18_0 (g37_0 (ByteArray.extract x0 6 (Int.toNat (↑(ByteArray.size x0) : Int))) 65535))) : Int)), ByteArray.size (g38_0 (ByteArray.mk #[48]) (5 - (↑(ByteArray.size (g18_0 (g37_0 (ByteArray.extract x0 6 (Int.toNat (↑(ByteArray.size x0) : Int))) 65535))) : Int))) + ByteArray.size (g18_0 (g37_0 (ByteArray.extract x0 6 (Int.toNat (↑(ByteArray.size x0) : Int))) 65535)) ≤ 9223372036854775807, (!ByteArray.toList (ByteArray.extract x0 0 5) == ByteArray.toList (g38_0 (ByteArray.mk #[48]) (5 - (↑(ByteArray.size (g18_0 (g37_0 (ByteArray.extract x0 6 (Int.toNat (↑(ByteArray.size x0) : Int))) 65535))) : Int)) ++ g18_0 (g37_0 (ByteArray.extract x0 6 (Int.toNat (↑(ByteArray.size x0) : Int))) 65535))) = Bool.true]) := by kernel_rfl
theorem p19_3 (x0 : ByteArray) : runF tab ext19 false 63 [] 2000 [] tys19 Tryz.f19.results [false, false, false, true, true] [.code b19] (entE 0 0 sig19 (x0, ())) (entL sig19 (x0, ())) = some ([Dyn.mk (Ty.cons Ty.str (Ty.cons Ty.str (Ty.cons Ty.str Ty.unit))) (ByteArray.empty, ByteArray.empty, ByteArray.empty, ()), Dyn.mk (Ty.int IntKind.i64) 9], [], [Decidable.decide ((↑(ByteArray.size x0) : Int) < 6) = Bool.false, (0 : Int) ≤ (5 : Int), 5 < (↑(ByteArray.size x0) : Int), ((↑(UInt8.toNat (List.getD (Array.toList (ByteArray.data x0)) 5 0)) : Int) != 32) = Bool.false, (0 : Int) ≤ (6 : Int), 6 ≤ (↑(ByteArray.size x0) : Int), P36 (ByteArray.extract x0 6 (Int.toNat (↑(ByteArray.size x0) : Int))) (ByteArray.mk #[32]), P36 (g36_1 (ByteArray.extract x0 6 (Int.toNat (↑(ByteArray.size x0) : Int))) (ByteArray.mk #[32])) (ByteArray.mk #[32]), (0 : Int) ≤ (6 : Int), 6 ≤ (↑(ByteArray.size x0) : Int), True, P18 (g37_0 (ByteArray.extract x0 6 (Int.toNat (↑(ByteArray.size x0) : Int))) 65535), (0 : Int) ≤ (5 : Int), 5 ≤ (↑(ByteArray.size x0) : Int), InR IntKind.i64 (5 - (↑(ByteArray.size (g18_0 (g37_0 (ByteArray.extract x0 6 (Int.toNat (↑(ByteArray.size x0) : Int))) 65535))) : Int)), P38 (ByteArray.mk #[48]) (5 - (↑(ByteArray.size (g18_0 (g37_0 (ByteArray.extract x0 6 (Int.toNat (↑(ByteArray.size x0) : Int))) 65535))) : Int)), ByteArray.size (g38_0 (ByteArray.mk #[48]) (5 - (↑(ByteArray.size (g18_0 (g37_0 (ByteArray.extract x0 6 (Int.toNat (↑(ByteArray.size x0) : Int))) 65535))) : Int))) + ByteArray.size (g18_0 (g37_0 (ByteArray.extract x0 6 (Int.toNat (↑(ByteArray.size x0) : Int))) 65535)) ≤ 9223372036854775807, (!ByteArray.toList (ByteArray.extract x0 0 5) == ByteArray.toList (g38_0 (ByteArray.mk #[48]) (5 - (↑(ByteArray.size (g18_0 (g37_0 (ByteArray.extract x0 6 (Int.toNat (↑(ByteArray.size x0) : Int))) 65535))) : Int)) ++ g18_0 (g37_0 (ByteArray.extract x0 6 (Int.toNat (↑(ByteArray.size x0) : Int))) 65535))) = Bool.false, P39 (g36_0 (ByteArray.extract x0 6 (Int.toNat (↑(ByteArray.size x0) : Int))) (ByteArray.mk #[32]), g36_0 (g36_1 (ByteArray.extract x0 6 (Int.toNat (↑(ByteArray.size x0) : Int))) (ByteArray.mk #[32])) (ByteArray.mk #[32]), g36_1 (g36_1 (ByteArray.extract x0 6 (Int.toNat (↑(ByteArray.size x0) : Int))) (ByteArray.mk #[32])) (ByteArray.mk #[32]), ()), (!g39_0 (g36_0 (ByteArray.extract x0 6 (Int.toNat (↑(ByteArray.size x0) : Int))) (ByteArray.mk #[32]), g36_0 (g36_1 (ByteArray.extract x0 6 (Int.toNat (↑(ByteArray.size x0) : Int))) (ByteArray.mk #[32])) (ByteArray.mk #[32]), g36_1 (g36_1 (ByteArray.extract x0 6 (Int.toNat (↑(ByteArray.size x0) : Int))) (ByteArray.mk #[32])) (ByteArray.mk #[32]), ())) = Bool.true, Bool.true = Bool.true]) := by kernel_rfl
theorem p19_4 (x0 : ByteArray) : runF tab ext19 false 63 [] 2000 [] tys19 Tryz.f19.results [false, false, false, false, true] [.code b19] (entE 0 0 sig19 (x0, ())) (entL sig19 (x0, ())) = some ([Dyn.mk (Ty.cons Ty.str (Ty.cons Ty.str (Ty.cons Ty.str Ty.unit))) (ByteArray.empty, ByteArray.empty, ByteArray.empty, ()), Dyn.mk (Ty.int IntKind.i64) 9], [], [Decidable.decide ((↑(ByteArray.size x0) : Int) < 6) = Bool.false, (0 : Int) ≤ (5 : Int), 5 < (↑(ByteArray.size x0) : Int), ((↑(UInt8.toNat (List.getD (Array.toList (ByteArray.data x0)) 5 0)) : Int) != 32) = Bool.false, (0 : Int) ≤ (6 : Int), 6 ≤ (↑(ByteArray.size x0) : Int), P36 (ByteArray.extract x0 6 (Int.toNat (↑(ByteArray.size x0) : Int))) (ByteArray.mk #[32]), P36 (g36_1 (ByteArray.extract x0 6 (Int.toNat (↑(ByteArray.size x0) : Int))) (ByteArray.mk #[32])) (ByteArray.mk #[32]), (0 : Int) ≤ (6 : Int), 6 ≤ (↑(ByteArray.size x0) : Int), True, P18 (g37_0 (ByteArray.extract x0 6 (Int.toNat (↑(ByteArray.size x0) : Int))) 65535), (0 : Int) ≤ (5 : Int), 5 ≤ (↑(ByteArray.size x0) : Int), InR IntKind.i64 (5 - (↑(ByteArray.size (g18_0 (g37_0 (ByteArray.extract x0 6 (Int.toNat (↑(ByteArray.size x0) : Int))) 65535))) : Int)), P38 (ByteArray.mk #[48]) (5 - (↑(ByteArray.size (g18_0 (g37_0 (ByteArray.extract x0 6 (Int.toNat (↑(ByteArray.size x0) : Int))) 65535))) : Int)), ByteArray.size (g38_0 (ByteArray.mk #[48]) (5 - (↑(ByteArray.size (g18_0 (g37_0 (ByteArray.extract x0 6 (Int.toNat (↑(ByteArray.size x0) : Int))) 65535))) : Int))) + ByteArray.size (g18_0 (g37_0 (ByteArray.extract x0 6 (Int.toNat (↑(ByteArray.size x0) : Int))) 65535)) ≤ 9223372036854775807, (!ByteArray.toList (ByteArray.extract x0 0 5) == ByteArray.toList (g38_0 (ByteArray.mk #[48]) (5 - (↑(ByteArray.size (g18_0 (g37_0 (ByteArray.extract x0 6 (Int.toNat (↑(ByteArray.size x0) : Int))) 65535))) : Int)) ++ g18_0 (g37_0 (ByteArray.extract x0 6 (Int.toNat (↑(ByteArray.size x0) : Int))) 65535))) = Bool.false, P39 (g36_0 (ByteArray.extract x0 6 (Int.toNat (↑(ByteArray.size x0) : Int))) (ByteArray.mk #[32]), g36_0 (g36_1 (ByteArray.extract x0 6 (Int.toNat (↑(ByteArray.size x0) : Int))) (ByteArray.mk #[32])) (ByteArray.mk #[32]), g36_1 (g36_1 (ByteArray.extract x0 6 (Int.toNat (↑(ByteArray.size x0) : Int))) (ByteArray.mk #[32])) (ByteArray.mk #[32]), ()), (!g39_0 (g36_0 (ByteArray.extract x0 6 (Int.toNat (↑(ByteArray.size x0) : Int))) (ByteArray.mk #[32]), g36_0 (g36_1 (ByteArray.extract x0 6 (Int.toNat (↑(ByteArray.size x0) : Int))) (ByteArray.mk #[32])) (ByteArray.mk #[32]), g36_1 (g36_1 (ByteArray.extract x0 6 (Int.toNat (↑(ByteArray.size x0) : Int))) (ByteArray.mk #[32])) (ByteArray.mk #[32]), ())) = Bool.false, P40 (g36_0 (ByteArray.extract x0 6 (Int.toNat (↑(ByteArray.size x0) : Int))) (ByteArray.mk #[32]), g36_0 (g36_1 (ByteArray.extract x0 6 (Int.toNat (↑(ByteArray.size x0) : Int))) (ByteArray.mk #[32])) (ByteArray.mk #[32]), g36_1 (g36_1 (ByteArray.extract x0 6 (Int.toNat (↑(ByteArray.size x0) : Int))) (ByteArray.mk #[32])) (ByteArray.mk #[32]), ()), (!ByteArray.toList (g40_0 (g36_0 (ByteArray.extract x0 6 (Int.toNat (↑(ByteArray.size x0) : Int))) (ByteArray.mk #[32]), g36_0 (g36_1 (ByteArray.extract x0 6 (Int.toNat (↑(ByteArray.size x0) : Int))) (ByteArray.mk #[32])) (ByteArray.mk #[32]), g36_1 (g36_1 (ByteArray.extract x0 6 (Int.toNat (↑(ByteArray.size x0) : Int))) (ByteArray.mk #[32])) (ByteArray.mk #[32]), ())) == ByteArray.toList x0) = Bool.true]) := by kernel_rfl
theorem p19_5 (x0 : ByteArray) : runF tab ext19 false 63 [] 2000 [] tys19 Tryz.f19.results [false, false, false, false, false] [.code b19] (entE 0 0 sig19 (x0, ())) (entL sig19 (x0, ())) = some ([Dyn.mk (Ty.cons Ty.str (Ty.cons Ty.str (Ty.cons Ty.str Ty.unit))) (g36_0 (ByteArray.extract x0 6 (Int.toNat (↑(ByteArray.size x0) : Int))) (ByteArray.mk #[32]), g36_0 (g36_1 (ByteArray.extract x0 6 (Int.toNat (↑(ByteArray.size x0) : Int))) (ByteArray.mk #[32])) (ByteArray.mk #[32]), g36_1 (g36_1 (ByteArray.extract x0 6 (Int.toNat (↑(ByteArray.size x0) : Int))) (ByteArray.mk #[32])) (ByteArray.mk #[32]), ()), Dyn.mk (Ty.int IntKind.i64) 0], [], [Decidable.decide ((↑(ByteArray.size x0) : Int) < 6) = Bool.false, (0 : Int) ≤ (5 : Int), 5 < (↑(ByteArray.size x0) : Int), ((↑(UInt8.toNat (List.getD (Array.toList (ByteArray.data x0)) 5 0)) : Int) != 32) = Bool.false, (0 : Int) ≤ (6 : Int), 6 ≤ (↑(ByteArray.size x0) : Int), P36 (ByteArray.extract x0 6 (Int.toNat (↑(ByteArray.size x0) : Int))) (ByteArray.mk #[32]), P36 (g36_1 (ByteArray.extract x0 6 (Int.toNat (↑(ByteArray.size x0) : Int))) (ByteArray.mk #[32])) (ByteArray.mk #[32]), (0 : Int) ≤ (6 : Int), 6 ≤ (↑(ByteArray.size x0) : Int), True, P18 (g37_0 (ByteArray.extract x0 6 (Int.toNat (↑(ByteArray.size x0) : Int))) 65535), (0 : Int) ≤ (5 : Int), 5 ≤ (↑(ByteArray.size x0) : Int), InR IntKind.i64 (5 - (↑(ByteArray.size (g18_0 (g37_0 (ByteArray.extract x0 6 (Int.toNat (↑(ByteArray.size x0) : Int))) 65535))) : Int)), P38 (ByteArray.mk #[48]) (5 - (↑(ByteArray.size (g18_0 (g37_0 (ByteArray.extract x0 6 (Int.toNat (↑(ByteArray.size x0) : Int))) 65535))) : Int)), ByteArray.size (g38_0 (ByteArray.mk #[48]) (5 - (↑(ByteArray.size (g18_0 (g37_0 (ByteArray.extract x0 6 (Int.toNat (↑(ByteArray.size x0) : Int))) 65535))) : Int))) + ByteArray.size (g18_0 (g37_0 (ByteArray.extract x0 6 (Int.toNat (↑(ByteArray.size x0) : Int))) 65535)) ≤ 9223372036854775807, (!ByteArray.toList (ByteArray.extract x0 0 5) == ByteArray.toList (g38_0 (ByteArray.mk #[48]) (5 - (↑(ByteArray.size (g18_0 (g37_0 (ByteArray.extract x0 6 (Int.toNat (↑(ByteArray.size x0) : Int))) 65535))) : Int)) ++ g18_0 (g37_0 (ByteArray.extract x0 6 (Int.toNat (↑(ByteArray.size x0) : Int))) 65535))) = Bool.false, P39 (g36_0 (ByteArray.extract x0 6 (Int.toNat (↑(ByteArray.size x0) : Int))) (ByteArray.mk #[32]), g36_0 (g36_1 (ByteArray.extract x0 6 (Int.toNat (↑(ByteArray.size x0) : Int))) (ByteArray.mk #[32])) (ByteArray.mk #[32]), g36_1 (g36_1 (ByteArray.extract x0 6 (Int.toNat (↑(ByteArray.size x0) : Int))) (ByteArray.mk #[32])) (ByteArray.mk #[32]), ()), (!g39_0 (g36_0 (ByteArray.extract x0 6 (Int.toNat (↑(ByteArray.size x0) : Int))) (ByteArray.mk #[32]), g36_0 (g36_1 (ByteArray.extract x0 6 (Int.toNat (↑(ByteArray.size x0) : Int))) (ByteArray.mk #[32])) (ByteArray.mk #[32]), g36_1 (g36_1 (ByteArray.extract x0 6 (Int.toNat (↑(ByteArray.size x0) : Int))) (ByteArray.mk #[32])) (ByteArray.mk #[32]), ())) = Bool.false, P40 (g36_0 (ByteArray.extract x0 6 (Int.toNat (↑(ByteArray.size x0) : Int))) (ByteArray.mk #[32]), g36_0 (g36_1 (ByteArray.extract x0 6 (Int.toNat (↑(ByteArray.size x0) : Int))) (ByteArray.mk #[32])) (ByteArray.mk #[32]), g36_1 (g36_1 (ByteArray.extract x0 6 (Int.toNat (↑(ByteArray.size x0) : Int))) (ByteArray.mk #[32])) (ByteArray.mk #[32]), ()), (!ByteArray.toList (g40_0 (g36_0 (ByteArray.extract x0 6 (Int.toNat (↑(ByteArray.size x0) : Int))) (ByteArray.mk #[32]), g36_0 (g36_1 (ByteArray.extract x0 6 (Int.toNat (↑(ByteArray.size x0) : Int))) (ByteArray.mk #[32])) (ByteArray.mk #[32]), g36_1 (g36_1 (ByteArray.extract x0 6 (Int.toNat (↑(ByteArray.size x0) : Int))) (ByteArray.mk #[32])) (ByteArray.mk #[32]), ())) == ByteArray.toList x0) = Bool.false]) := by kernel_rfl
theorem at19 (x0 : ByteArray) (h : P19 x0) (w0 : World) (O : List Nat) (q : Nat → Value) : AtV Tryz.prog 19 (PostR [⟨Ty.cons Ty.str (Ty.cons Ty.str (Ty.cons Ty.str Ty.unit)), g19_0 x0⟩, ⟨Ty.int IntKind.i64, g19_1 x0⟩] [] [] q w0 O) 63 w0 O q [] [.code b19] (entE 0 0 sig19 (x0, ())) (entL sig19 (x0, ())) := by
  unfold P19 at h
  unfold g19_0 g19_1
  by_cases b0 : (Decidable.decide ((↑(ByteArray.size x0) : Int) < 6)) = true
  · try simp only [if_pos b0] at h ⊢
    exact AtV.fin Tryz.func19 tabOk ext19Ok mixed (p19_0 x0) ⟨b0, rfl, trivial⟩
  · try simp only [if_neg b0] at h ⊢
    replace b0 := Bool.eq_false_iff.2 b0
    obtain ⟨s0, h⟩ := h
    by_cases b1 : ((↑(UInt8.toNat (List.getD (Array.toList (ByteArray.data x0)) 5 0)) : Int) != 32) = true
    · try simp only [if_pos b1] at h ⊢
      exact AtV.fin Tryz.func19 tabOk ext19Ok mixed (p19_1 x0) ⟨b0, (by decide), s0, b1, trivial⟩
    · try simp only [if_neg b1] at h ⊢
      replace b1 := Bool.eq_false_iff.2 b1
      obtain ⟨s1, h⟩ := h
      obtain ⟨s2, h⟩ := h
      obtain ⟨s3, h⟩ := h
      obtain ⟨s4, h⟩ := h
      obtain ⟨s5, h⟩ := h
      obtain ⟨s6, h⟩ := h
      obtain ⟨s7, h⟩ := h
      obtain ⟨s8, h⟩ := h
      obtain ⟨s9, h⟩ := h
      by_cases b2 : (!ByteArray.toList (ByteArray.extract x0 0 5) == ByteArray.toList (g38_0 (ByteArray.mk #[48]) (5 - (↑(ByteArray.size (g18_0 (g37_0 (ByteArray.extract x0 6 (Int.toNat (↑(ByteArray.size x0) : Int))) 65535))) : Int)) ++ g18_0 (g37_0 (ByteArray.extract x0 6 (Int.toNat (↑(ByteArray.size x0) : Int))) 65535))) = true
      · try simp only [if_pos b2] at h ⊢
        exact AtV.fin Tryz.func19 tabOk ext19Ok mixed (p19_2 x0) ⟨b0, (by decide), s0, b1, (by decide), s1, s2, s3, (by decide), s4, trivial, s5, (by decide), s6, s7, s8, s9, b2, trivial⟩
      · try simp only [if_neg b2] at h ⊢
        replace b2 := Bool.eq_false_iff.2 b2
        obtain ⟨s10, h⟩ := h
        by_cases b3 : (!g39_0 (g36_0 (ByteArray.extract x0 6 (Int.toNat (↑(ByteArray.size x0) : Int))) (ByteArray.mk #[32]), g36_0 (g36_1 (ByteArray.extract x0 6 (Int.toNat (↑(ByteArray.size x0) : Int))) (ByteArray.mk #[32])) (ByteArray.mk #[32]), g36_1 (g36_1 (ByteArray.extract x0 6 (Int.toNat (↑(ByteArray.size x0) : Int))) (ByteArray.mk #[32])) (ByteArray.mk #[32]), ())) = true
        · try simp only [if_pos b3] at h ⊢
          exact AtV.fin Tryz.func19 tabOk ext19Ok mixed (p19_3 x0) ⟨b0, (by decide), s0, b1, (by decide), s1, s2, s3, (by decide), s4, trivial, s5, (by decide), s6, s7, s8, s9, b2, s10, b3, rfl, trivial⟩
        · try simp only [if_neg b3] at h ⊢
          replace b3 := Bool.eq_false_iff.2 b3
          obtain ⟨s11, h⟩ := h
          by_cases b4 : (!ByteArray.toList (g40_0 (g36_0 (ByteArray.extract x0 6 (Int.toNat (↑(ByteArray.size x0) : Int))) (ByteArray.mk #[32]), g36_0 (g36_1 (ByteArray.extract x0 6 (Int.toNat (↑(ByteArray.size x0) : Int))) (ByteArray.mk #[32])) (ByteArray.mk #[32]), g36_1 (g36_1 (ByteArray.extract x0 6 (Int.toNat (↑(ByteArray.size x0) : Int))) (ByteArray.mk #[32])) (ByteArray.mk #[32]), ())) == ByteArray.toList x0) = true
          · try simp only [if_pos b4] at h ⊢
            exact AtV.fin Tryz.func19 tabOk ext19Ok mixed (p19_4 x0) ⟨b0, (by decide), s0, b1, (by decide), s1, s2, s3, (by decide), s4, trivial, s5, (by decide), s6, s7, s8, s9, b2, s10, b3, s11, b4, trivial⟩
          · try simp only [if_neg b4] at h ⊢
            replace b4 := Bool.eq_false_iff.2 b4
            exact AtV.fin Tryz.func19 tabOk ext19Ok mixed (p19_5 x0) ⟨b0, (by decide), s0, b1, (by decide), s1, s2, s3, (by decide), s4, trivial, s5, (by decide), s6, s7, s8, s9, b2, s10, b3, s11, b4, trivial⟩

def S19 : Am.Spec := { sig := sig19, pre := fun ⟨x0, _⟩ => P19 x0, res := fun ⟨x0, _⟩ => [⟨Ty.cons Ty.str (Ty.cons Ty.str (Ty.cons Ty.str Ty.unit)), g19_0 x0⟩, ⟨Ty.int IntKind.i64, g19_1 x0⟩] }
theorem con19 : Contract Tryz.prog 19 S19 := contract_of Tryz.func19 hb19 (Nat.le_of_ble_eq_true (by kernel_rfl)) (fun ⟨x0, _⟩ h _ w0 O q => at19 x0 h w0 O q)


end Go.Proofs.YtcppjmlhilklcaaGreatDoor

/- Function 61 (cmp.isNaN[string]): its runs between cut points. Written by a program of this repo (gen). -/
set_option linter.unusedVariables false
set_option linter.unusedSimpArgs false
set_option maxRecDepth 100000
namespace Go.Proofs.YtcppjmlhilklcaaGreatDoor
open Go Go.Am Go.Proofs
def ext61 : Ext := []
theorem ext61Ok : ExtOk Tryz.prog ext61 := trivial
/-! Function 61. -/
noncomputable def b61 : Code := bodyOf Tryz.f61
theorem hb61 : Tryz.f61.body = some b61 := by kernel_rfl
def sig61 : List AT := [AT.v (Ty.str)]
def tys61 : List Ty := [Ty.bool]
def P61 (x0 : ByteArray) : Prop := True
def g61_0 (x0 : ByteArray) : Bool := !ByteArray.toList x0 == ByteArray.toList x0
theorem p61_0 (x0 : ByteArray) : runF tab ext61 false 6 [] 2000 [] tys61 Tryz.f61.results [] [.code b61] (entE 0 0 sig61 (x0, ())) (entL sig61 (x0, ())) = some ([Dyn.mk Ty.bool !ByteArray.toList x0 == ByteArray.toList x0], [], []) := by kernel_rfl
theorem at61 (x0 : ByteArray) (h : P61 x0) (w0 : World) (O : List Nat) (q : Nat → Value) : AtV Tryz.prog 61 (PostR [⟨Ty.bool, g61_0 x0⟩] [] [] q w0 O) 6 w0 O q [] [.code b61] (entE 0 0 sig61 (x0, ())) (entL sig61 (x0, ())) := by
  unfold P61 at h
  unfold g61_0
  exact AtV.fin Tryz.func61 tabOk ext61Ok mixed (p61_0 x0) trivial

def S61 : Am.Spec := { sig := sig61, pre := fun ⟨x0, _⟩ => P61 x0, res := fun ⟨x0, _⟩ => [⟨Ty.bool, g61_0 x0⟩] }
theorem con61 : Contract Tryz.prog 61 S61 := contract_of Tryz.func61 hb61 (Nat.le_of_ble_eq_true (by kernel_rfl)) (fun ⟨x0, _⟩ h _ w0 O q => at61 x0 h w0 O q)


end Go.Proofs.YtcppjmlhilklcaaGreatDoor

/- Function 42 (cmp.Compare[string]): its runs between cut points. Written by a program of this repo (gen). -/
set_option linter.unusedVariables false
set_option linter.unusedSimpArgs false
set_option maxRecDepth 100000
namespace Go.Proofs.YtcppjmlhilklcaaGreatDoor
open Go Go.Am Go.Proofs
def ext42 : Ext := [(61, S61)]
theorem call42_61 : Callable Tryz.prog 61 := ⟨Tryz.f61, Tryz.func61, by kernel_rfl, by kernel_rfl⟩
theorem ext42Ok : ExtOk Tryz.prog ext42 := ⟨⟨call42_61, con61⟩, trivial⟩
/-! Function 42. -/
noncomputable def b42 : Code := bodyOf Tryz.f42
theorem hb42 : Tryz.f42.body = some b42 := by kernel_rfl
def sig42 : List AT := [AT.v (Ty.str), AT.v (Ty.str)]
def tys42 : List Ty := [Ty.int IntKind.i64]
def P42 (x0 : ByteArray) (x1 : ByteArray) : Prop := True
def g42_0 (x0 : ByteArray) (x1 : ByteArray) : Int := (if (g61_0 x0) = true then (if (g61_0 x1) = true then 0 else -1) else (if (g61_0 x1) = true then 1 else (if (Op.bytesLess (ByteArray.toList x0) (ByteArray.toList x1)) = true then -1 else (if (!(Op.bytesLess (ByteArray.toList x0) (ByteArray.toList x1) || ByteArray.toList x0 == ByteArray.toList x1)) = true then 1 else 0))))
theorem p42_0 (x0 : ByteArray) (x1 : ByteArray) : runF tab ext42 false 20 [] 2000 [] tys42 Tryz.f42.results [true, true] [.code b42] (entE 0 0 sig42 (x0, x1, ())) (entL sig42 (x0, x1, ())) = some ([Dyn.mk (Ty.int IntKind.i64) 0], [], [True, True, g61_0 x0 = Bool.true, g61_0 x1 = Bool.true]) := by kernel_rfl
theorem p42_1 (x0 : ByteArray) (x1 : ByteArray) : runF tab ext42 false 20 [] 2000 [] tys42 Tryz.f42.results [true, false] [.code b42] (entE 0 0 sig42 (x0, x1, ())) (entL sig42 (x0, x1, ())) = some ([Dyn.mk (Ty.int IntKind.i64) (-1)], [], [True, True, g61_0 x0 = Bool.true, g61_0 x1 = Bool.false]) := by kernel_rfl
theorem p42_2 (x0 : ByteArray) (x1 : ByteArray) : runF tab ext42 false 20 [] 2000 [] tys42 Tryz.f42.results [false, true] [.code b42] (entE 0 0 sig42 (x0, x1, ())) (entL sig42 (x0, x1, ())) = some ([Dyn.mk (Ty.int IntKind.i64) 1], [], [True, True, g61_0 x0 = Bool.false, g61_0 x1 = Bool.true]) := by kernel_rfl
theorem p42_3 (x0 : ByteArray) (x1 : ByteArray) : runF tab ext42 false 20 [] 2000 [] tys42 Tryz.f42.results [false, false, true] [.code b42] (entE 0 0 sig42 (x0, x1, ())) (entL sig42 (x0, x1, ())) = some ([Dyn.mk (Ty.int IntKind.i64) (-1)], [], [True, True, g61_0 x0 = Bool.false, g61_0 x1 = Bool.false, Op.bytesLess (ByteArray.toList x0) (ByteArray.toList x1) = Bool.true]) := by kernel_rfl
theorem p42_4 (x0 : ByteArray) (x1 : ByteArray) : runF tab ext42 false 20 [] 2000 [] tys42 Tryz.f42.results [false, false, false, true] [.code b42] (entE 0 0 sig42 (x0, x1, ())) (entL sig42 (x0, x1, ())) = some ([Dyn.mk (Ty.int IntKind.i64) 1], [], [True, True, g61_0 x0 = Bool.false, g61_0 x1 = Bool.false, Op.bytesLess (ByteArray.toList x0) (ByteArray.toList x1) = Bool.false, (!(Op.bytesLess (ByteArray.toList x0) (ByteArray.toList x1) || ByteArray.toList x0 == ByteArray.toList x1)) = Bool.true]) := by kernel_rfl
theorem p42_5 (x0 : ByteArray) (x1 : ByteArray) : runF tab ext42 false 20 [] 2000 [] tys42 Tryz.f42.results [false, false, false, false] [.code b42] (entE 0 0 sig42 (x0, x1, ())) (entL sig42 (x0, x1, ())) = some ([Dyn.mk (Ty.int IntKind.i64) 0], [], [True, True, g61_0 x0 = Bool.false, g61_0 x1 = Bool.false, Op.bytesLess (ByteArray.toList x0) (ByteArray.toList x1) = Bool.false, (!(Op.bytesLess (ByteArray.toList x0) (ByteArray.toList x1) || ByteArray.toList x0 == ByteArray.toList x1)) = Bool.false]) := by kernel_rfl
theorem at42 (x0 : ByteArray) (x1 : ByteArray) (h : P42 x0 x1) (w0 : World) (O : List Nat) (q : Nat → Value) : AtV Tryz.prog 42 (PostR [⟨Ty.int IntKind.i64, g42_0 x0 x1⟩] [] [] q w0 O) 20 w0 O q [] [.code b42] (entE 0 0 sig42 (x0, x1, ())) (entL sig42 (x0, x1, ())) := by
  unfold P42 at h
  unfold g42_0
  by_cases b0 : (g61_0 x0) = true
  · try simp only [if_pos b0] at h ⊢
    by_cases b1 : (g61_0 x1) = true
    · try simp only [if_pos b1] at h ⊢
      exact AtV.fin Tryz.func42 tabOk ext42Ok mixed (p42_0 x0 x1) ⟨trivial, trivial, b0, b1, trivial⟩
    · try simp only [if_neg b1] at h ⊢
      replace b1 := Bool.eq_false_iff.2 b1
      exact AtV.fin Tryz.func42 tabOk ext42Ok mixed (p42_1 x0 x1) ⟨trivial, trivial, b0, b1, trivial⟩
  · try simp only [if_neg b0] at h ⊢
    replace b0 := Bool.eq_false_iff.2 b0
    by_cases b1 : (g61_0 x1) = true
    · try simp only [if_pos b1] at h ⊢
      exact AtV.fin Tryz.func42 tabOk ext42Ok mixed (p42_2 x0 x1) ⟨trivial, trivial, b0, b1, trivial⟩
    · try simp only [if_neg b1] at h ⊢
      replace b1 := Bool.eq_false_iff.2 b1
      by_cases b2 : (Op.bytesLess (ByteArray.toList x0) (ByteArray.toList x1)) = true
      · try simp only [if_pos b2] at h ⊢
        exact AtV.fin Tryz.func42 tabOk ext42Ok mixed (p42_3 x0 x1) ⟨trivial, trivial, b0, b1, b2, trivial⟩
      · try simp only [if_neg b2] at h ⊢
        replace b2 := Bool.eq_false_iff.2 b2
        by_cases b3 : (!(Op.bytesLess (ByteArray.toList x0) (ByteArray.toList x1) || ByteArray.toList x0 == ByteArray.toList x1)) = true
        · try simp only [if_pos b3] at h ⊢
          exact AtV.fin Tryz.func42 tabOk ext42Ok mixed (p42_4 x0 x1) ⟨trivial, trivial, b0, b1, b2, b3, trivial⟩
        · try simp only [if_neg b3] at h ⊢
          replace b3 := Bool.eq_false_iff.2 b3
          exact AtV.fin Tryz.func42 tabOk ext42Ok mixed (p42_5 x0 x1) ⟨trivial, trivial, b0, b1, b2, b3, trivial⟩

def S42 : Am.Spec := { sig := sig42, pre := fun ⟨x0, x1, _⟩ => P42 x0 x1, res := fun ⟨x0, x1, _⟩ => [⟨Ty.int IntKind.i64, g42_0 x0 x1⟩] }
theorem con42 : Contract Tryz.prog 42 S42 := contract_of Tryz.func42 hb42 (Nat.le_of_ble_eq_true (by kernel_rfl)) (fun ⟨x0, x1, _⟩ h _ w0 O q => at42 x0 x1 h w0 O q)


end Go.Proofs.YtcppjmlhilklcaaGreatDoor

/- Function 41 (cmp.Or[int]): its runs between cut points. Written by a program of this repo (gen). -/
set_option linter.unusedVariables false
set_option linter.unusedSimpArgs false
set_option maxRecDepth 100000
namespace Go.Proofs.YtcppjmlhilklcaaGreatDoor
open Go Go.Am Go.Proofs
def ext41 : Ext := []
theorem ext41Ok : ExtOk Tryz.prog ext41 := trivial
/-! Function 41. -/
noncomputable def b41 : Code := bodyOf Tryz.f41
theorem hb41 : Tryz.f41.body = some b41 := by kernel_rfl
def sig41 : List AT := [AT.v (Ty.sl (Ty.int IntKind.i64))]
def tys41 : List Ty := [Ty.int IntKind.i64]
def E41_3 (v8 : Int) (x0 : List Int) : Env := [(3, PV.a (Atom.val (Value.int IntKind.i64 0))), (6, PV.a (Atom.sl (Ty.int IntKind.i64) x0)), (7, PV.a (Atom.val (Value.int IntKind.i64 (↑(List.length x0) : Int)))), (8, PV.a (Atom.val (Value.int IntKind.i64 v8)))]
def L41_3 (v8 : Int) (x0 : List Int) : Heap := []
mutual
def R41 : Nat → List Int → List Dyn → Prop
  | 0, _, _ => False
  | n + 1, x0, ds => (R41_3 n (0) (x0) ds)
def R41_3 : Nat → Int → List Int → List Dyn → Prop
  | 0, _, _, _ => False
  | n + 1, v8, x0, ds => (if (Decidable.decide (v8 < (↑(List.length x0) : Int))) = true then ((0 ≤ v8) ∧ (v8 < (↑(List.length x0) : Int)) ∧ (if (List.getD x0 (Int.toNat v8) 0 != 0) = true then (ds = [Dyn.mk (Ty.int IntKind.i64) (List.getD x0 (Int.toNat v8) 0)]) else ((InR IntKind.i64 (v8 + 1)) ∧ (R41_3 n (v8 + 1) (x0) ds)))) else (ds = [Dyn.mk (Ty.int IntKind.i64) 0]))
end
theorem p41_0 (x0 : List Int) : Am.runN tab ext41 false 18 [] 2000 [] [] [3, 6, 7, 8] [] [] [.code b41] (entE 0 0 sig41 (x0, ())) (entL sig41 (x0, ())) = some (cutAt b41 3, E41_3 (0) (x0), L41_3 (0) (x0), []) := by kernel_rfl
theorem p41_1 (v8 : Int) (x0 : List Int) : runF tab ext41 false 18 [] 2000 [] tys41 Tryz.f41.results [true, true] (cutAt b41 3) (E41_3 v8 x0) (L41_3 v8 x0) = some ([Dyn.mk (Ty.int IntKind.i64) (List.getD x0 (Int.toNat v8) 0)], [], [Decidable.decide (v8 < (↑(List.length x0) : Int)) = Bool.true, 0 ≤ v8, v8 < (↑(List.length x0) : Int), (List.getD x0 (Int.toNat v8) 0 != 0) = Bool.true]) := by kernel_rfl
theorem p41_2 (v8 : Int) (x0 : List Int) : Am.runN tab ext41 false 18 [] 2000 [] [] [3, 6, 7, 8] [] [true, false] (cutAt b41 3) (E41_3 v8 x0) (L41_3 v8 x0) = some (cutAt b41 3, E41_3 (v8 + 1) (x0), L41_3 (v8 + 1) (x0), [Decidable.decide (v8 < (↑(List.length x0) : Int)) = Bool.true, 0 ≤ v8, v8 < (↑(List.length x0) : Int), (List.getD x0 (Int.toNat v8) 0 != 0) = Bool.false, InR IntKind.i64 (v8 + 1)]) := by kernel_rfl
theorem p41_3 (v8 : Int) (x0 : List Int) : runF tab ext41 false 18 [] 2000 [] tys41 Tryz.f41.results [false] (cutAt b41 3) (E41_3 v8 x0) (L41_3 v8 x0) = some ([Dyn.mk (Ty.int IntKind.i64) 0], [], [Decidable.decide (v8 < (↑(List.length x0) : Int)) = Bool.false]) := by kernel_rfl
theorem snd41 : ∀ n, (∀ (x0 : List Int) ds, R41 n x0 ds → ∀ w0 O q, AtV Tryz.prog 41 (PostR ds [] [] q w0 O) 18 w0 O q [] [.code b41] (entE 0 0 sig41 (x0, ())) (entL sig41 (x0, ()))) ∧ (∀ (v8 : Int) (x0 : List Int) ds, R41_3 n v8 x0 ds → ∀ w0 O q, AtV Tryz.prog 41 (PostR ds [] [] q w0 O) 18 w0 O q [] (cutAt b41 3) (E41_3 v8 x0) (L41_3 v8 x0)) := by
  intro n
  induction n with
  | zero => exact ⟨fun _ _ h => by simp only [R41] at h, fun _ _ _ h => by simp only [R41_3] at h⟩
  | succ n ih =>
  obtain ⟨ih, ih3⟩ := ih
  refine ⟨?_, ?_⟩
  · intro x0 ds h w0 O q
    rw [R41] at h
    exact AtV.runN tabOk ext41Ok mixed (p41_0 x0) trivial (ih3 _ _ _ h w0 O q)

  · intro v8 x0 ds h w0 O q
    rw [R41_3] at h
    by_cases b0 : (Decidable.decide (v8 < (↑(List.length x0) : Int))) = true
    · rw [if_pos b0] at h
      obtain ⟨s0, s1, h⟩ := h
      by_cases b1 : (List.getD x0 (Int.toNat v8) 0 != 0) = true
      · rw [if_pos b1] at h
        subst h
        exact AtV.fin Tryz.func41 tabOk ext41Ok mixed (p41_1 v8 x0) ⟨b0, s0, s1, b1, trivial⟩
      · rw [if_neg b1] at h
        replace b1 := Bool.eq_false_iff.2 b1
        obtain ⟨s2, h⟩ := h
        exact AtV.runN tabOk ext41Ok mixed (p41_2 v8 x0) ⟨b0, s0, s1, b1, s2, trivial⟩ (ih3 _ _ _ h w0 O q)
    · rw [if_neg b0] at h
      replace b0 := Bool.eq_false_iff.2 b0
      subst h
      exact AtV.fin Tryz.func41 tabOk ext41Ok mixed (p41_3 v8 x0) ⟨b0, trivial⟩



def g41_0 : List Int → Int
  | [] => 0
  | x :: r => if x != 0 then x else g41_0 r
def P41 (x0 : List Int) : Prop := True

theorem goL41 : ∀ (xs : List Int), goL (fun (_ : Unit) (x : Int) => if (x != 0) = true then Except.error [(⟨.int .i64, x⟩ : Dyn)] else .ok ()) (fun _ => [⟨.int .i64, (0 : Int)⟩]) () xs = [⟨.int .i64, g41_0 xs⟩]
  | [] => rfl
  | x :: r => by
    simp only [goL, g41_0]
    cases h : x != 0 with
    | true => simp
    | false => simpa using goL41 r

theorem top41 (x0 : List Int) (hm : x0.length ≤ maxLen) : R41 (x0.length + 1 + 1) x0 [⟨.int .i64, g41_0 x0⟩] := by
  rw [R41, ← goL41]
  refine loop_all x0 0 _ _ (fun _ _ => True) (fun n i _ ds => R41_3 n i x0 ds) trivial ?_ ?_
  · intro n b _
    show R41_3 (n + 1) x0.length x0 _
    rw [R41_3, if_neg (by simp)]
  · intro n i b hi _
    cases h : (x0.getD i 0 != 0) with
    | true =>
      show R41_3 (n + 1) (i : Int) x0 _
      rw [R41_3, if_pos (by simp; omega)]
      refine ⟨by omega, by omega, ?_⟩
      simp only [Int.toNat_natCast]
      rw [if_pos h] <;> trivial
    | false =>
      refine ⟨trivial, fun ds hr => ?_⟩
      rw [R41_3, if_pos (by simp; omega)]
      refine ⟨by omega, by omega, ?_⟩
      simp only [Int.toNat_natCast]
      rw [if_neg (by rw [h]; simp)]
      exact ⟨inR_up hm hi, hr⟩

def S41 : Am.Spec := { sig := sig41, pre := fun ⟨x0, _⟩ => P41 x0, res := fun ⟨x0, _⟩ => [⟨Ty.int .i64, g41_0 x0⟩] }
theorem con41 : Contract Tryz.prog 41 S41 := contract_of Tryz.func41 hb41 (Nat.le_of_ble_eq_true (by kernel_rfl)) (fun ⟨x0, _⟩ h hwf w0 O q =>
  (snd41 _).1 x0 _ (top41 x0 hwf.1.1) w0 O q)

end Go.Proofs.YtcppjmlhilklcaaGreatDoor

/- Function 20 (impl.compareBlocks): its runs between cut points. Written by a program of this repo (gen). -/
set_option linter.unusedVariables false
set_option linter.unusedSimpArgs false
set_option maxRecDepth 100000
namespace Go.Proofs.YtcppjmlhilklcaaGreatDoor
open Go Go.Am Go.Proofs
def ext20 : Ext := [(42, S42), (41, S41)]
theorem call20_42 : Callable Tryz.prog 42 := ⟨Tryz.f42, Tryz.func42, by kernel_rfl, by kernel_rfl⟩
theorem call20_41 : Callable Tryz.prog 41 := ⟨Tryz.f41, Tryz.func41, by kernel_rfl, by kernel_rfl⟩
theorem ext20Ok : ExtOk Tryz.prog ext20 := ⟨⟨call20_42, con42⟩, ⟨call20_41, con41⟩, trivial⟩
/-! Function 20. -/
noncomputable def b20 : Code := bodyOf Tryz.f20
theorem hb20 : Tryz.f20.body = some b20 := by kernel_rfl
def sig20 : List AT := [AT.v (Ty.cons Ty.str (Ty.cons Ty.str (Ty.cons Ty.str Ty.unit))), AT.v (Ty.cons Ty.str (Ty.cons Ty.str (Ty.cons Ty.str Ty.unit)))]
def tys20 : List Ty := [Ty.int IntKind.i64]
def P20 (x0 : ByteArray × ByteArray × ByteArray × Unit) (x1 : ByteArray × ByteArray × ByteArray × Unit) : Prop := True
def g20_0 (x0 : ByteArray × ByteArray × ByteArray × Unit) (x1 : ByteArray × ByteArray × ByteArray × Unit) : Int := g41_0 [g42_0 (Prod.fst x0) (Prod.fst x1), g42_0 (Prod.fst (Prod.snd x0)) (Prod.fst (Prod.snd x1))]
theorem p20_0 (x0 : ByteArray × ByteArray × ByteArray × Unit) (x1 : ByteArray × ByteArray × ByteArray × Unit) : runF tab ext20 false 17 [] 2000 [] tys20 Tryz.f20.results [] [.code b20] (entE 0 0 sig20 (x0, x1, ())) (entL sig20 (x0, x1, ())) = some ([Dyn.mk (Ty.int IntKind.i64) (g41_0 [g42_0 (Prod.fst x0) (Prod.fst x1), g42_0 (Prod.fst (Prod.snd x0)) (Prod.fst (Prod.snd x1))])], [], [True, True, True]) := by kernel_rfl
theorem at20 (x0 : ByteArray × ByteArray × ByteArray × Unit) (x1 : ByteArray × ByteArray × ByteArray × Unit) (h : P20 x0 x1) (w0 : World) (O : List Nat) (q : Nat → Value) : AtV Tryz.prog 20 (PostR [⟨Ty.int IntKind.i64, g20_0 x0 x1⟩] [] [] q w0 O) 17 w0 O q [] [.code b20] (entE 0 0 sig20 (x0, x1, ())) (entL sig20 (x0, x1, ())) := by
  unfold P20 at h
  unfold g20_0
  exact AtV.fin Tryz.func20 tabOk ext20Ok mixed (p20_0 x0 x1) ⟨trivial, trivial, trivial, trivial⟩

def S20 : Am.Spec := { sig := sig20, pre := fun ⟨x0, x1, _⟩ => P20 x0 x1, res := fun ⟨x0, x1, _⟩ => [⟨Ty.int IntKind.i64, g20_0 x0 x1⟩] }
theorem con20 : Contract Tryz.prog 20 S20 := contract_of Tryz.func20 hb20 (Nat.le_of_ble_eq_true (by kernel_rfl)) (fun ⟨x0, x1, _⟩ h _ w0 O q => at20 x0 x1 h w0 O q)


end Go.Proofs.YtcppjmlhilklcaaGreatDoor

/- Function 21 (impl.size[impl.Block]): its runs between cut points. Written by a program of this repo (gen). -/
set_option linter.unusedVariables false
set_option linter.unusedSimpArgs false
set_option maxRecDepth 100000
namespace Go.Proofs.YtcppjmlhilklcaaGreatDoor
open Go Go.Am Go.Proofs
def ext21 : Ext := []
theorem ext21Ok : ExtOk Tryz.prog ext21 := trivial
/-! Function 21. -/
noncomputable def b21 : Code := bodyOf Tryz.f21
theorem hb21 : Tryz.f21.body = some b21 := by kernel_rfl
def sig21 : List AT := [AT.v (Ty.sl (Ty.cons Ty.str (Ty.cons Ty.str (Ty.cons Ty.str Ty.unit))))]
def tys21 : List Ty := [Ty.int IntKind.i64]
def P21 (x0 : List (ByteArray × ByteArray × ByteArray × Unit)) : Prop := True
def g21_0 (x0 : List (ByteArray × ByteArray × ByteArray × Unit)) : Int := (↑(List.length x0) : Int)
theorem p21_0 (x0 : List (ByteArray × ByteArray × ByteArray × Unit)) : runF tab ext21 false 5 [] 2000 [] tys21 Tryz.f21.results [] [.code b21] (entE 0 0 sig21 (x0, ())) (entL sig21 (x0, ())) = some ([Dyn.mk (Ty.int IntKind.i64) (↑(List.length x0) : Int)], [], []) := by kernel_rfl
theorem at21 (x0 : List (ByteArray × ByteArray × ByteArray × Unit)) (h : P21 x0) (w0 : World) (O : List Nat) (q : Nat → Value) : AtV Tryz.prog 21 (PostR [⟨Ty.int IntKind.i64, g21_0 x0⟩] [] [] q w0 O) 5 w0 O q [] [.code b21] (entE 0 0 sig21 (x0, ())) (entL sig21 (x0, ())) := by
  unfold P21 at h
  unfold g21_0
  exact AtV.fin Tryz.func21 tabOk ext21Ok mixed (p21_0 x0) trivial

def S21 : Am.Spec := { sig := sig21, pre := fun ⟨x0, _⟩ => P21 x0, res := fun ⟨x0, _⟩ => [⟨Ty.int IntKind.i64, g21_0 x0⟩] }
theorem con21 : Contract Tryz.prog 21 S21 := contract_of Tryz.func21 hb21 (Nat.le_of_ble_eq_true (by kernel_rfl)) (fun ⟨x0, _⟩ h _ w0 O q => at21 x0 h w0 O q)


end Go.Proofs.YtcppjmlhilklcaaGreatDoor

/- Function 5 (impl.LoadBlocks): its runs between cut points. Written by a program of this repo (gen). -/
set_option linter.unusedVariables false
set_option linter.unusedSimpArgs false
set_option maxRecDepth 100000
namespace Go.Proofs.YtcppjmlhilklcaaGreatDoor
open Go Go.Am Go.Proofs
def ext5 : Ext := [(13, S13), (14, S14), (16, S16), (15, S15), (17, S17), (18, S18), (19, S19), (20, S20), (21, S21)]
theorem call5_13 : Callable Tryz.prog 13 := ⟨Tryz.f13, Tryz.func13, by kernel_rfl, by kernel_rfl⟩
theorem call5_14 : Callable Tryz.prog 14 := ⟨Tryz.f14, Tryz.func14, by kernel_rfl, by kernel_rfl⟩
theorem call5_16 : Callable Tryz.prog 16 := ⟨Tryz.f16, Tryz.func16, by kernel_rfl, by kernel_rfl⟩
theorem call5_15 : Callable Tryz.prog 15 := ⟨Tryz.f15, Tryz.func15, by kernel_rfl, by kernel_rfl⟩
theorem call5_17 : Callable Tryz.prog 17 := ⟨Tryz.f17, Tryz.func17, by kernel_rfl, by kernel_rfl⟩
theorem call5_18 : Callable Tryz.prog 18 := ⟨Tryz.f18, Tryz.func18, by kernel_rfl, by kernel_rfl⟩
theorem call5_19 : Callable Tryz.prog 19 := ⟨Tryz.f19, Tryz.func19, by kernel_rfl, by kernel_rfl⟩
theorem call5_20 : Callable Tryz.prog 20 := ⟨Tryz.f20, Tryz.func20, by kernel_rfl, by kernel_rfl⟩
theorem call5_21 : Callable Tryz.prog 21 := ⟨Tryz.f21, Tryz.func21, by kernel_rfl, by kernel_rfl⟩
theorem ext5Ok : ExtOk Tryz.prog ext5 := ⟨⟨call5_13, con13⟩, ⟨call5_14, con14⟩, ⟨call5_16, con16⟩, ⟨call5_15, con15⟩, ⟨call5_17, con17⟩, ⟨call5_18, con18⟩, ⟨call5_19, con19⟩, ⟨call5_20, con20⟩, ⟨call5_21, con21⟩, trivial⟩
/-! Function 5. -/
noncomputable def b5 : Code := bodyOf Tryz.f5
theorem hb5 : Tryz.f5.body = some b5 := by kernel_rfl
def sig5 : List AT := [AT.v (Ty.str)]
def tys5 : List Ty := [Ty.sl (Ty.cons Ty.str (Ty.cons Ty.str (Ty.cons Ty.str Ty.unit))), Ty.int IntKind.i64, Ty.int IntKind.i64]
def E5_9 (v45 : Int) (h0 : List (ByteArray × ByteArray × ByteArray × Unit)) (x0 : ByteArray) : Env := [(6, PV.a (Atom.val (Value.int IntKind.i64 (g15_0 (g16_0 (List.getD (g14_0 x0) 0 ByteArray.empty) (ByteArray.mk #[97, 114, 99, 104, 105, 118, 101, 32])))))), (8, PV.a (Atom.osl 0 Option.none)), (43, PV.a (Atom.osl 1 (Option.some (1, 0 + Int.toNat (↑(List.length (g14_0 x0) - 0) : Int))))), (44, PV.a (Atom.val (Value.int IntKind.i64 (↑(0 + Int.toNat (↑(List.length (g14_0 x0) - 0) : Int) - 1) : Int)))), (45, PV.a (Atom.val (Value.int IntKind.i64 v45)))]
def L5_9 (v45 : Int) (h0 : List (ByteArray × ByteArray × ByteArray × Unit)) (x0 : ByteArray) : Heap := [Option.some (Arr.mk (Ty.cons Ty.str (Ty.cons Ty.str (Ty.cons Ty.str Ty.unit))) h0 Bool.false), Option.some (Arr.mk Ty.str (g14_0 x0) Bool.false)]
mutual
def R5 : Nat → ByteArray → List Dyn → Prop
  | 0, _, _ => False
  | n + 1, x0, ds => ((P13 x0 (ByteArray.mk #[10])) ∧ (if (!g13_0 x0 (ByteArray.mk #[10])) = true then (ds = [Dyn.mk (Ty.sl (Ty.cons Ty.str (Ty.cons Ty.str (Ty.cons Ty.str Ty.unit)))) [], Dyn.mk (Ty.int IntKind.i64) 0, Dyn.mk (Ty.int IntKind.i64) 11]) else ((P14 x0) ∧ ((0 < (↑(List.length (g14_0 x0)) : Int)) ∧ ((P15 (g16_0 (List.getD (g14_0 x0) 0 ByteArray.empty) (ByteArray.mk #[97, 114, 99, 104, 105, 118, 101, 32]))) ∧ (if (!g15_1 (g16_0 (List.getD (g14_0 x0) 0 ByteArray.empty) (ByteArray.mk #[97, 114, 99, 104, 105, 118, 101, 32]))) = true then (ds = [Dyn.mk (Ty.sl (Ty.cons Ty.str (Ty.cons Ty.str (Ty.cons Ty.str Ty.unit)))) [], Dyn.mk (Ty.int IntKind.i64) 1, Dyn.mk (Ty.int IntKind.i64) 9]) else (if (!g17_0 (g15_0 (g16_0 (List.getD (g14_0 x0) 0 ByteArray.empty) (ByteArray.mk #[97, 114, 99, 104, 105, 118, 101, 32]))) 0 32) = true then (ds = [Dyn.mk (Ty.sl (Ty.cons Ty.str (Ty.cons Ty.str (Ty.cons Ty.str Ty.unit)))) [], Dyn.mk (Ty.int IntKind.i64) 1, Dyn.mk (Ty.int IntKind.i64) 9]) else ((0 < (↑(List.length (g14_0 x0)) : Int)) ∧ ((P18 (g15_0 (g16_0 (List.getD (g14_0 x0) 0 ByteArray.empty) (ByteArray.mk #[97, 114, 99, 104, 105, 118, 101, 32])))) ∧ ((8 + ByteArray.size (g18_0 (g15_0 (g16_0 (List.getD (g14_0 x0) 0 ByteArray.empty) (ByteArray.mk #[97, 114, 99, 104, 105, 118, 101, 32])))) ≤ 9223372036854775807) ∧ (if (!ByteArray.toList (List.getD (g14_0 x0) 0 ByteArray.empty) == ByteArray.toList (ByteArray.mk #[97, 114, 99, 104, 105, 118, 101, 32] ++ g18_0 (g15_0 (g16_0 (List.getD (g14_0 x0) 0 ByteArray.empty) (ByteArray.mk #[97, 114, 99, 104, 105, 118, 101, 32]))))) = true then (ds = [Dyn.mk (Ty.sl (Ty.cons Ty.str (Ty.cons Ty.str (Ty.cons Ty.str Ty.unit)))) [], Dyn.mk (Ty.int IntKind.i64) 1, Dyn.mk (Ty.int IntKind.i64) 9]) else ((1 ≤ (↑(List.length (g14_0 x0) - 0) : Int)) ∧ (R5_9 n (0) ([]) (x0) ds)))))))))))))
def R5_9 : Nat → Int → List (ByteArray × ByteArray × ByteArray × Unit) → ByteArray → List Dyn → Prop
  | 0, _, _, _, _ => False
  | n + 1, v45, h0, x0, ds => (if (Decidable.decide (v45 < (↑(0 + Int.toNat (↑(List.length (g14_0 x0) - 0) : Int) - 1) : Int))) = true then ((0 ≤ v45) ∧ (v45 < (↑(0 + Int.toNat (↑(List.length (g14_0 x0) - 0) : Int) - 1) : Int)) ∧ ((P19 (List.getD (g14_0 x0) (1 + Int.toNat v45) ByteArray.empty)) ∧ (if (g19_1 (List.getD (g14_0 x0) (1 + Int.toNat v45) ByteArray.empty) == 0) = true then (if (Decidable.decide (v45 > 0)) = true then ((InR IntKind.i64 (v45 - 1)) ∧ ((0 ≤ v45 - 1) ∧ (v45 - 1 < (↑(List.length h0) : Int)) ∧ (if (Decidable.decide (g20_0 (List.getD h0 (Int.toNat (v45 - 1)) (ByteArray.empty, ByteArray.empty, ByteArray.empty, ())) (g19_0 (List.getD (g14_0 x0) (1 + Int.toNat v45) ByteArray.empty)) ≥ 0)) = true then ((InR IntKind.i64 (v45 + 2)) ∧ (ds = [Dyn.mk (Ty.sl (Ty.cons Ty.str (Ty.cons Ty.str (Ty.cons Ty.str Ty.unit)))) [], Dyn.mk (Ty.int IntKind.i64) (v45 + 2), Dyn.mk (Ty.int IntKind.i64) 7])) else (if (g19_1 (List.getD (g14_0 x0) (1 + Int.toNat v45) ByteArray.empty) != 0) = true then ((InR IntKind.i64 (v45 + 2)) ∧ (ds = [Dyn.mk (Ty.sl (Ty.cons Ty.str (Ty.cons Ty.str (Ty.cons Ty.str Ty.unit)))) [], Dyn.mk (Ty.int IntKind.i64) (v45 + 2), Dyn.mk (Ty.int IntKind.i64) (g19_1 (List.getD (g14_0 x0) (1 + Int.toNat v45) ByteArray.empty))])) else (((List.length h0 + 1) * 48 ≤ 140737488355328) ∧ ((InR IntKind.i64 (v45 + 1)) ∧ (R5_9 n (v45 + 1) (h0 ++ [g19_0 (List.getD (g14_0 x0) (1 + Int.toNat v45) ByteArray.empty)]) (x0) ds))))))) else (if (g19_1 (List.getD (g14_0 x0) (1 + Int.toNat v45) ByteArray.empty) != 0) = true then ((InR IntKind.i64 (v45 + 2)) ∧ (ds = [Dyn.mk (Ty.sl (Ty.cons Ty.str (Ty.cons Ty.str (Ty.cons Ty.str Ty.unit)))) [], Dyn.mk (Ty.int IntKind.i64) (v45 + 2), Dyn.mk (Ty.int IntKind.i64) (g19_1 (List.getD (g14_0 x0) (1 + Int.toNat v45) ByteArray.empty))])) else (((List.length h0 + 1) * 48 ≤ 140737488355328) ∧ ((InR IntKind.i64 (v45 + 1)) ∧ (R5_9 n (v45 + 1) (h0 ++ [g19_0 (List.getD (g14_0 x0) (1 + Int.toNat v45) ByteArray.empty)]) (x0) ds))))) else (if (g19_1 (List.getD (g14_0 x0) (1 + Int.toNat v45) ByteArray.empty) != 0) = true then ((InR IntKind.i64 (v45 + 2)) ∧ (ds = [Dyn.mk (Ty.sl (Ty.cons Ty.str (Ty.cons Ty.str (Ty.cons Ty.str Ty.unit)))) [], Dyn.mk (Ty.int IntKind.i64) (v45 + 2), Dyn.mk (Ty.int IntKind.i64) (g19_1 (List.getD (g14_0 x0) (1 + Int.toNat v45) ByteArray.empty))])) else (((List.length h0 + 1) * 48 ≤ 140737488355328) ∧ ((InR IntKind.i64 (v45 + 1)) ∧ (R5_9 n (v45 + 1) (h0 ++ [g19_0 (List.getD (g14_0 x0) (1 + Int.toNat v45) ByteArray.empty)]) (x0) ds))))))) else (if (g21_0 h0 != g15_0 (g16_0 (List.getD (g14_0 x0) 0 ByteArray.empty) (ByteArray.mk #[97, 114, 99, 104, 105, 118, 101, 32]))) = true then (ds = [Dyn.mk (Ty.sl (Ty.cons Ty.str (Ty.cons Ty.str (Ty.cons Ty.str Ty.unit)))) [], Dyn.mk (Ty.int IntKind.i64) 0, Dyn.mk (Ty.int IntKind.i64) 11]) else (ds = [Dyn.mk (Ty.sl (Ty.cons Ty.str (Ty.cons Ty.str (Ty.cons Ty.str Ty.unit)))) h0, Dyn.mk (Ty.int IntKind.i64) 0, Dyn.mk (Ty.int IntKind.i64) 0])))
end
theorem p5_0 (x0 : ByteArray) : runF tab ext5 false 86 [] 2000 [] tys5 Tryz.f5.results [true] [.code b5] (entE 0 0 sig5 (x0, ())) (entL sig5 (x0, ())) = some ([Dyn.mk (Ty.sl (Ty.cons Ty.str (Ty.cons Ty.str (Ty.cons Ty.str Ty.unit)))) [], Dyn.mk (Ty.int IntKind.i64) 0, Dyn.mk (Ty.int IntKind.i64) 11], [], [P13 x0 (ByteArray.mk #[10]), (!g13_0 x0 (ByteArray.mk #[10])) = Bool.true]) := by kernel_rfl
theorem p5_1 (x0 : ByteArray) : runF tab ext5 false 86 [] 2000 [] tys5 Tryz.f5.results [false, true, true, true] [.code b5] (entE 0 0 sig5 (x0, ())) (entL sig5 (x0, ())) = some ([Dyn.mk (Ty.sl (Ty.cons Ty.str (Ty.cons Ty.str (Ty.cons Ty.str Ty.unit)))) [], Dyn.mk (Ty.int IntKind.i64) 1, Dyn.mk (Ty.int IntKind.i64) 9], [], [P13 x0 (ByteArray.mk #[10]), (!g13_0 x0 (ByteArray.mk #[10])) = Bool.false, P14 x0, (0 : Int) ≤ (0 : Int), 0 < (↑(List.length (g14_0 x0)) : Int), True, P15 (g16_0 (List.getD (g14_0 x0) 0 ByteArray.empty) (ByteArray.mk #[97, 114, 99, 104, 105, 118, 101, 32])), (!g15_1 (g16_0 (List.getD (g14_0 x0) 0 ByteArray.empty) (ByteArray.mk #[97, 114, 99, 104, 105, 118, 101, 32]))) = Bool.true, Bool.true = Bool.true, Bool.true = Bool.true]) := by kernel_rfl
theorem p5_2 (x0 : ByteArray) : runF tab ext5 false 86 [] 2000 [] tys5 Tryz.f5.results [false, false, true, true] [.code b5] (entE 0 0 sig5 (x0, ())) (entL sig5 (x0, ())) = some ([Dyn.mk (Ty.sl (Ty.cons Ty.str (Ty.cons Ty.str (Ty.cons Ty.str Ty.unit)))) [], Dyn.mk (Ty.int IntKind.i64) 1, Dyn.mk (Ty.int IntKind.i64) 9], [], [P13 x0 (ByteArray.mk #[10]), (!g13_0 x0 (ByteArray.mk #[10])) = Bool.false, P14 x0, (0 : Int) ≤ (0 : Int), 0 < (↑(List.length (g14_0 x0)) : Int), True, P15 (g16_0 (List.getD (g14_0 x0) 0 ByteArray.empty) (ByteArray.mk #[97, 114, 99, 104, 105, 118, 101, 32])), (!g15_1 (g16_0 (List.getD (g14_0 x0) 0 ByteArray.empty) (ByteArray.mk #[97, 114, 99, 104, 105, 118, 101, 32]))) = Bool.false, True, (!g17_0 (g15_0 (g16_0 (List.getD (g14_0 x0) 0 ByteArray.empty) (ByteArray.mk #[97, 114, 99, 104, 105, 118, 101, 32]))) 0 32) = Bool.true, Bool.true = Bool.true]) := by kernel_rfl
theorem p5_3 (x0 : ByteArray) : runF tab ext5 false 86 [] 2000 [] tys5 Tryz.f5.results [false, false, false, true] [.code b5] (entE 0 0 sig5 (x0, ())) (entL sig5 (x0, ())) = some ([Dyn.mk (Ty.sl (Ty.cons Ty.str (Ty.cons Ty.str (Ty.cons Ty.str Ty.unit)))) [], Dyn.mk (Ty.int IntKind.i64) 1, Dyn.mk (Ty.int IntKind.i64) 9], [], [P13 x0 (ByteArray.mk #[10]), (!g13_0 x0 (ByteArray.mk #[10])) = Bool.false, P14 x0, (0 : Int) ≤ (0 : Int), 0 < (↑(List.length (g14_0 x0)) : Int), True, P15 (g16_0 (List.getD (g14_0 x0) 0 ByteArray.empty) (ByteArray.mk #[97, 114, 99, 104, 105, 118, 101, 32])), (!g15_1 (g16_0 (List.getD (g14_0 x0) 0 ByteArray.empty) (ByteArray.mk #[97, 114, 99, 104, 105, 118, 101, 32]))) = Bool.false, True, (!g17_0 (g15_0 (g16_0 (List.getD (g14_0 x0) 0 ByteArray.empty) (ByteArray.mk #[97, 114, 99, 104, 105, 118, 101, 32]))) 0 32) = Bool.false, (0 : Int) ≤ (0 : Int), 0 < (↑(List.length (g14_0 x0)) : Int), P18 (g15_0 (g16_0 (List.getD (g14_0 x0) 0 ByteArray.empty) (ByteArray.mk #[97, 114, 99, 104, 105, 118, 101, 32]))), 8 + ByteArray.size (g18_0 (g15_0 (g16_0 (List.getD (g14_0 x0) 0 ByteArray.empty) (ByteArray.mk #[97, 114, 99, 104, 105, 118, 101, 32])))) ≤ 9223372036854775807, (!ByteArray.toList (List.getD (g14_0 x0) 0 ByteArray.empty) == ByteArray.toList (ByteArray.mk #[97, 114, 99, 104, 105, 118, 101, 32] ++ g18_0 (g15_0 (g16_0 (List.getD (g14_0 x0) 0 ByteArray.empty) (ByteArray.mk #[97, 114, 99, 104, 105, 118, 101, 32]))))) = Bool.true]) := by kernel_rfl
theorem p5_4 (x0 : ByteArray) : Am.runN tab ext5 false 86 [] 2000 [] [(8, Ty.cons Ty.str (Ty.cons Ty.str (Ty.cons Ty.str Ty.unit)))] [6, 8, 43, 44, 45] [1, 0] [false, false, false, false] [.code b5] (entE 0 0 sig5 (x0, ())) (entL sig5 (x0, ())) = some (cutAt b5 9, E5_9 (0) ([]) (x0), L5_9 (0) ([]) (x0), [P13 x0 (ByteArray.mk #[10]), (!g13_0 x0 (ByteArray.mk #[10])) = Bool.false, P14 x0, (0 : Int) ≤ (0 : Int), 0 < (↑(List.length (g14_0 x0)) : Int), True, P15 (g16_0 (List.getD (g14_0 x0) 0 ByteArray.empty) (ByteArray.mk #[97, 114, 99, 104, 105, 118, 101, 32])), (!g15_1 (g16_0 (List.getD (g14_0 x0) 0 ByteArray.empty) (ByteArray.mk #[97, 114, 99, 104, 105, 118, 101, 32]))) = Bool.false, True, (!g17_0 (g15_0 (g16_0 (List.getD (g14_0 x0) 0 ByteArray.empty) (ByteArray.mk #[97, 114, 99, 104, 105, 118, 101, 32]))) 0 32) = Bool.false, (0 : Int) ≤ (0 : Int), 0 < (↑(List.length (g14_0 x0)) : Int), P18 (g15_0 (g16_0 (List.getD (g14_0 x0) 0 ByteArray.empty) (ByteArray.mk #[97, 114, 99, 104, 105, 118, 101, 32]))), 8 + ByteArray.size (g18_0 (g15_0 (g16_0 (List.getD (g14_0 x0) 0 ByteArray.empty) (ByteArray.mk #[97, 114, 99, 104, 105, 118, 101, 32])))) ≤ 9223372036854775807, (!ByteArray.toList (List.getD (g14_0 x0) 0 ByteArray.empty) == ByteArray.toList (ByteArray.mk #[97, 114, 99, 104, 105, 118, 101, 32] ++ g18_0 (g15_0 (g16_0 (List.getD (g14_0 x0) 0 ByteArray.empty) (ByteArray.mk #[97, 114, 99, 104, 105, 118, 101, 32]))))) = Bool.false, (0 : Int) ≤ (1 : Int), 1 ≤ (↑(List.length (g14_0 x0) - 0) : Int)]) := by kernel_rfl
theorem p5_5 (v45 : Int) (h0 : List (ByteArray × ByteArray × ByteArray × Unit)) (x0 : ByteArray) : runF tab ext5 false 86 [] 2000 [] tys5 Tryz.f5.results [true, true, true, true, true] (cutAt b5 9) (E5_9 v45 h0 x0) (L5_9 v45 h0 x0) = some ([Dyn.mk (Ty.sl (Ty.cons Ty.str (Ty.cons Ty.str (Ty.cons Ty.str Ty.unit)))) [], Dyn.mk (Ty.int IntKind.i64) (v45 + 2), Dyn.mk (Ty.int IntKind.i64) 7], [], [Decidable.decide (v45 < (↑(0 + Int.toNat (↑(List.length (g14_0 x0) - 0) : Int) - 1) : Int)) = Bool.true, 0 ≤ v45, v45 < (↑(0 + Int.toNat (↑(List.length (g14_0 x0) - 0) : Int) - 1) : Int), P19 (List.getD (g14_0 x0) (1 + Int.toNat v45) ByteArray.empty), (g19_1 (List.getD (g14_0 x0) (1 + Int.toNat v45) ByteArray.empty) == 0) = Bool.true, Decidable.decide (v45 > 0) = Bool.true, InR IntKind.i64 (v45 - 1), 0 ≤ v45 - 1, v45 - 1 < (↑(List.length h0) : Int), True, Decidable.decide (g20_0 (List.getD h0 (Int.toNat (v45 - 1)) (ByteArray.empty, ByteArray.empty, ByteArray.empty, ())) (g19_0 (List.getD (g14_0 x0) (1 + Int.toNat v45) ByteArray.empty)) ≥ 0) = Bool.true, Bool.true = Bool.true, InR IntKind.i64 (v45 + 2)]) := by kernel_rfl
theorem p5_6 (v45 : Int) (h0 : List (ByteArray × ByteArray × ByteArray × Unit)) (x0 : ByteArray) : runF tab ext5 false 86 [] 2000 [] tys5 Tryz.f5.results [true, true, true, false, true] (cutAt b5 9) (E5_9 v45 h0 x0) (L5_9 v45 h0 x0) = some ([Dyn.mk (Ty.sl (Ty.cons Ty.str (Ty.cons Ty.str (Ty.cons Ty.str Ty.unit)))) [], Dyn.mk (Ty.int IntKind.i64) (v45 + 2), Dyn.mk (Ty.int IntKind.i64) (g19_1 (List.getD (g14_0 x0) (1 + Int.toNat v45) ByteArray.empty))], [], [Decidable.decide (v45 < (↑(0 + Int.toNat (↑(List.length (g14_0 x0) - 0) : Int) - 1) : Int)) = Bool.true, 0 ≤ v45, v45 < (↑(0 + Int.toNat (↑(List.length (g14_0 x0) - 0) : Int) - 1) : Int), P19 (List.getD (g14_0 x0) (1 + Int.toNat v45) ByteArray.empty), (g19_1 (List.getD (g14_0 x0) (1 + Int.toNat v45) ByteArray.empty) == 0) = Bool.true, Decidable.decide (v45 > 0) = Bool.true, InR IntKind.i64 (v45 - 1), 0 ≤ v45 - 1, v45 - 1 < (↑(List.length h0) : Int), True, Decidable.decide (g20_0 (List.getD h0 (Int.toNat (v45 - 1)) (ByteArray.empty, ByteArray.empty, ByteArray.empty, ())) (g19_0 (List.getD (g14_0 x0) (1 + Int.toNat v45) ByteArray.empty)) ≥ 0) = Bool.false, (g19_1 (List.getD (g14_0 x0) (1 + Int.toNat v45) ByteArray.empty) != 0) = Bool.true, InR IntKind.i64 (v45 + 2)]) := by kernel_rfl
theorem p5_7 (v45 : Int) (h0 : List (ByteArray × ByteArray × ByteArray × Unit)) (x0 : ByteArray) : Am.runN tab ext5 false 86 [] 2000 [] [(8, Ty.cons Ty.str (Ty.cons Ty.str (Ty.cons Ty.str Ty.unit)))] [6, 8, 43, 44, 45] [0, 1] [true, true, true, false, false] (cutAt b5 9) (E5_9 v45 h0 x0) (L5_9 v45 h0 x0) = some (cutAt b5 9, E5_9 (v45 + 1) (h0 ++ [g19_0 (List.getD (g14_0 x0) (1 + Int.toNat v45) ByteArray.empty)]) (x0), L5_9 (v45 + 1) (h0 ++ [g19_0 (List.getD (g14_0 x0) (1 + Int.toNat v45) ByteArray.empty)]) (x0), [Decidable.decide (v45 < (↑(0 + Int.toNat (↑(List.length (g14_0 x0) - 0) : Int) - 1) : Int)) = Bool.true, 0 ≤ v45, v45 < (↑(0 + Int.toNat (↑(List.length (g14_0 x0) - 0) : Int) - 1) : Int), P19 (List.getD (g14_0 x0) (1 + Int.toNat v45) ByteArray.empty), (g19_1 (List.getD (g14_0 x0) (1 + Int.toNat v45) ByteArray.empty) == 0) = Bool.true, Decidable.decide (v45 > 0) = Bool.true, InR IntKind.i64 (v45 - 1), 0 ≤ v45 - 1, v45 - 1 < (↑(List.length h0) : Int), True, Decidable.decide (g20_0 (List.getD h0 (Int.toNat (v45 - 1)) (ByteArray.empty, ByteArray.empty, ByteArray.empty, ())) (g19_0 (List.getD (g14_0 x0) (1 + Int.toNat v45) ByteArray.empty)) ≥ 0) = Bool.false, (g19_1 (List.getD (g14_0 x0) (1 + Int.toNat v45) ByteArray.empty) != 0) = Bool.false, (List.length h0 + 1) * 48 ≤ 140737488355328, InR IntKind.i64 (v45 + 1)]) := by kernel_rfl
theorem p5_8 (v45 : Int) (h0 : List (ByteArray × ByteArray × ByteArray × Unit)) (x0 : ByteArray) : runF tab ext5 false 86 [] 2000 [] tys5 Tryz.f5.results [true, true, false, false, true] (cutAt b5 9) (E5_9 v45 h0 x0) (L5_9 v45 h0 x0) = some ([Dyn.mk (Ty.sl (Ty.cons Ty.str (Ty.cons Ty.str (Ty.cons Ty.str Ty.unit)))) [], Dyn.mk (Ty.int IntKind.i64) (v45 + 2), Dyn.mk (Ty.int IntKind.i64) (g19_1 (List.getD (g14_0 x0) (1 + Int.toNat v45) ByteArray.empty))], [], [Decidable.decide (v45 < (↑(0 + Int.toNat (↑(List.length (g14_0 x0) - 0) : Int) - 1) : Int)) = Bool.true, 0 ≤ v45, v45 < (↑(0 + Int.toNat (↑(List.length (g14_0 x0) - 0) : Int) - 1) : Int), P19 (List.getD (g14_0 x0) (1 + Int.toNat v45) ByteArray.empty), (g19_1 (List.getD (g14_0 x0) (1 + Int.toNat v45) ByteArray.empty) == 0) = Bool.true, Decidable.decide (v45 > 0) = Bool.false, Bool.false = Bool.false, (g19_1 (List.getD (g14_0 x0) (1 + Int.toNat v45) ByteArray.empty) != 0) = Bool.true, InR IntKind.i64 (v45 + 2)]) := by kernel_rfl
theorem p5_9 (v45 : Int) (h0 : List (ByteArray × ByteArray × ByteArray × Unit)) (x0 : ByteArray) : Am.runN tab ext5 false 86 [] 2000 [] [(8, Ty.cons Ty.str (Ty.cons Ty.str (Ty.cons Ty.str Ty.unit)))] [6, 8, 43, 44, 45] [0, 1] [true, true, false, false, false] (cutAt b5 9) (E5_9 v45 h0 x0) (L5_9 v45 h0 x0) = some (cutAt b5 9, E5_9 (v45 + 1) (h0 ++ [g19_0 (List.getD (g14_0 x0) (1 + Int.toNat v45) ByteArray.empty)]) (x0), L5_9 (v45 + 1) (h0 ++ [g19_0 (List.getD (g14_0 x0) (1 + Int.toNat v45) ByteArray.empty)]) (x0), [Decidable.decide (v45 < (↑(0 + Int.toNat (↑(List.length (g14_0 x0) - 0) : Int) - 1) : Int)) = Bool.true, 0 ≤ v45, v45 < (↑(0 + Int.toNat (↑(List.length (g14_0 x0) - 0) : Int) - 1) : Int), P19 (List.getD (g14_0 x0) (1 + Int.toNat v45) ByteArray.empty), (g19_1 (List.getD (g14_0 x0) (1 + Int.toNat v45) ByteArray.empty) == 0) = Bool.true, Decidable.decide (v45 > 0) = Bool.false, Bool.false = Bool.false, (g19_1 (List.getD (g14_0 x0) (1 + Int.toNat v45) ByteArray.empty) != 0) = Bool.false, (List.length h0 + 1) * 48 ≤ 140737488355328, InR IntKind.i64 (v45 + 1)]) := by kernel_rfl
theorem p5_10 (v45 : Int) (h0 : List (ByteArray × ByteArray × ByteArray × Unit)) (x0 : ByteArray) : runF tab ext5 false 86 [] 2000 [] tys5 Tryz.f5.results [true, false, false, false, true] (cutAt b5 9) (E5_9 v45 h0 x0) (L5_9 v45 h0 x0) = some ([Dyn.mk (Ty.sl (Ty.cons Ty.str (Ty.cons Ty.str (Ty.cons Ty.str Ty.unit)))) [], Dyn.mk (Ty.int IntKind.i64) (v45 + 2), Dyn.mk (Ty.int IntKind.i64) (g19_1 (List.getD (g14_0 x0) (1 + Int.toNat v45) ByteArray.empty))], [], [Decidable.decide (v45 < (↑(0 + Int.toNat (↑(List.length (g14_0 x0) - 0) : Int) - 1) : Int)) = Bool.true, 0 ≤ v45, v45 < (↑(0 + Int.toNat (↑(List.length (g14_0 x0) - 0) : Int) - 1) : Int), P19 (List.getD (g14_0 x0) (1 + Int.toNat v45) ByteArray.empty), (g19_1 (List.getD (g14_0 x0) (1 + Int.toNat v45) ByteArray.empty) == 0) = Bool.false, Bool.false = Bool.false, Bool.false = Bool.false, (g19_1 (List.getD (g14_0 x0) (1 + Int.toNat v45) ByteArray.empty) != 0) = Bool.true, InR IntKind.i64 (v45 + 2)]) := by kernel_rfl
theorem p5_11 (v45 : Int) (h0 : List (ByteArray × ByteArray × ByteArray × Unit)) (x0 : ByteArray) : Am.runN tab ext5 false 86 [] 2000 [] [(8, Ty.cons Ty.str (Ty.cons Ty.str (Ty.cons Ty.str Ty.unit)))] [6, 8, 43, 44, 45] [0, 1] [true, false, false, false, false] (cutAt b5 9) (E5_9 v45 h0 x0) (L5_9 v45 h0 x0) = some (cutAt b5 9, E5_9 (v45 + 1) (h0 ++ [g19_0 (List.getD (g14_0 x0) (1 + Int.toNat v45) ByteArray.empty)]) (x0), L5_9 (v45 + 1) (h0 ++ [g19_0 (List.getD (g14_0 x0) (1 + Int.toNat v45) ByteArray.empty)]) (x0), [Decidable.decide (v45 < (↑(0 + Int.toNat (↑(List.length (g14_0 x0) - 0) : Int) - 1) : Int)) = Bool.true, 0 ≤ v45, v45 < (↑(0 + Int.toNat (↑(List.length (g14_0 x0) - 0) : Int) - 1) : Int), P19 (List.getD (g14_0 x0) (1 + Int.toNat v45) ByteArray.empty), (g19_1 (List.getD (g14_0 x0) (1 + Int.toNat v45) ByteArray.empty) == 0) = Bool.false, Bool.false = Bool.false, Bool.false = Bool.false, (g19_1 (List.getD (g14_0 x0) (1 + Int.toNat v45) ByteArray.empty) != 0) = Bool.false, (List.length h0 + 1) * 48 ≤ 140737488355328, InR IntKind.i64 (v45 + 1)]) := by kernel_rfl
theorem p5_12 (v45 : Int) (h0 : List (ByteArray × ByteArray × ByteArray × Unit)) (x0 : ByteArray) : runF tab ext5 false 86 [] 2000 [] tys5 Tryz.f5.results [false, true] (cutAt b5 9) (E5_9 v45 h0 x0) (L5_9 v45 h0 x0) = some ([Dyn.mk (Ty.sl (Ty.cons Ty.str (Ty.cons Ty.str (Ty.cons Ty.str Ty.unit)))) [], Dyn.mk (Ty.int IntKind.i64) 0, Dyn.mk (Ty.int IntKind.i64) 11], [], [Decidable.decide (v45 < (↑(0 + Int.toNat (↑(List.length (g14_0 x0) - 0) : Int) - 1) : Int)) = Bool.false, True, (g21_0 h0 != g15_0 (g16_0 (List.getD (g14_0 x0) 0 ByteArray.empty) (ByteArray.mk #[97, 114, 99, 104, 105, 118, 101, 32]))) = Bool.true]) := by kernel_rfl
theorem p5_13 (v45 : Int) (h0 : List (ByteArray × ByteArray × ByteArray × Unit)) (x0 : ByteArray) : runF tab ext5 false 86 [] 2000 [] tys5 Tryz.f5.results [false, false] (cutAt b5 9) (E5_9 v45 h0 x0) (L5_9 v45 h0 x0) = some ([Dyn.mk (Ty.sl (Ty.cons Ty.str (Ty.cons Ty.str (Ty.cons Ty.str Ty.unit)))) h0, Dyn.mk (Ty.int IntKind.i64) 0, Dyn.mk (Ty.int IntKind.i64) 0], [], [Decidable.decide (v45 < (↑(0 + Int.toNat (↑(List.length (g14_0 x0) - 0) : Int) - 1) : Int)) = Bool.false, True, (g21_0 h0 != g15_0 (g16_0 (List.getD (g14_0 x0) 0 ByteArray.empty) (ByteArray.mk #[97, 114, 99, 104, 105, 118, 101, 32]))) = Bool.false]) := by kernel_rfl
theorem snd5 : ∀ n, (∀ (x0 : ByteArray) ds, R5 n x0 ds → ∀ w0 O q, AtV Tryz.prog 5 (PostR ds [] [] q w0 O) 86 w0 O q [] [.code b5] (entE 0 0 sig5 (x0, ())) (entL sig5 (x0, ()))) ∧ (∀ (v45 : Int) (h0 : List (ByteArray × ByteArray × ByteArray × Unit)) (x0 : ByteArray) ds, R5_9 n v45 h0 x0 ds → ∀ w0 O q, AtV Tryz.prog 5 (PostR ds [] [] q w0 O) 86 w0 O q [] (cutAt b5 9) (E5_9 v45 h0 x0) (L5_9 v45 h0 x0)) := by
  intro n
  induction n with
  | zero => exact ⟨fun _ _ h => by simp only [R5] at h, fun _ _ _ _ h => by simp only [R5_9] at h⟩
  | succ n ih =>
  obtain ⟨ih, ih9⟩ := ih
  refine ⟨?_, ?_⟩
  · intro x0 ds h w0 O q
    rw [R5] at h
    obtain ⟨s0, h⟩ := h
    by_cases b0 : (!g13_0 x0 (ByteArray.mk #[10])) = true
    · rw [if_pos b0] at h
      subst h
      exact AtV.fin Tryz.func5 tabOk ext5Ok mixed (p5_0 x0) ⟨s0, b0, trivial⟩
    · rw [if_neg b0] at h
      replace b0 := Bool.eq_false_iff.2 b0
      obtain ⟨s1, h⟩ := h
      obtain ⟨s2, h⟩ := h
      obtain ⟨s3, h⟩ := h
      by_cases b1 : (!g15_1 (g16_0 (List.getD (g14_0 x0) 0 ByteArray.empty) (ByteArray.mk #[97, 114, 99, 104, 105, 118, 101, 32]))) = true
      · rw [if_pos b1] at h
        subst h
        exact AtV.fin Tryz.func5 tabOk ext5Ok mixed (p5_1 x0) ⟨s0, b0, s1, (by decide), s2, trivial, s3, b1, rfl, rfl, trivial⟩
      · rw [if_neg b1] at h
        replace b1 := Bool.eq_false_iff.2 b1
        by_cases b2 : (!g17_0 (g15_0 (g16_0 (List.getD (g14_0 x0) 0 ByteArray.empty) (ByteArray.mk #[97, 114, 99, 104, 105, 118, 101, 32]))) 0 32) = true
        · rw [if_pos b2] at h
          subst h
          exact AtV.fin Tryz.func5 tabOk ext5Ok mixed (p5_2 x0) ⟨s0, b0, s1, (by decide), s2, trivial, s3, b1, trivial, b2, rfl, trivial⟩
        · rw [if_neg b2] at h
          replace b2 := Bool.eq_false_iff.2 b2
          obtain ⟨s4, h⟩ := h
          obtain ⟨s5, h⟩ := h
          obtain ⟨s6, h⟩ := h
          by_cases b3 : (!ByteArray.toList (List.getD (g14_0 x0) 0 ByteArray.empty) == ByteArray.toList (ByteArray.mk #[97, 114, 99, 104, 105, 118, 101, 32] ++ g18_0 (g15_0 (g16_0 (List.getD (g14_0 x0) 0 ByteArray.empty) (ByteArray.mk #[97, 114, 99, 104, 105, 118, 101, 32]))))) = true
          · rw [if_pos b3] at h
            subst h
            exact AtV.fin Tryz.func5 tabOk ext5Ok mixed (p5_3 x0) ⟨s0, b0, s1, (by decide), s2, trivial, s3, b1, trivial, b2, (by decide), s4, s5, s6, b3, trivial⟩
          · rw [if_neg b3] at h
            replace b3 := Bool.eq_false_iff.2 b3
            obtain ⟨s7, h⟩ := h
            exact AtV.runN tabOk ext5Ok mixed (p5_4 x0) ⟨s0, b0, s1, (by decide), s2, trivial, s3, b1, trivial, b2, (by decide), s4, s5, s6, b3, (by decide), s7, trivial⟩ (ih9 _ _ _ _ h w0 O q)

  · intro v45 h0 x0 ds h w0 O q
    rw [R5_9] at h
    by_cases b0 : (Decidable.decide (v45 < (↑(0 + Int.toNat (↑(List.length (g14_0 x0) - 0) : Int) - 1) : Int))) = true
    · rw [if_pos b0] at h
      obtain ⟨s0, s1, h⟩ := h
      obtain ⟨s2, h⟩ := h
      by_cases b1 : (g19_1 (List.getD (g14_0 x0) (1 + Int.toNat v45) ByteArray.empty) == 0) = true
      · rw [if_pos b1] at h
        by_cases b2 : (Decidable.decide (v45 > 0)) = true
        · rw [if_pos b2] at h
          obtain ⟨s3, h⟩ := h
          obtain ⟨s4, s5, h⟩ := h
          by_cases b3 : (Decidable.decide (g20_0 (List.getD h0 (Int.toNat (v45 - 1)) (ByteArray.empty, ByteArray.empty, ByteArray.empty, ())) (g19_0 (List.getD (g14_0 x0) (1 + Int.toNat v45) ByteArray.empty)) ≥ 0)) = true
          · rw [if_pos b3] at h
            obtain ⟨s6, h⟩ := h
            subst h
            exact AtV.fin Tryz.func5 tabOk ext5Ok mixed (p5_5 v45 h0 x0) ⟨b0, s0, s1, s2, b1, b2, s3, s4, s5, trivial, b3, rfl, s6, trivial⟩
          · rw [if_neg b3] at h
            replace b3 := Bool.eq_false_iff.2 b3
            by_cases b4 : (g19_1 (List.getD (g14_0 x0) (1 + Int.toNat v45) ByteArray.empty) != 0) = true
            · rw [if_pos b4] at h
              obtain ⟨s6, h⟩ := h
              subst h
              exact AtV.fin Tryz.func5 tabOk ext5Ok mixed (p5_6 v45 h0 x0) ⟨b0, s0, s1, s2, b1, b2, s3, s4, s5, trivial, b3, b4, s6, trivial⟩
            · rw [if_neg b4] at h
              replace b4 := Bool.eq_false_iff.2 b4
              obtain ⟨s6, h⟩ := h
              obtain ⟨s7, h⟩ := h
              exact AtV.runN tabOk ext5Ok mixed (p5_7 v45 h0 x0) ⟨b0, s0, s1, s2, b1, b2, s3, s4, s5, trivial, b3, b4, s6, s7, trivial⟩ (ih9 _ _ _ _ h w0 O q)
        · rw [if_neg b2] at h
          replace b2 := Bool.eq_false_iff.2 b2
          by_cases b3 : (g19_1 (List.getD (g14_0 x0) (1 + Int.toNat v45) ByteArray.empty) != 0) = true
          · rw [if_pos b3] at h
            obtain ⟨s3, h⟩ := h
            subst h
            exact AtV.fin Tryz.func5 tabOk ext5Ok mixed (p5_8 v45 h0 x0) ⟨b0, s0, s1, s2, b1, b2, rfl, b3, s3, trivial⟩
          · rw [if_neg b3] at h
            replace b3 := Bool.eq_false_iff.2 b3
            obtain ⟨s3, h⟩ := h
            obtain ⟨s4, h⟩ := h
            exact AtV.runN tabOk ext5Ok mixed (p5_9 v45 h0 x0) ⟨b0, s0, s1, s2, b1, b2, rfl, b3, s3, s4, trivial⟩ (ih9 _ _ _ _ h w0 O q)
      · rw [if_neg b1] at h
        replace b1 := Bool.eq_false_iff.2 b1
        by_cases b2 : (g19_1 (List.getD (g14_0 x0) (1 + Int.toNat v45) ByteArray.empty) != 0) = true
        · rw [if_pos b2] at h
          obtain ⟨s3, h⟩ := h
          subst h
          exact AtV.fin Tryz.func5 tabOk ext5Ok mixed (p5_10 v45 h0 x0) ⟨b0, s0, s1, s2, b1, rfl, rfl, b2, s3, trivial⟩
        · rw [if_neg b2] at h
          replace b2 := Bool.eq_false_iff.2 b2
          obtain ⟨s3, h⟩ := h
          obtain ⟨s4, h⟩ := h
          exact AtV.runN tabOk ext5Ok mixed (p5_11 v45 h0 x0) ⟨b0, s0, s1, s2, b1, rfl, rfl, b2, s3, s4, trivial⟩ (ih9 _ _ _ _ h w0 O q)
    · rw [if_neg b0] at h
      replace b0 := Bool.eq_false_iff.2 b0
      by_cases b1 : (g21_0 h0 != g15_0 (g16_0 (List.getD (g14_0 x0) 0 ByteArray.empty) (ByteArray.mk #[97, 114, 99, 104, 105, 118, 101, 32]))) = true
      · rw [if_pos b1] at h
        subst h
        exact AtV.fin Tryz.func5 tabOk ext5Ok mixed (p5_12 v45 h0 x0) ⟨b0, trivial, b1, trivial⟩
      · rw [if_neg b1] at h
        replace b1 := Bool.eq_false_iff.2 b1
        subst h
        exact AtV.fin Tryz.func5 tabOk ext5Ok mixed (p5_13 v45 h0 x0) ⟨b0, trivial, b1, trivial⟩



def ls5 (x0 : ByteArray) : List ByteArray := g14_0 x0
def hd5 (x0 : ByteArray) : ByteArray := (ls5 x0).getD 0 ByteArray.empty
def tp5 (x0 : ByteArray) : ByteArray := g16_0 (hd5 x0) (ByteArray.mk #[97, 114, 99, 104, 105, 118, 101, 32])
def num5 (x0 : ByteArray) : Int := g15_0 (tp5 x0)
def ok5 (x0 : ByteArray) : Bool := g15_1 (tp5 x0) && g17_0 (num5 x0) 0 32 && (ByteArray.toList (hd5 x0) == ByteArray.toList (ByteArray.mk #[97, 114, 99, 104, 105, 118, 101, 32] ++ g18_0 (num5 x0)))
def ord5 (h : List (ByteArray × ByteArray × ByteArray × Unit)) (b : (ByteArray × ByteArray × ByteArray × Unit)) : Bool := decide (0 < h.length) && decide (g20_0 (h.getD (h.length - 1) (ByteArray.empty, ByteArray.empty, ByteArray.empty, ())) b ≥ 0)
def ld5 : List ByteArray → Nat → List (ByteArray × ByteArray × ByteArray × Unit) → (Int × Int) ⊕ List (ByteArray × ByteArray × ByteArray × Unit)
  | [], _, h => .inr h
  | l :: r, i, h => if g19_1 l ≠ 0 then .inl ((i : Int) + 2, g19_1 l) else if ord5 h (g19_0 l) = true then .inl ((i : Int) + 2, 7) else ld5 r (i + 1) (h ++ [g19_0 l])
def out5 (n : Int) : (Int × Int) ⊕ List (ByteArray × ByteArray × ByteArray × Unit) → List (ByteArray × ByteArray × ByteArray × Unit) × Int × Int
  | .inl (i, c) => ([], i, c)
  | .inr h => if (h.length : Int) = n then (h, 0, 0) else ([], 0, 11)
def all5 (x0 : ByteArray) : List (ByteArray × ByteArray × ByteArray × Unit) × Int × Int :=
  if g13_0 x0 (ByteArray.mk #[10]) = false then ([], 0, 11) else if ok5 x0 = false then ([], 1, 9) else out5 (num5 x0) (ld5 ((ls5 x0).drop 1) 0 [])
def g5_0 (x0 : ByteArray) : List (ByteArray × ByteArray × ByteArray × Unit) := (all5 x0).1
def g5_1 (x0 : ByteArray) : Int := (all5 x0).2.1
def g5_2 (x0 : ByteArray) : Int := (all5 x0).2.2
def P5 (x0 : ByteArray) : Prop := P13 x0 (ByteArray.mk #[10]) ∧ P14 x0 ∧ (g13_0 x0 (ByteArray.mk #[10]) = true → 0 < (ls5 x0).length) ∧ (ls5 x0).length ≤ 1048577 ∧ (hd5 x0).size ≤ 1048576 ∧ ∀ l ∈ ls5 x0, P19 l

def res5 (p : List (ByteArray × ByteArray × ByteArray × Unit) × Int × Int) : List Dyn := [⟨.sl (.cons .str (.cons .str (.cons .str .unit))), p.1⟩, ⟨.int .i64, p.2.1⟩, ⟨.int .i64, p.2.2⟩]

theorem run5 (x0 : ByteArray) (hl : (ls5 x0).length ≤ 1048577) (hb : ∀ l ∈ ls5 x0, P19 l) : ∀ (k i : Nat) (h : List (ByteArray × ByteArray × ByteArray × Unit)), i + 1 + k = (ls5 x0).length → h.length = i →
    R5_9 (k + 1) (i : Int) h x0 (res5 (out5 (num5 x0) (ld5 ((ls5 x0).drop (i + 1)) i h))) := by
  have ew : g14_0 x0 = ls5 x0 := rfl
  have en : g15_0 (g16_0 ((ls5 x0).getD 0 ByteArray.empty) (ByteArray.mk #[97, 114, 99, 104, 105, 118, 101, 32])) = num5 x0 := rfl
  intro k
  induction k with
  | zero =>
    intro i h hi hh
    rw [R5_9, ew, en, if_neg (by simp only [decide_eq_true_eq]; omega), List.drop_of_length_le (by omega)]
    unfold ld5 out5
    have ez : g21_0 h = (h.length : Int) := rfl
    rw [ez]
    by_cases hn : (h.length : Int) = num5 x0
    · rw [if_neg (by simpa using hn)]
      simp only [if_pos hn]; rfl
    · rw [if_pos (by simpa using hn)]
      simp only [if_neg hn]; rfl
  | succ k ih =>
    intro i h hi hh
    have hlt : i + 1 < (ls5 x0).length := by omega
    have ei : 1 + i = i + 1 := by omega
    rw [R5_9, ew, if_pos (by simp only [decide_eq_true_eq]; omega)]
    simp only [Int.toNat_natCast, ei]
    rw [drop_get (ls5 x0) (i + 1) ByteArray.empty hlt]
    have hup : InR .i64 ((i : Int) + 1) := by rw [i64_iff]; omega
    have hup2 : InR .i64 ((i : Int) + 2) := by rw [i64_iff]; omega
    have e1 : (i : Int) + 1 = ((i + 1 : Nat) : Int) := by omega
    have hP := hb _ (mem_getD (ls5 x0) (i + 1) ByteArray.empty hlt)
    generalize hw : (ls5 x0).getD (i + 1) ByteArray.empty = w at *
    refine ⟨by omega, by omega, hP, ?_⟩
    unfold ld5
    have nxt : R5_9 (k + 1) ((i : Int) + 1) (h ++ [g19_0 w]) x0 (res5 (out5 (num5 x0) (ld5 ((ls5 x0).drop (i + 1 + 1)) (i + 1) (h ++ [g19_0 w])))) := by
      rw [e1]
      exact ih (i + 1) (h ++ [g19_0 w]) (by omega) (by simp; omega)
    by_cases hc : g19_1 w = 0
    · have hb0 : (g19_1 w != 0) = false := by rw [hc]; rfl
      have hb1 : (g19_1 w == 0) = true := by rw [hc]; rfl
      rw [hb0, hb1, if_pos rfl, if_neg (show ¬ (g19_1 w ≠ 0) from fun hx => hx hc)]
      by_cases h0 : 0 < i
      · rw [if_pos (by simp only [decide_eq_true_eq]; omega)]
        have e2 : Int.toNat ((i : Int) - 1) = h.length - 1 := by omega
        rw [e2]
        refine ⟨by rw [i64_iff]; omega, by omega, by omega, ?_⟩
        have eo : ord5 h (g19_0 w) = decide (g20_0 (h.getD (h.length - 1) (ByteArray.empty, ByteArray.empty, ByteArray.empty, ())) (g19_0 w) ≥ 0) := by
          unfold ord5; rw [decide_eq_true (by omega), Bool.true_and]
        rw [eo]
        cases hq : decide (g20_0 (h.getD (h.length - 1) (ByteArray.empty, ByteArray.empty, ByteArray.empty, ())) (g19_0 w) ≥ 0) with
        | true =>
          rw [if_pos rfl, if_pos rfl]
          exact ⟨hup2, rfl⟩
        | false =>
          rw [if_neg (by decide), if_neg (by decide), if_neg (by decide)]
          exact ⟨by omega, hup, nxt⟩
      · rw [if_neg (by simp only [decide_eq_true_eq]; omega)]
        have eo : ord5 h (g19_0 w) = false := by
          unfold ord5; rw [decide_eq_false (by omega), Bool.false_and]
        rw [eo, if_neg (by decide), if_neg (by decide)]
        exact ⟨by omega, hup, nxt⟩
    · have hb0 : (g19_1 w != 0) = true := by simpa using hc
      have hb1 : (g19_1 w == 0) = false := by simpa using hc
      rw [hb0, hb1, if_neg (by decide), if_pos rfl, if_pos (show g19_1 w ≠ 0 from hc)]
      exact ⟨hup2, rfl⟩

theorem top5 (x0 : ByteArray) (hp : P5 x0) : ∃ n, R5 n x0 (res5 (all5 x0)) := by
  obtain ⟨p1, p2, p3, p4, p5, p6⟩ := hp
  have ew : g14_0 x0 = ls5 x0 := rfl
  have eh : (ls5 x0).getD 0 ByteArray.empty = hd5 x0 := rfl
  have et : g16_0 (hd5 x0) (ByteArray.mk #[97, 114, 99, 104, 105, 118, 101, 32]) = tp5 x0 := rfl
  have en : g15_0 (tp5 x0) = num5 x0 := rfl
  refine ⟨((ls5 x0).length - 1 + 1) + 1, ?_⟩
  rw [R5, ew, eh, et, en]
  refine ⟨p1, ?_⟩
  cases h1 : g13_0 x0 (ByteArray.mk #[10]) with
  | false =>
    have ea : all5 x0 = ([], 0, 11) := by unfold all5; rw [h1, if_pos rfl]
    rw [if_pos (show (!false) = true from rfl), ea]; rfl
  | true =>
    have p3' := p3 h1
    have ht : (tp5 x0).size ≤ 1048576 := by
      have : (tp5 x0).size ≤ (hd5 x0).size := by
        show (List.toArray _).size ≤ _
        rw [List.size_toArray]
        have e : (hd5 x0).data.toList.length = (hd5 x0).size := rfl
        unfold Lib.trimPrefix
        split
        · rw [List.length_drop]; omega
        · omega
      omega
    have ea0 : all5 x0 = if ok5 x0 = false then ([], 1, 9) else out5 (num5 x0) (ld5 ((ls5 x0).drop 1) 0 []) := by unfold all5; rw [h1, if_neg (show ¬ true = false by decide)]
    rw [if_neg (show ¬ (!true) = true by decide), ea0]
    refine ⟨p2, by omega, (show (tp5 x0).size ≤ 281474976710656 from by omega), ?_⟩
    cases h2 : g15_1 (tp5 x0) with
    | false =>
      have eo : ok5 x0 = false := by unfold ok5; rw [h2]; rfl
      rw [if_pos (show (!false) = true from rfl), eo, if_pos rfl]; rfl
    | true =>
      rw [if_neg (show ¬ (!true) = true by decide)]
      cases h3 : g17_0 (num5 x0) 0 32 with
      | false =>
        have eo : ok5 x0 = false := by unfold ok5; rw [h2, h3]; rfl
        rw [if_pos (show (!false) = true from rfl), eo, if_pos rfl]; rfl
      | true =>
        have hn : 0 ≤ num5 x0 ∧ num5 x0 ≤ 32 := by
          unfold g17_0 at h3
          by_cases c1 : num5 x0 ≥ 0
          · by_cases c2 : num5 x0 ≤ 32
            · exact ⟨c1, c2⟩
            · simp [c1, c2] at h3
          · simp [c1] at h3
        have hz : (g18_0 (num5 x0)).size ≤ 21 := numB_size _ (by omega) (by omega)
        rw [if_neg (show ¬ (!true) = true by decide)]
        refine ⟨by omega, ⟨rfl, trivial⟩, by omega, ?_⟩
        cases h4 : (ByteArray.toList (hd5 x0) == ByteArray.toList (ByteArray.mk #[97, 114, 99, 104, 105, 118, 101, 32] ++ g18_0 (num5 x0))) with
        | false =>
          have eo : ok5 x0 = false := by unfold ok5; rw [h2, h3, h4]; rfl
          rw [if_pos (show (!false) = true from rfl), eo, if_pos rfl]; rfl
        | true =>
          have eo : ok5 x0 = true := by unfold ok5; rw [h2, h3, h4]; rfl
          rw [if_neg (show ¬ (!true) = true by decide), eo, if_neg (show ¬ true = false by decide)]
          refine ⟨by omega, ?_⟩
          exact run5 x0 p4 p6 ((ls5 x0).length - 1) 0 [] (by omega) (by simp)

def S5 : Am.Spec := { sig := sig5, pre := fun ⟨x0, _⟩ => P5 x0, res := fun ⟨x0, _⟩ => [⟨.sl (.cons .str (.cons .str (.cons .str .unit))), g5_0 x0⟩, ⟨.int .i64, g5_1 x0⟩, ⟨.int .i64, g5_2 x0⟩] }
theorem con5 : Contract Tryz.prog 5 S5 := contract_of Tryz.func5 hb5 (Nat.le_of_ble_eq_true (by kernel_rfl)) (fun ⟨x0, _⟩ h hwf w0 O q => by
  obtain ⟨n, hn⟩ := top5 x0 h
  exact (snd5 n).1 x0 _ hn w0 O q)

end Go.Proofs.YtcppjmlhilklcaaGreatDoor
