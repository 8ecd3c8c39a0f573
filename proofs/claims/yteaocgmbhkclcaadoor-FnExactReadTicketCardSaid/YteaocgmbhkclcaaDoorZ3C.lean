/- Several texts in one: the functions that this law reaches, and their laws. -/
import Derived.Test.YteaocgmbhkclcaaDoorZ3A
import Derived.Test.YteaocgmbhkclcaaDoorZ3B
import Derived.Test.YteaocgmbhkclcaaDoorRows
import Derived.KernelRfl
import Derived.Shelf.Vars
import Derived.Shelf.Strings.Builder1
import Derived.Shelf.Strings.Builder2
import Derived.Shelf.Strings.BuilderF
import Derived.Shelf.Strings.BuilderK
import Derived.Shelf.Utf8.RuneCount
import Derived.Shelf.Strconv.Itoa0
import Derived.Shelf.Strconv.Itoa1
import Derived.Shelf.LaysM
import Derived.Shelf.Strconv.Itoa2
import Derived.Shelf.Strconv.Itoa3
import Derived.Shelf.Strconv.Itoa4
import Derived.Shelf.Strconv.ParseIntEmpty
import Derived.Shelf.Strconv.Clone
import Derived.Shelf.Strconv.SyntaxError
import Derived.Shelf.LaysC
import Derived.Shelf.Strconv.ToError
import Derived.Shelf.Strconv.Lower
import Derived.Shelf.Strconv.ParseUint10
import Derived.Shelf.Strconv.ParseUint10Empty
import Derived.Shelf.Strconv.ParseUint10Any
import Derived.Shelf.Strconv.ParseInt10
import Derived.Shelf.Strconv.RangeError
import Derived.Shelf.Strconv.ToErrorRange
import Derived.Shelf.Strconv.ParseUintEmpty
import Derived.Shelf.Strconv.ParseUint10b64
import Derived.Shelf.Strconv.ParseUint10b32
import Derived.Shelf.Strconv.ParseUint10b16
import Derived.Shelf.Strconv.ParseUint10b8
import Derived.Shelf.Strconv.ParseUint10At
import Derived.Shelf.Strconv.ParseInt10At64
import Derived.Shelf.Strconv.ParseInt10At32
import Derived.Shelf.Strconv.ParseInt10At16
import Derived.Shelf.Strconv.ParseInt10At8
import Derived.Shelf.Strconv.ParseInt10All
import Derived.Shelf.Strconv.ParseIntPublic10
import Derived.Shelf.Strings.Search1
import Derived.Shelf.Strings.Search2
import Derived.Shelf.Strings.Search3
import Derived.Shelf.Strings.Count
import Derived.Shelf.Strings.Shaped
import Derived.Shelf.Strings.Prefix
import Derived.Shelf.Strings.Split
import Derived.Shelf.Strings.SplitShaped
import Derived.Shelf.Unicode.Decode
import Derived.Shelf.Strings.RuneCount
import Derived.Shelf.Strings.Explode
import Derived.Shelf.Bits.Mul64
import Derived.Shelf.Strings.Repeat
import Derived.Shelf.Unicode.DecodeSlow
import Derived.Shelf.Unicode.DecodeAny
import Derived.Lib.TrimByte

/- The abstract machine, part 41: slices.Insert of one element: from its runs to its contract. -/
namespace Go.Am
set_option linter.unusedVariables false
set_option linter.unusedSimpArgs false
open Go.RowKit (Below)

def insertSpec (t : Ty) : Spec := { sig := [AT.own t, AT.v (.int .i64), AT.own t], pre := fun ⟨x0, x1, x2, _⟩ => 0 ≤ x1 ∧ x1 ≤ x0.length ∧ x2.length = 1 ∧ x0.length ≤ 1048576, upd := fun _ => [none, none], res := fun ⟨x0, x1, x2, _⟩ => [⟨.sl t, x0.take x1.toNat ++ (x2 ++ x0.drop x1.toNat)⟩] }

theorem insert_contract {P : Program} {f : FuncId} {t : Ty} {e : TypeId} (hf : t.flat = true)
    (hshift : ∀ (w : World) (xs ys : List t.den) (b off cap : Nat) (cur : Array Value) (ty : TypeId) (fz : Nat × Nat) (vb voff vcap : Nat) (vcur : Array Value) (vty : TypeId) (vfz : Nat × Nat) (i : Nat), OwnAt w t xs b off cap cur ty fz → OwnAt w t ys vb voff vcap vcur vty vfz → ys.length = 1 → vb ≠ b → i < xs.length → xs.length + 1 ≤ cap →
      Calls P f #[.slice (some ⟨b, off, none⟩) xs.length cap, .int .i64 i, .slice (some ⟨vb, voff, none⟩) 1 vcap] w fun r w' => r = .returned (.slice (some ⟨b, off, none⟩) (xs.length + 1) cap) ∧
        ∃ q, w' = ((w.drewN q).setCells b (off + (i + 1) * t.size) (fcs t (xs.drop i))).setCells b (off + i * t.size) (fcs t ys))
    (hgrow : ∀ (w : World) (xs ys : List t.den) (b off cap : Nat) (cur : Array Value) (ty : TypeId) (fz : Nat × Nat) (vb voff vcap : Nat) (vcur : Array Value) (vty : TypeId) (vfz : Nat × Nat) (i : Nat), OwnAt w t xs b off cap cur ty fz → OwnAt w t ys vb voff vcap vcur vty vfz → ys.length = 1 → vb ≠ b → i < xs.length → cap < xs.length + 1 → xs.length ≤ 1048576 →
      Calls P f #[.slice (some ⟨b, off, none⟩) xs.length cap, .int .i64 i, .slice (some ⟨vb, voff, none⟩) 1 vcap] w fun r w' => ∃ v', r = .returned v' ∧ w'.ownsRow w.heap.size e t.size v' (xs.length + 1) (fcs t (xs.take i ++ (ys ++ xs.drop i))) ∧ Below w.heap.size w w')
    (hend : ∀ (w : World) (xs ys : List t.den) (b off cap : Nat) (cur : Array Value) (ty : TypeId) (fz : Nat × Nat) (vb voff vcap : Nat) (vcur : Array Value) (vty : TypeId) (vfz : Nat × Nat), OwnAt w t xs b off cap cur ty fz → OwnAt w t ys vb voff vcap vcur vty vfz → ys.length = 1 → vb ≠ b → xs.length + 1 ≤ cap →
      Calls P f #[.slice (some ⟨b, off, none⟩) xs.length cap, .int .i64 xs.length, .slice (some ⟨vb, voff, none⟩) 1 vcap] w fun r w' => r = .returned (.slice (some ⟨b, off, none⟩) (xs.length + 1) cap) ∧
        ∃ q, w' = (w.drewN q).setCells b (off + xs.length * t.size) (fcs t ys))
    (hlast : ∀ (w : World) (xs ys : List t.den) (ad : Option Addr) (cap : Nat) (vb voff vcap : Nat) (vcur : Array Value) (vty : TypeId) (vfz : Nat × Nat), (∀ x ∈ xs, Wf t x) → xs.length ≤ cap → (ad = none → xs = []) → (∀ a, ad = some a → ∀ j u, (fcs t xs)[j]? = some u → w.cell? (a.add j) = some u) → OwnAt w t ys vb voff vcap vcur vty vfz → ys.length = 1 → cap < xs.length + 1 → xs.length ≤ 1048576 →
      Calls P f #[.slice ad xs.length cap, .int .i64 xs.length, .slice (some ⟨vb, voff, none⟩) 1 vcap] w fun r w' => ∃ v', r = .returned v' ∧ w'.ownsRow w.heap.size e t.size v' (xs.length + 1) (fcs t (xs ++ ys)) ∧ Below w.heap.size w w') :
    Contract P f (insertSpec t) := by
  rintro w ⟨z0, z1, z2, u⟩ vs bss hgo hp ⟨v, s, b0, bs0, rfl, rfl, ho, v1, s1, b1, bs1, rfl, rfl, ⟨rfl, rfl, _⟩, v2, s2, b2, bs2, rfl, rfl, ho2, rfl, rfl⟩ hn
  obtain ⟨x0, rfl⟩ : ∃ y : List t.den, y = z0 := ⟨z0, rfl⟩
  obtain ⟨x1, rfl⟩ : ∃ y : Int, y = z1 := ⟨z1, rfl⟩
  obtain ⟨x2, rfl⟩ : ∃ y : List t.den, y = z2 := ⟨z2, rfl⟩
  dsimp only
  obtain ⟨p0, p1, p2, p3⟩ : 0 ≤ x1 ∧ x1 ≤ x0.length ∧ x2.length = 1 ∧ x0.length ≤ 1048576 := hp
  obtain ⟨i, rfl⟩ : ∃ i : Nat, x1 = i := ⟨x1.toNat, by omega⟩
  have hi : i ≤ x0.length := by omega
  have ho' : OwnC w (.sl t) x0 [v] b0 := ho
  have ho2' : OwnC w (.sl t) x2 [v2] b2 := ho2
  obtain ⟨vb, voff, vcap, vcur, vty, vfz, rfl, rfl, hB⟩ := ownAt_of hf ho2' (by intro e; rw [e] at p2; simp at p2)
  rw [p2]
  have hwf2 := hB.wf
  -- a row of one's own
  have fresh : ∀ (ys : List t.den) (v' : Value) (w' : World), ys.length = x0.length + 1 → (∀ y ∈ ys, Wf t y) → w'.ownsRow w.heap.size e t.size v' (x0.length + 1) (fcs t ys) → Below w.heap.size w w' →
      ∃ rs ubs rbs, Ending.returned v' = .returned (packV rs) ∧ Kept [b0, [], [vb]].flatten w w' ∧ ResRep w' [⟨.sl t, ys⟩] rs rbs ∧ UpdRep w' [none, none] (ownVals [AT.own t, AT.v (.int .i64), AT.own t] [v, .int .i64 i, .slice (some ⟨vb, voff, none⟩) 1 vcap]) ubs ∧
        (ubs.flatten ++ rbs.flatten).Nodup ∧ ∀ d ∈ ubs.flatten ++ rbs.flatten, ¬ Am.Good w [b0, [], [vb]].flatten d := fun ys v' w' hl hw h1 h2 => by
    rw [← hl] at h1
    obtain ⟨bs, g1, g2, g3⟩ := own_of_row hf hw (by rw [hl]; unfold maxLen; omega) h1
    refine ⟨[v'], [[], []], [bs], rfl, (Kept.of_below h2).of_nil, ⟨_, _, _, _, _, rfl, rfl, g1, rfl, rfl, rfl⟩, ⟨_, _, _, rfl, rfl, _, _, _, rfl, rfl, rfl, rfl⟩, by simpa using g2, fun d hd hg => ?_⟩
    simp at hd
    have := g3 d hd
    have := hg.1
    omega
  -- what was there, written anew
  have wf3 : ∀ y ∈ x0.take i ++ (x2 ++ x0.drop i), Wf t y → True := fun _ _ _ => trivial
  obtain ⟨hw0, hm0, hcase⟩ := own_flat hf ho'
  have hws : ∀ y ∈ x0.take i ++ (x2 ++ x0.drop i), Wf t y := fun y hy => by
    rcases List.mem_append.1 hy with hy | hy
    · exact hw0 y (List.mem_of_mem_take hy)
    · rcases List.mem_append.1 hy with hy | hy
      · exact hwf2 y hy
      · exact hw0 y (List.mem_of_mem_drop hy)
  have hlens : (x0.take i ++ (x2 ++ x0.drop i)).length = x0.length + 1 := by
    simp only [List.length_append, List.length_take, List.length_drop, p2]
    omega
  rcases hcase with ⟨ad, rfl, rfl, rfl⟩ | ⟨b, off, cap, cur, ty, fz, rfl, h2, h3, h4, h5, h6, rfl, h8⟩
  · have hi0 : i = 0 := by simpa using hi
    subst hi0
    have := hlast w [] x2 ad 0 vb voff vcap vcur vty vfz (fun x h => by cases h) (Nat.le_refl _) (fun _ => rfl) (fun a _ j u hj => by simp [fcs] at hj) hB p2 (by simp) (by simp)
    refine this.mono ?_
    rintro r w' ⟨v', rfl, h1, h2⟩
    exact fresh _ v' w' hlens hws (by simpa using h1) h2
  · have hA : OwnAt w t x0 b off cap cur ty fz := ⟨hw0, h2, h3, h4, h5, h6, h8⟩
    have hvb : vb ≠ b := by
      simp only [List.flatten_cons, List.flatten_nil, List.append_nil, List.nil_append, List.cons_append, List.nodup_cons, List.mem_singleton] at hn
      exact fun e => hn.1 e.symm
    have place : ∀ (w' : World) (cur' : Array Value), Kept [b] w w' → w'.heap[b]? = some (.cells cur' ty fz) → cur'.size = cur.size → x0.length + 1 ≤ cap → (∀ j u, (fcs t (x0.take i ++ (x2 ++ x0.drop i)))[j]? = some u → cur'[off + j]? = some u) →
        ∃ rs ubs rbs, Ending.returned (.slice (some ⟨b, off, none⟩) (x0.length + 1) cap) = .returned (packV rs) ∧ Kept [[b], [], [vb]].flatten w w' ∧ ResRep w' [⟨.sl t, x0.take i ++ (x2 ++ x0.drop i)⟩] rs rbs ∧ UpdRep w' [none, none] (ownVals [AT.own t, AT.v (.int .i64), AT.own t] [.slice (some ⟨b, off, none⟩) x0.length cap, .int .i64 i, .slice (some ⟨vb, voff, none⟩) 1 vcap]) ubs ∧
          (ubs.flatten ++ rbs.flatten).Nodup ∧ ∀ d ∈ ubs.flatten ++ rbs.flatten, ¬ Am.Good w [[b], [], [vb]].flatten d := fun w' cur' hk hb hs hr hc => by
      have hres := own_flat_mk (w := w') hf hws (n := x0.length + 1) (b := b) (off := off) (cap := cap) (cur := cur') (ty := ty) (fz := fz) hlens.symm (by rw [hlens]; exact hr) h3 (by rw [hs]; exact h4) hb (by rw [hs]; exact h6) hc
      refine ⟨[_], [[], []], [[b]], rfl, hk.mono (fun k hk => by simp at hk; simp [hk]), ⟨_, _, _, _, _, rfl, rfl, hres, rfl, rfl, rfl⟩, ⟨_, _, _, rfl, rfl, _, _, _, rfl, rfl, rfl, rfl⟩, by simp, fun d hd hg => ?_⟩
      simp at hd
      subst hd
      exact hg.2 (by simp)
    have hdr : ∀ q, Kept [b] w (w.drewN q) := fun q => ⟨rfl, rfl, rfl, Nat.le_refl _, fun _ _ _ => rfl⟩
    have hlen2 : (fcs t x2).length = t.size := by rw [fcs_length hf hwf2, p2, Nat.one_mul]
    by_cases hroom : x0.length + 1 ≤ cap
    · have hle : (x0.length + 1) * t.size ≤ cap * t.size := Nat.mul_le_mul_right _ hroom
      rw [Nat.add_mul, Nat.one_mul] at hle
      by_cases hin : i = x0.length
      · subst hin
        refine (hend w x0 x2 b off cap cur ty fz vb voff vcap vcur vty vfz hA hB p2 hvb hroom).mono ?_
        rintro r w' ⟨rfl, q, rfl⟩
        have l1 : off + x0.length * t.size + (fcs t x2).length ≤ cur.size := by rw [hlen2]; omega
        obtain ⟨c1, g1, g2, g3, g4, g5, g6⟩ := setCells_block (fcs t x2) (show (w.drewN q).heap[b]? = some (.cells cur ty fz) from h5) l1
        refine place _ c1 ((hdr q).trans (setCells_kept _ h5 l1)) g1 g2 hroom (fun j u hu => ?_)
        rw [List.take_length, List.drop_length, List.append_nil, fcs_append] at hu
        have hl0 := fcs_length hf hw0
        by_cases hj : j < x0.length * t.size
        · rw [List.getElem?_append_left (by omega)] at hu
          rw [g4 _ (.inl (by omega))]
          exact h8 j u hu
        · rw [List.getElem?_append_right (by omega), hl0] at hu
          have := g3 _ u hu
          rwa [show off + x0.length * t.size + (j - x0.length * t.size) = off + j by omega] at this
      · have hlt : i < x0.length := by omega
        refine (hshift w x0 x2 b off cap cur ty fz vb voff vcap vcur vty vfz i hA hB p2 hvb hlt hroom).mono ?_
        rintro r w' ⟨rfl, q, rfl⟩
        have hd : (fcs t (x0.drop i)).length = (x0.length - i) * t.size := by rw [fcs_length hf (fun x hx => hw0 x (List.mem_of_mem_drop hx)), List.length_drop]
        have hti : (fcs t (x0.take i)).length = i * t.size := by rw [fcs_length hf (fun x hx => hw0 x (List.mem_of_mem_take hx)), List.length_take, Nat.min_eq_left (by omega)]
        have e1 : (i + 1) * t.size + (x0.length - i) * t.size = x0.length * t.size + t.size := by rw [← Nat.add_mul, ← Nat.succ_mul]; congr 1; omega
        have e2 : (i + 1) * t.size = i * t.size + t.size := Nat.succ_mul _ _
        have l1 : off + (i + 1) * t.size + (fcs t (x0.drop i)).length ≤ cur.size := by rw [hd]; omega
        obtain ⟨c1, g1, g2, g3, g4, g5, g6⟩ := setCells_block (fcs t (x0.drop i)) (show (w.drewN q).heap[b]? = some (.cells cur ty fz) from h5) l1
        have l2 : off + i * t.size + (fcs t x2).length ≤ c1.size := by rw [hlen2, g2]; omega
        obtain ⟨c2, k1, k2, k3, k4, k5, k6⟩ := setCells_block (fcs t x2) g1 l2
        refine place _ c2 (((hdr q).trans (setCells_kept _ h5 l1)).trans (setCells_kept _ g1 l2)) k1 (by rw [k2, g2]) hroom (fun j u hu => ?_)
        rw [fcs_append, fcs_append] at hu
        by_cases hj : j < i * t.size
        · rw [List.getElem?_append_left (by omega)] at hu
          rw [k4 _ (.inl (by omega)), g4 _ (.inl (by omega))]
          exact h8 j u (fcs_take hf hw0 i j u hu)
        · rw [List.getElem?_append_right (by omega), hti] at hu
          by_cases hj2 : j < i * t.size + t.size
          · rw [List.getElem?_append_left (by omega)] at hu
            have := k3 _ u hu
            rwa [show off + i * t.size + (j - i * t.size) = off + j by omega] at this
          · rw [List.getElem?_append_right (by omega), hlen2] at hu
            rw [k4 _ (.inr (by rw [hlen2]; omega))]
            have := g3 _ u hu
            rwa [show off + (i + 1) * t.size + (j - i * t.size - t.size) = off + j by omega] at this
    · by_cases hin : i = x0.length
      · subst hin
        have := hlast w x0 x2 (some ⟨b, off, none⟩) cap vb voff vcap vcur vty vfz hw0 h2 (fun h => by cases h) (fun a ha j u hj => by cases ha; rw [Addr.add_lit]; exact hA.cell j u hj) hB p2 (by omega) p3
        refine this.mono ?_
        rintro r w' ⟨v', rfl, h1, h2⟩
        exact fresh _ v' w' hlens hws (by rw [Int.toNat_natCast, List.take_length, List.drop_length, List.append_nil]; exact h1) h2
      · have hlt : i < x0.length := by omega
        refine (hgrow w x0 x2 b off cap cur ty fz vb voff vcap vcur vty vfz i hA hB p2 hvb hlt (by omega) p3).mono ?_
        rintro r w' ⟨v', rfl, h1, h2⟩
        exact fresh _ v' w' hlens hws h1 h2

end Go.Am

/- The types of this program, as the abstract machine reads them. -/
set_option linter.unusedVariables false
set_option linter.unusedSimpArgs false
set_option maxRecDepth 100000
namespace Go.Proofs.YteaocgmbhkclcaaDoor
open Go Go.Am Go.Proofs
def tab : List TI := [TI.other,
  TI.other,
  TI.scal (Ty.int IntKind.i64),
  TI.scal (Ty.int IntKind.i64),
  TI.scal (Ty.bool),
  TI.scal (Ty.int IntKind.u8),
  TI.scal (Ty.int IntKind.u8),
  TI.struct (Ty.cons (Ty.int IntKind.i64) (Ty.cons (Ty.int IntKind.i64) (Ty.cons Ty.bool (Ty.cons (Ty.int IntKind.u8) Ty.unit)))),
  TI.struct (Ty.cons (Ty.int IntKind.i64) (Ty.cons (Ty.int IntKind.i64) (Ty.cons Ty.bool (Ty.cons (Ty.int IntKind.u8) Ty.unit)))),
  TI.scal (Ty.str),
  TI.scal (Ty.str),
  TI.scal (Ty.str),
  TI.scal (Ty.int IntKind.u64),
  TI.other,
  TI.other,
  TI.other,
  TI.other,
  TI.other,
  TI.other,
  TI.other,
  TI.other,
  TI.scal (Ty.int IntKind.i32),
  TI.struct (Ty.cons Ty.str (Ty.cons (Ty.int IntKind.i64) (Ty.cons (Ty.int IntKind.i64) Ty.unit))),
  TI.struct (Ty.cons Ty.str (Ty.cons (Ty.int IntKind.i64) (Ty.cons (Ty.int IntKind.i64) Ty.unit))),
  TI.other,
  TI.other,
  TI.other,
  TI.other,
  TI.slice 9 (Ty.str) 16,
  TI.other,
  TI.other,
  TI.other,
  TI.other,
  TI.other,
  TI.other,
  TI.other,
  TI.other,
  TI.other,
  TI.other,
  TI.other,
  TI.other,
  TI.other,
  TI.other,
  TI.other,
  TI.other,
  TI.other,
  TI.other,
  TI.other,
  TI.other,
  TI.other,
  TI.other,
  TI.other,
  TI.other,
  TI.other,
  TI.other,
  TI.slice 5 (Ty.int IntKind.u8) 1,
  TI.other,
  TI.other,
  TI.other,
  TI.other,
  TI.other,
  TI.other,
  TI.other,
  TI.other,
  TI.other,
  TI.other,
  TI.scal (Ty.int IntKind.i64),
  TI.scal (Ty.int IntKind.u64),
  TI.other,
  TI.other,
  TI.scal (Ty.int IntKind.u64),
  TI.other,
  TI.other,
  TI.other,
  TI.slice 2 (Ty.int IntKind.i64) 8,
  TI.other,
  TI.other,
  TI.other,
  TI.other,
  TI.other,
  TI.other,
  TI.other,
  TI.other,
  TI.other,
  TI.other,
  TI.other,
  TI.other,
  TI.other,
  TI.other,
  TI.other,
  TI.other,
  TI.other,
  TI.other,
  TI.other,
  TI.other,
  TI.other,
  TI.other,
  TI.other,
  TI.struct (Ty.cons (Ty.int IntKind.u8) (Ty.cons (Ty.int IntKind.u8) Ty.unit)),
  TI.struct (Ty.cons (Ty.int IntKind.u8) (Ty.cons (Ty.int IntKind.u8) Ty.unit)),
  TI.other,
  TI.scal (Ty.int IntKind.u32),
  TI.other,
  TI.other,
  TI.other,
  TI.other,
  TI.other,
  TI.other,
  TI.other,
  TI.struct (Ty.cons Ty.str Ty.unit),
  TI.struct (Ty.cons Ty.str Ty.unit),
  TI.other,
  TI.other,
  TI.other,
  TI.other,
  TI.other,
  TI.other,
  TI.other,
  TI.other,
  TI.other,
  TI.other,
  TI.other,
  TI.other,
  TI.other,
  TI.other,
  TI.other,
  TI.other,
  TI.scal (Ty.int IntKind.u8),
  TI.scal (Ty.int IntKind.u8),
  TI.other,
  TI.scal (Ty.int IntKind.i32),
  TI.scal (Ty.int IntKind.i32)]

theorem tabOk : TabOk Tryd.prog tab := tabOk_of_check (by kernel_rfl)
theorem mixed : Tryd.prog.follows .mixedOrders = true := by kernel_rfl
theorem gv0 {W : World} (h : GInv W) : GHas W 0 (.int .i64) := h.1
theorem gcell0 (W : World) (h : W.ShapedOpen Tryd.prog) : ∃ m, W.cell? ⟨0, 0, none⟩ = some (.int .i64 m) :=
  Go.Proofs.cell_of_shapedOpen_int (zero := #[.int .i64 0]) (t := 3) h (of_decide_eq_true (by kernel_rfl)) (by kernel_rfl) rfl (by kernel_rfl) (by kernel_rfl) Tryd.underlying3
theorem gv1 {W : World} (h : GInv W) : GHas W 1 (.ifc) := h.2.1
theorem gv2 {W : World} (h : GInv W) : GHas W 2 (.ifc) := h.2.2.1
theorem gv5 {W : World} (h : GInv W) : GHas W 5 (.tab .u64 Lib.pow10Tab) := h.2.2.2.1
theorem maxLenG {W : World} (h : GInv W) : ∃ m, W.cell? ⟨0, 0, none⟩ = some (.int .i64 m) := gv0 h
theorem pow10G {W : World} (h : GInv W) : Lib.TabIs Tryd.prog W "internal/strconv.uint64pow10" .u64 Lib.pow10Tab := GHas.tab (by kernel_rfl) (gv5 h)
theorem errSyntaxG {W : World} (h : GInv W) : ∃ ev, W.cell? ⟨1, 0, none⟩ = some ev ∧ (ev = .nilIface ∨ ∃ te pe, ev = .iface te pe) := GHas.ifc_cell (gv1 h)
theorem errRangeG {W : World} (h : GInv W) : ∃ ev, W.cell? ⟨2, 0, none⟩ = some ev ∧ (ev = .nilIface ∨ ∃ te pe, ev = .iface te pe) := GHas.ifc_cell (gv2 h)
theorem ginv (W : World) (h : W.ShapedOpen Tryd.prog) (h1 : GHas W 1 (.ifc)) (h2 : GHas W 2 (.ifc)) (h5 : GHas W 5 (.tab .u64 Lib.pow10Tab)) : GInv W := ⟨gcell0 W h, h1, h2, h5, trivial⟩
end Go.Proofs.YteaocgmbhkclcaaDoor

/- Function 29 (spec.l00In): its runs between cut points. Written by a program of this repo (gen). -/
set_option linter.unusedVariables false
set_option linter.unusedSimpArgs false
set_option maxRecDepth 100000
namespace Go.Proofs.YteaocgmbhkclcaaDoor
open Go Go.Am Go.Proofs
def ext29 : Ext := []
theorem ext29Ok : ExtOk Tryd.prog ext29 := trivial
/-! Function 29. -/
noncomputable def b29 : Code := bodyOf Tryd.f29
theorem hb29 : Tryd.f29.body = some b29 := by kernel_rfl
def sig29 : List AT := [AT.v (Ty.int IntKind.i64), AT.v (Ty.int IntKind.i64), AT.v (Ty.int IntKind.i64)]
def tys29 : List Ty := [Ty.bool]
def P29 (x0 : Int) (x1 : Int) (x2 : Int) : Prop := True
def g29_0 (x0 : Int) (x1 : Int) (x2 : Int) : Bool := (if (Decidable.decide (x0 ≥ x1)) = true then Decidable.decide (x0 ≤ x2) else Bool.false)
theorem p29_0 (x0 : Int) (x1 : Int) (x2 : Int) : runF tab ext29 false 15 [] 2000 [] tys29 Tryd.f29.results [true] [.code b29] (entE 0 0 sig29 (x0, x1, x2, ())) (entL sig29 (x0, x1, x2, ())) = some ([Dyn.mk Ty.bool (Decidable.decide (x0 ≤ x2))], [], [Decidable.decide (x0 ≥ x1) = Bool.true]) := by kernel_rfl
theorem p29_1 (x0 : Int) (x1 : Int) (x2 : Int) : runF tab ext29 false 15 [] 2000 [] tys29 Tryd.f29.results [false] [.code b29] (entE 0 0 sig29 (x0, x1, x2, ())) (entL sig29 (x0, x1, x2, ())) = some ([Dyn.mk Ty.bool Bool.false], [], [Decidable.decide (x0 ≥ x1) = Bool.false]) := by kernel_rfl
theorem at29 (x0 : Int) (x1 : Int) (x2 : Int) (h : P29 x0 x1 x2) (w0 : World) (O : List Nat) (q : Nat → Value) : AtV Tryd.prog 29 (PostR [⟨Ty.bool, g29_0 x0 x1 x2⟩] [] [] q w0 O) 15 w0 O q [] [.code b29] (entE 0 0 sig29 (x0, x1, x2, ())) (entL sig29 (x0, x1, x2, ())) := by
  unfold P29 at h
  unfold g29_0
  by_cases b0 : (Decidable.decide (x0 ≥ x1)) = true
  · try simp only [if_pos b0] at h ⊢
    exact AtV.fin Tryd.func29 tabOk ext29Ok mixed (p29_0 x0 x1 x2) ⟨b0, trivial⟩
  · try simp only [if_neg b0] at h ⊢
    replace b0 := Bool.eq_false_iff.2 b0
    exact AtV.fin Tryd.func29 tabOk ext29Ok mixed (p29_1 x0 x1 x2) ⟨b0, trivial⟩

def S29 : Am.Spec := { sig := sig29, pre := fun ⟨x0, x1, x2, _⟩ => P29 x0 x1 x2, res := fun ⟨x0, x1, x2, _⟩ => [⟨Ty.bool, g29_0 x0 x1 x2⟩] }
theorem con29 : Contract Tryd.prog 29 S29 := contract_of Tryd.func29 hb29 (Nat.le_of_ble_eq_true (by kernel_rfl)) (fun ⟨x0, x1, x2, _⟩ h _ w0 O q => at29 x0 x1 x2 h w0 O q)


end Go.Proofs.YteaocgmbhkclcaaDoor

/- Function 33 (impl.within): its runs between cut points. Written by a program of this repo (gen). -/
set_option linter.unusedVariables false
set_option linter.unusedSimpArgs false
set_option maxRecDepth 100000
namespace Go.Proofs.YteaocgmbhkclcaaDoor
open Go Go.Am Go.Proofs
def ext33 : Ext := []
theorem ext33Ok : ExtOk Tryd.prog ext33 := trivial
/-! Function 33. -/
noncomputable def b33 : Code := bodyOf Tryd.f33
theorem hb33 : Tryd.f33.body = some b33 := by kernel_rfl
def sig33 : List AT := [AT.v (Ty.int IntKind.i64), AT.v (Ty.int IntKind.i64), AT.v (Ty.int IntKind.i64)]
def tys33 : List Ty := [Ty.bool]
def P33 (x0 : Int) (x1 : Int) (x2 : Int) : Prop := True
def g33_0 (x0 : Int) (x1 : Int) (x2 : Int) : Bool := (if (Decidable.decide (x0 ≥ x1)) = true then Decidable.decide (x0 ≤ x2) else Bool.false)
theorem p33_0 (x0 : Int) (x1 : Int) (x2 : Int) : runF tab ext33 false 15 [] 2000 [] tys33 Tryd.f33.results [true] [.code b33] (entE 0 0 sig33 (x0, x1, x2, ())) (entL sig33 (x0, x1, x2, ())) = some ([Dyn.mk Ty.bool (Decidable.decide (x0 ≤ x2))], [], [Decidable.decide (x0 ≥ x1) = Bool.true]) := by kernel_rfl
theorem p33_1 (x0 : Int) (x1 : Int) (x2 : Int) : runF tab ext33 false 15 [] 2000 [] tys33 Tryd.f33.results [false] [.code b33] (entE 0 0 sig33 (x0, x1, x2, ())) (entL sig33 (x0, x1, x2, ())) = some ([Dyn.mk Ty.bool Bool.false], [], [Decidable.decide (x0 ≥ x1) = Bool.false]) := by kernel_rfl
theorem at33 (x0 : Int) (x1 : Int) (x2 : Int) (h : P33 x0 x1 x2) (w0 : World) (O : List Nat) (q : Nat → Value) : AtV Tryd.prog 33 (PostR [⟨Ty.bool, g33_0 x0 x1 x2⟩] [] [] q w0 O) 15 w0 O q [] [.code b33] (entE 0 0 sig33 (x0, x1, x2, ())) (entL sig33 (x0, x1, x2, ())) := by
  unfold P33 at h
  unfold g33_0
  by_cases b0 : (Decidable.decide (x0 ≥ x1)) = true
  · try simp only [if_pos b0] at h ⊢
    exact AtV.fin Tryd.func33 tabOk ext33Ok mixed (p33_0 x0 x1 x2) ⟨b0, trivial⟩
  · try simp only [if_neg b0] at h ⊢
    replace b0 := Bool.eq_false_iff.2 b0
    exact AtV.fin Tryd.func33 tabOk ext33Ok mixed (p33_1 x0 x1 x2) ⟨b0, trivial⟩

def S33 : Am.Spec := { sig := sig33, pre := fun ⟨x0, x1, x2, _⟩ => P33 x0 x1 x2, res := fun ⟨x0, x1, x2, _⟩ => [⟨Ty.bool, g33_0 x0 x1 x2⟩] }
theorem con33 : Contract Tryd.prog 33 S33 := contract_of Tryd.func33 hb33 (Nat.le_of_ble_eq_true (by kernel_rfl)) (fun ⟨x0, x1, x2, _⟩ h _ w0 O q => at33 x0 x1 x2 h w0 O q)


end Go.Proofs.YteaocgmbhkclcaaDoor

/- Function 45 (spec.l01Small): its runs between cut points. Written by a program of this repo (gen). -/
set_option linter.unusedVariables false
set_option linter.unusedSimpArgs false
set_option maxRecDepth 100000
namespace Go.Proofs.YteaocgmbhkclcaaDoor
open Go Go.Am Go.Proofs
def ext45 : Ext := []
theorem ext45Ok : ExtOk Tryd.prog ext45 := trivial
/-! Function 45. -/
noncomputable def b45 : Code := bodyOf Tryd.f45
theorem hb45 : Tryd.f45.body = some b45 := by kernel_rfl
def sig45 : List AT := [AT.v (Ty.int IntKind.u8)]
def tys45 : List Ty := [Ty.bool]
def P45 (x0 : Int) : Prop := True
def g45_0 (x0 : Int) : Bool := (if (Decidable.decide (x0 ≥ 97)) = true then Decidable.decide (x0 ≤ 122) else Bool.false)
theorem p45_0 (x0 : Int) : runF tab ext45 false 9 [] 2000 [] tys45 Tryd.f45.results [true] [.code b45] (entE 0 0 sig45 (x0, ())) (entL sig45 (x0, ())) = some ([Dyn.mk Ty.bool (Decidable.decide (x0 ≤ 122))], [], [Decidable.decide (x0 ≥ 97) = Bool.true]) := by kernel_rfl
theorem p45_1 (x0 : Int) : runF tab ext45 false 9 [] 2000 [] tys45 Tryd.f45.results [false] [.code b45] (entE 0 0 sig45 (x0, ())) (entL sig45 (x0, ())) = some ([Dyn.mk Ty.bool Bool.false], [], [Decidable.decide (x0 ≥ 97) = Bool.false]) := by kernel_rfl
theorem at45 (x0 : Int) (h : P45 x0) (w0 : World) (O : List Nat) (q : Nat → Value) : AtV Tryd.prog 45 (PostR [⟨Ty.bool, g45_0 x0⟩] [] [] q w0 O) 9 w0 O q [] [.code b45] (entE 0 0 sig45 (x0, ())) (entL sig45 (x0, ())) := by
  unfold P45 at h
  unfold g45_0
  by_cases b0 : (Decidable.decide (x0 ≥ 97)) = true
  · try simp only [if_pos b0] at h ⊢
    exact AtV.fin Tryd.func45 tabOk ext45Ok mixed (p45_0 x0) ⟨b0, trivial⟩
  · try simp only [if_neg b0] at h ⊢
    replace b0 := Bool.eq_false_iff.2 b0
    exact AtV.fin Tryd.func45 tabOk ext45Ok mixed (p45_1 x0) ⟨b0, trivial⟩

def S45 : Am.Spec := { sig := sig45, pre := fun ⟨x0, _⟩ => P45 x0, res := fun ⟨x0, _⟩ => [⟨Ty.bool, g45_0 x0⟩] }
theorem con45 : Contract Tryd.prog 45 S45 := contract_of Tryd.func45 hb45 (Nat.le_of_ble_eq_true (by kernel_rfl)) (fun ⟨x0, _⟩ h _ w0 O q => at45 x0 h w0 O q)


end Go.Proofs.YteaocgmbhkclcaaDoor

/- Function 26 (spec.l01Digit): its runs between cut points. Written by a program of this repo (gen). -/
set_option linter.unusedVariables false
set_option linter.unusedSimpArgs false
set_option maxRecDepth 100000
namespace Go.Proofs.YteaocgmbhkclcaaDoor
open Go Go.Am Go.Proofs
def ext26 : Ext := []
theorem ext26Ok : ExtOk Tryd.prog ext26 := trivial
/-! Function 26. -/
noncomputable def b26 : Code := bodyOf Tryd.f26
theorem hb26 : Tryd.f26.body = some b26 := by kernel_rfl
def sig26 : List AT := [AT.v (Ty.int IntKind.u8)]
def tys26 : List Ty := [Ty.bool]
def P26 (x0 : Int) : Prop := True
def g26_0 (x0 : Int) : Bool := (if (Decidable.decide (x0 ≥ 48)) = true then Decidable.decide (x0 ≤ 57) else Bool.false)
theorem p26_0 (x0 : Int) : runF tab ext26 false 9 [] 2000 [] tys26 Tryd.f26.results [true] [.code b26] (entE 0 0 sig26 (x0, ())) (entL sig26 (x0, ())) = some ([Dyn.mk Ty.bool (Decidable.decide (x0 ≤ 57))], [], [Decidable.decide (x0 ≥ 48) = Bool.true]) := by kernel_rfl
theorem p26_1 (x0 : Int) : runF tab ext26 false 9 [] 2000 [] tys26 Tryd.f26.results [false] [.code b26] (entE 0 0 sig26 (x0, ())) (entL sig26 (x0, ())) = some ([Dyn.mk Ty.bool Bool.false], [], [Decidable.decide (x0 ≥ 48) = Bool.false]) := by kernel_rfl
theorem at26 (x0 : Int) (h : P26 x0) (w0 : World) (O : List Nat) (q : Nat → Value) : AtV Tryd.prog 26 (PostR [⟨Ty.bool, g26_0 x0⟩] [] [] q w0 O) 9 w0 O q [] [.code b26] (entE 0 0 sig26 (x0, ())) (entL sig26 (x0, ())) := by
  unfold P26 at h
  unfold g26_0
  by_cases b0 : (Decidable.decide (x0 ≥ 48)) = true
  · try simp only [if_pos b0] at h ⊢
    exact AtV.fin Tryd.func26 tabOk ext26Ok mixed (p26_0 x0) ⟨b0, trivial⟩
  · try simp only [if_neg b0] at h ⊢
    replace b0 := Bool.eq_false_iff.2 b0
    exact AtV.fin Tryd.func26 tabOk ext26Ok mixed (p26_1 x0) ⟨b0, trivial⟩

def S26 : Am.Spec := { sig := sig26, pre := fun ⟨x0, _⟩ => P26 x0, res := fun ⟨x0, _⟩ => [⟨Ty.bool, g26_0 x0⟩] }
theorem con26 : Contract Tryd.prog 26 S26 := contract_of Tryd.func26 hb26 (Nat.le_of_ble_eq_true (by kernel_rfl)) (fun ⟨x0, _⟩ h _ w0 O q => at26 x0 h w0 O q)


end Go.Proofs.YteaocgmbhkclcaaDoor

/- Function 27 (spec.l01Name): its runs between cut points. Written by a program of this repo (gen). -/
set_option linter.unusedVariables false
set_option linter.unusedSimpArgs false
set_option maxRecDepth 100000
namespace Go.Proofs.YteaocgmbhkclcaaDoor
open Go Go.Am Go.Proofs
def ext27 : Ext := [(45, S45), (26, S26)]
theorem call27_45 : Callable Tryd.prog 45 := ⟨Tryd.f45, Tryd.func45, by kernel_rfl, by kernel_rfl⟩
theorem call27_26 : Callable Tryd.prog 26 := ⟨Tryd.f26, Tryd.func26, by kernel_rfl, by kernel_rfl⟩
theorem ext27Ok : ExtOk Tryd.prog ext27 := ⟨⟨call27_45, con45⟩, ⟨call27_26, con26⟩, trivial⟩
/-! Function 27. -/
noncomputable def b27 : Code := bodyOf Tryd.f27
theorem hb27 : Tryd.f27.body = some b27 := by kernel_rfl
def sig27 : List AT := [AT.v (Ty.str)]
def tys27 : List Ty := [Ty.bool]
def E27_4 (v3 : Int) (x0 : ByteArray) : Env := [(0, PV.a (Atom.val (Value.string x0))), (3, PV.a (Atom.val (Value.int IntKind.i64 v3)))]
def L27_4 (v3 : Int) (x0 : ByteArray) : Heap := []
mutual
def R27 : Nat → ByteArray → List Dyn → Prop
  | 0, _, _ => False
  | n + 1, x0, ds => (if (ByteArray.toList x0 == ByteArray.toList (ByteArray.mk #[])) = true then (ds = [Dyn.mk Ty.bool Bool.false]) else (if (Decidable.decide ((↑(ByteArray.size x0) : Int) > 10)) = true then (ds = [Dyn.mk Ty.bool Bool.false]) else ((0 < (↑(ByteArray.size x0) : Int)) ∧ (if (!g45_0 (↑(UInt8.toNat (List.getD (Array.toList (ByteArray.data x0)) 0 0)) : Int)) = true then (ds = [Dyn.mk Ty.bool Bool.false]) else (R27_4 n (0) (x0) ds)))))
def R27_4 : Nat → Int → ByteArray → List Dyn → Prop
  | 0, _, _, _ => False
  | n + 1, v3, x0, ds => (if (Decidable.decide (v3 < (↑(ByteArray.size x0) : Int))) = true then ((0 ≤ v3) ∧ (v3 < (↑(ByteArray.size x0) : Int)) ∧ (if (!g45_0 (↑(UInt8.toNat (List.getD (Array.toList (ByteArray.data x0)) (Int.toNat v3) 0)) : Int)) = true then ((0 ≤ v3) ∧ (v3 < (↑(ByteArray.size x0) : Int)) ∧ (if (!g26_0 (↑(UInt8.toNat (List.getD (Array.toList (ByteArray.data x0)) (Int.toNat v3) 0)) : Int)) = true then (ds = [Dyn.mk Ty.bool Bool.false]) else ((InR IntKind.i64 (v3 + 1)) ∧ (R27_4 n (v3 + 1) (x0) ds)))) else ((InR IntKind.i64 (v3 + 1)) ∧ (R27_4 n (v3 + 1) (x0) ds)))) else (ds = [Dyn.mk Ty.bool Bool.true]))
end
theorem p27_0 (x0 : ByteArray) : runF tab ext27 false 35 [] 2000 [] tys27 Tryd.f27.results [true, true, true] [.code b27] (entE 0 0 sig27 (x0, ())) (entL sig27 (x0, ())) = some ([Dyn.mk Ty.bool Bool.false], [], [(ByteArray.toList x0 == ByteArray.toList (ByteArray.mk #[])) = Bool.true, Bool.true = Bool.true, Bool.true = Bool.true]) := by kernel_rfl
theorem p27_1 (x0 : ByteArray) : runF tab ext27 false 35 [] 2000 [] tys27 Tryd.f27.results [false, true, true] [.code b27] (entE 0 0 sig27 (x0, ())) (entL sig27 (x0, ())) = some ([Dyn.mk Ty.bool Bool.false], [], [(ByteArray.toList x0 == ByteArray.toList (ByteArray.mk #[])) = Bool.false, Decidable.decide ((↑(ByteArray.size x0) : Int) > 10) = Bool.true, Bool.true = Bool.true]) := by kernel_rfl
theorem p27_2 (x0 : ByteArray) : runF tab ext27 false 35 [] 2000 [] tys27 Tryd.f27.results [false, false, true] [.code b27] (entE 0 0 sig27 (x0, ())) (entL sig27 (x0, ())) = some ([Dyn.mk Ty.bool Bool.false], [], [(ByteArray.toList x0 == ByteArray.toList (ByteArray.mk #[])) = Bool.false, Decidable.decide ((↑(ByteArray.size x0) : Int) > 10) = Bool.false, (0 : Int) ≤ (0 : Int), 0 < (↑(ByteArray.size x0) : Int), True, (!g45_0 (↑(UInt8.toNat (List.getD (Array.toList (ByteArray.data x0)) 0 0)) : Int)) = Bool.true]) := by kernel_rfl
theorem p27_3 (x0 : ByteArray) : Am.runN tab ext27 false 35 [] 2000 [] [] [0, 3] [] [false, false, false] [.code b27] (entE 0 0 sig27 (x0, ())) (entL sig27 (x0, ())) = some (cutAt b27 4, E27_4 (0) (x0), L27_4 (0) (x0), [(ByteArray.toList x0 == ByteArray.toList (ByteArray.mk #[])) = Bool.false, Decidable.decide ((↑(ByteArray.size x0) : Int) > 10) = Bool.false, (0 : Int) ≤ (0 : Int), 0 < (↑(ByteArray.size x0) : Int), True, (!g45_0 (↑(UInt8.toNat (List.getD (Array.toList (ByteArray.data x0)) 0 0)) : Int)) = Bool.false]) := by kernel_rfl
theorem p27_4 (v3 : Int) (x0 : ByteArray) : runF tab ext27 false 35 [] 2000 [] tys27 Tryd.f27.results [true, true, true] (cutAt b27 4) (E27_4 v3 x0) (L27_4 v3 x0) = some ([Dyn.mk Ty.bool Bool.false], [], [Decidable.decide (v3 < (↑(ByteArray.size x0) : Int)) = Bool.true, 0 ≤ v3, v3 < (↑(ByteArray.size x0) : Int), True, (!g45_0 (↑(UInt8.toNat (List.getD (Array.toList (ByteArray.data x0)) (Int.toNat v3) 0)) : Int)) = Bool.true, 0 ≤ v3, v3 < (↑(ByteArray.size x0) : Int), True, (!g26_0 (↑(UInt8.toNat (List.getD (Array.toList (ByteArray.data x0)) (Int.toNat v3) 0)) : Int)) = Bool.true]) := by kernel_rfl
theorem p27_5 (v3 : Int) (x0 : ByteArray) : Am.runN tab ext27 false 35 [] 2000 [] [] [0, 3] [] [true, true, false] (cutAt b27 4) (E27_4 v3 x0) (L27_4 v3 x0) = some (cutAt b27 4, E27_4 (v3 + 1) (x0), L27_4 (v3 + 1) (x0), [Decidable.decide (v3 < (↑(ByteArray.size x0) : Int)) = Bool.true, 0 ≤ v3, v3 < (↑(ByteArray.size x0) : Int), True, (!g45_0 (↑(UInt8.toNat (List.getD (Array.toList (ByteArray.data x0)) (Int.toNat v3) 0)) : Int)) = Bool.true, 0 ≤ v3, v3 < (↑(ByteArray.size x0) : Int), True, (!g26_0 (↑(UInt8.toNat (List.getD (Array.toList (ByteArray.data x0)) (Int.toNat v3) 0)) : Int)) = Bool.false, InR IntKind.i64 (v3 + 1)]) := by kernel_rfl
theorem p27_6 (v3 : Int) (x0 : ByteArray) : Am.runN tab ext27 false 35 [] 2000 [] [] [0, 3] [] [true, false, false] (cutAt b27 4) (E27_4 v3 x0) (L27_4 v3 x0) = some (cutAt b27 4, E27_4 (v3 + 1) (x0), L27_4 (v3 + 1) (x0), [Decidable.decide (v3 < (↑(ByteArray.size x0) : Int)) = Bool.true, 0 ≤ v3, v3 < (↑(ByteArray.size x0) : Int), True, (!g45_0 (↑(UInt8.toNat (List.getD (Array.toList (ByteArray.data x0)) (Int.toNat v3) 0)) : Int)) = Bool.false, Bool.false = Bool.false, InR IntKind.i64 (v3 + 1)]) := by kernel_rfl
theorem p27_7 (v3 : Int) (x0 : ByteArray) : runF tab ext27 false 35 [] 2000 [] tys27 Tryd.f27.results [false] (cutAt b27 4) (E27_4 v3 x0) (L27_4 v3 x0) = some ([Dyn.mk Ty.bool Bool.true], [], [Decidable.decide (v3 < (↑(ByteArray.size x0) : Int)) = Bool.false]) := by kernel_rfl
theorem snd27 : ∀ n, (∀ (x0 : ByteArray) ds, R27 n x0 ds → ∀ w0 O q, AtV Tryd.prog 27 (PostR ds [] [] q w0 O) 35 w0 O q [] [.code b27] (entE 0 0 sig27 (x0, ())) (entL sig27 (x0, ()))) ∧ (∀ (v3 : Int) (x0 : ByteArray) ds, R27_4 n v3 x0 ds → ∀ w0 O q, AtV Tryd.prog 27 (PostR ds [] [] q w0 O) 35 w0 O q [] (cutAt b27 4) (E27_4 v3 x0) (L27_4 v3 x0)) := by
  intro n
  induction n with
  | zero => exact ⟨fun _ _ h => by simp only [R27] at h, fun _ _ _ h => by simp only [R27_4] at h⟩
  | succ n ih =>
  obtain ⟨ih, ih4⟩ := ih
  refine ⟨?_, ?_⟩
  · intro x0 ds h w0 O q
    rw [R27] at h
    by_cases b0 : (ByteArray.toList x0 == ByteArray.toList (ByteArray.mk #[])) = true
    · rw [if_pos b0] at h
      subst h
      exact AtV.fin Tryd.func27 tabOk ext27Ok mixed (p27_0 x0) ⟨b0, rfl, rfl, trivial⟩
    · rw [if_neg b0] at h
      replace b0 := Bool.eq_false_iff.2 b0
      by_cases b1 : (Decidable.decide ((↑(ByteArray.size x0) : Int) > 10)) = true
      · rw [if_pos b1] at h
        subst h
        exact AtV.fin Tryd.func27 tabOk ext27Ok mixed (p27_1 x0) ⟨b0, b1, rfl, trivial⟩
      · rw [if_neg b1] at h
        replace b1 := Bool.eq_false_iff.2 b1
        obtain ⟨s0, h⟩ := h
        by_cases b2 : (!g45_0 (↑(UInt8.toNat (List.getD (Array.toList (ByteArray.data x0)) 0 0)) : Int)) = true
        · rw [if_pos b2] at h
          subst h
          exact AtV.fin Tryd.func27 tabOk ext27Ok mixed (p27_2 x0) ⟨b0, b1, (by decide), s0, trivial, b2, trivial⟩
        · rw [if_neg b2] at h
          replace b2 := Bool.eq_false_iff.2 b2
          exact AtV.runN tabOk ext27Ok mixed (p27_3 x0) ⟨b0, b1, (by decide), s0, trivial, b2, trivial⟩ (ih4 _ _ _ h w0 O q)

  · intro v3 x0 ds h w0 O q
    rw [R27_4] at h
    by_cases b0 : (Decidable.decide (v3 < (↑(ByteArray.size x0) : Int))) = true
    · rw [if_pos b0] at h
      obtain ⟨s0, s1, h⟩ := h
      by_cases b1 : (!g45_0 (↑(UInt8.toNat (List.getD (Array.toList (ByteArray.data x0)) (Int.toNat v3) 0)) : Int)) = true
      · rw [if_pos b1] at h
        obtain ⟨s2, s3, h⟩ := h
        by_cases b2 : (!g26_0 (↑(UInt8.toNat (List.getD (Array.toList (ByteArray.data x0)) (Int.toNat v3) 0)) : Int)) = true
        · rw [if_pos b2] at h
          subst h
          exact AtV.fin Tryd.func27 tabOk ext27Ok mixed (p27_4 v3 x0) ⟨b0, s0, s1, trivial, b1, s2, s3, trivial, b2, trivial⟩
        · rw [if_neg b2] at h
          replace b2 := Bool.eq_false_iff.2 b2
          obtain ⟨s4, h⟩ := h
          exact AtV.runN tabOk ext27Ok mixed (p27_5 v3 x0) ⟨b0, s0, s1, trivial, b1, s2, s3, trivial, b2, s4, trivial⟩ (ih4 _ _ _ h w0 O q)
      · rw [if_neg b1] at h
        replace b1 := Bool.eq_false_iff.2 b1
        obtain ⟨s2, h⟩ := h
        exact AtV.runN tabOk ext27Ok mixed (p27_6 v3 x0) ⟨b0, s0, s1, trivial, b1, rfl, s2, trivial⟩ (ih4 _ _ _ h w0 O q)
    · rw [if_neg b0] at h
      replace b0 := Bool.eq_false_iff.2 b0
      subst h
      exact AtV.fin Tryd.func27 tabOk ext27Ok mixed (p27_7 v3 x0) ⟨b0, trivial⟩



def g27_0 (x0 : ByteArray) : Bool := decide (1 ≤ x0.size) && decide (x0.size ≤ 10) && g45_0 ((bytesOf x0).getD 0 0) && (bytesOf x0).all fun b => g45_0 b || g26_0 b
def P27 (x0 : ByteArray) : Prop := True

theorem top27 (x0 : ByteArray) (hw : Wf .str x0) : R27 (x0.size + 1 + 1) x0 [⟨.bool, g27_0 x0⟩] := by
  have hl := bytesOf_length x0
  rw [R27]
  by_cases h0 : x0 = ByteArray.mk #[]
  · rw [if_pos ((bytes_eq _ _).2 h0)]
    subst h0
    rfl
  · rw [if_neg (fun h => h0 ((bytes_eq _ _).1 h))]
    have hs : 1 ≤ x0.size := by
      rcases Nat.lt_or_ge 0 x0.size with h | h
      · exact h
      · exact absurd (bytesOf_inj (s := x0) (t := ByteArray.mk #[]) (List.eq_nil_of_length_eq_zero (by rw [hl]; omega))) h0
    by_cases h1 : (x0.size : Int) > 10
    · rw [if_pos (by simpa using h1)]
      have : ¬ x0.size ≤ 10 := by omega
      simp [g27_0, this]
    · rw [if_neg (by simpa using h1)]
      refine ⟨by omega, ?_⟩
      rw [byte_get]
      cases h2 : g45_0 ((bytesOf x0).getD 0 0) with
      | false =>
        rw [if_pos (by simp)]
        simp [g27_0, h2, -List.getD_eq_getElem?_getD]
      | true =>
        rw [if_neg (by simp)]
        have key := loop_test (bytesOf x0) 0 (fun b => g45_0 b || g26_0 b) [(⟨.bool, false⟩ : Dyn)] [⟨.bool, true⟩] (fun n i ds => R27_4 n i x0 ds) (fun n => ?_) (fun n i hi hok ds hr => ?_) (fun n i hi hok => ?_)
        · rw [hl] at key
          have e : g27_0 x0 = (bytesOf x0).all fun b => g45_0 b || g26_0 b := by
            have : x0.size ≤ 10 := by omega
            unfold g27_0
            simp only [hs, this, decide_true, Bool.true_and, h2]
          rw [e]
          cases h : (bytesOf x0).all fun b => g45_0 b || g26_0 b with
          | true => rw [if_pos h] at key; exact key
          | false => rw [if_neg (by rw [h]; simp)] at key; exact key
        · show R27_4 (n + 1) ((bytesOf x0).length : Int) x0 _
          rw [R27_4, hl, if_neg (by simp)]
        · rw [R27_4, if_pos (by simp; omega)]
          simp only [Int.toNat_natCast, byte_get]
          generalize (bytesOf x0).getD i 0 = c at *
          refine ⟨by omega, by omega, ?_⟩
          have hu := inR_up (xs := bytesOf x0) (by rw [hl]; exact hw) hi
          cases h3 : g45_0 c with
          | true => rw [if_neg (by simp)]; exact ⟨hu, hr⟩
          | false =>
            rw [if_pos (by simp)]
            rw [h3, Bool.false_or] at hok
            refine ⟨by omega, by omega, ?_⟩
            rw [if_neg (by rw [hok]; simp)]
            exact ⟨hu, hr⟩
        · simp only [Bool.or_eq_false_iff] at hok
          rw [R27_4, if_pos (by simp; omega)]
          simp only [Int.toNat_natCast, byte_get]
          refine ⟨by omega, by omega, ?_⟩
          rw [if_pos (by rw [hok.1]; rfl)]
          refine ⟨by omega, by omega, ?_⟩
          rw [if_pos (by rw [hok.2]; rfl)] <;> trivial

def S27 : Am.Spec := { sig := sig27, pre := fun ⟨x0, _⟩ => P27 x0, res := fun ⟨x0, _⟩ => [⟨Ty.bool, g27_0 x0⟩] }
theorem con27 : Contract Tryd.prog 27 S27 := contract_of Tryd.func27 hb27 (Nat.le_of_ble_eq_true (by kernel_rfl)) (fun ⟨x0, _⟩ h hwf w0 O q =>
  (snd27 _).1 x0 _ (top27 x0 hwf.1) w0 O q)

end Go.Proofs.YteaocgmbhkclcaaDoor

/- Function 28 (spec.l02Day): its runs between cut points. Written by a program of this repo (gen). -/
set_option linter.unusedVariables false
set_option linter.unusedSimpArgs false
set_option maxRecDepth 100000
namespace Go.Proofs.YteaocgmbhkclcaaDoor
open Go Go.Am Go.Proofs
def ext28 : Ext := [(29, S29)]
theorem call28_29 : Callable Tryd.prog 29 := ⟨Tryd.f29, Tryd.func29, by kernel_rfl, by kernel_rfl⟩
theorem ext28Ok : ExtOk Tryd.prog ext28 := ⟨⟨call28_29, con29⟩, trivial⟩
/-! Function 28. -/
noncomputable def b28 : Code := bodyOf Tryd.f28
theorem hb28 : Tryd.f28.body = some b28 := by kernel_rfl
def sig28 : List AT := [AT.v (Ty.int IntKind.i64)]
def tys28 : List Ty := [Ty.bool]
def P28 (x0 : Int) : Prop := True
def g28_0 (x0 : Int) : Bool := g29_0 x0 0 36524
theorem p28_0 (x0 : Int) : runF tab ext28 false 5 [] 2000 [] tys28 Tryd.f28.results [] [.code b28] (entE 0 0 sig28 (x0, ())) (entL sig28 (x0, ())) = some ([Dyn.mk Ty.bool (g29_0 x0 0 36524)], [], [True]) := by kernel_rfl
theorem at28 (x0 : Int) (h : P28 x0) (w0 : World) (O : List Nat) (q : Nat → Value) : AtV Tryd.prog 28 (PostR [⟨Ty.bool, g28_0 x0⟩] [] [] q w0 O) 5 w0 O q [] [.code b28] (entE 0 0 sig28 (x0, ())) (entL sig28 (x0, ())) := by
  unfold P28 at h
  unfold g28_0
  exact AtV.fin Tryd.func28 tabOk ext28Ok mixed (p28_0 x0) ⟨trivial, trivial⟩

def S28 : Am.Spec := { sig := sig28, pre := fun ⟨x0, _⟩ => P28 x0, res := fun ⟨x0, _⟩ => [⟨Ty.bool, g28_0 x0⟩] }
theorem con28 : Contract Tryd.prog 28 S28 := contract_of Tryd.func28 hb28 (Nat.le_of_ble_eq_true (by kernel_rfl)) (fun ⟨x0, _⟩ h _ w0 O q => at28 x0 h w0 O q)


end Go.Proofs.YteaocgmbhkclcaaDoor

/- Function 15 (spec.l18Ticket): its runs between cut points. Written by a program of this repo (gen). -/
set_option linter.unusedVariables false
set_option linter.unusedSimpArgs false
set_option maxRecDepth 100000
namespace Go.Proofs.YteaocgmbhkclcaaDoor
open Go Go.Am Go.Proofs
def ext15 : Ext := [(27, S27), (28, S28), (29, S29)]
theorem call15_27 : Callable Tryd.prog 27 := ⟨Tryd.f27, Tryd.func27, by kernel_rfl, by kernel_rfl⟩
theorem call15_28 : Callable Tryd.prog 28 := ⟨Tryd.f28, Tryd.func28, by kernel_rfl, by kernel_rfl⟩
theorem call15_29 : Callable Tryd.prog 29 := ⟨Tryd.f29, Tryd.func29, by kernel_rfl, by kernel_rfl⟩
theorem ext15Ok : ExtOk Tryd.prog ext15 := ⟨⟨call15_27, con27⟩, ⟨call15_28, con28⟩, ⟨call15_29, con29⟩, trivial⟩
/-! Function 15. -/
noncomputable def b15 : Code := bodyOf Tryd.f15
theorem hb15 : Tryd.f15.body = some b15 := by kernel_rfl
def sig15 : List AT := [AT.p (Ty.cons Ty.str (Ty.cons (Ty.int IntKind.i64) (Ty.cons (Ty.int IntKind.i64) Ty.unit)))]
def tys15 : List Ty := [Ty.bool]
def P15 (x0 : ByteArray × Int × Int × Unit) : Prop := True
def g15_0 (x0 : ByteArray × Int × Int × Unit) : Bool := (if (g27_0 (Prod.fst x0)) = true then (if (g28_0 (Prod.fst (Prod.snd x0))) = true then g29_0 (Prod.fst (Prod.snd (Prod.snd x0))) 0 1000 else Bool.false) else Bool.false)
theorem p15_0 (x0 : ByteArray × Int × Int × Unit) : runF tab ext15 false 22 [] 2000 [] tys15 Tryd.f15.results [true, true] [.code b15] (entE 0 0 sig15 (x0, ())) (entL sig15 (x0, ())) = some ([Dyn.mk Ty.bool (g29_0 (Prod.fst (Prod.snd (Prod.snd x0))) 0 1000)], [], [True, g27_0 (Prod.fst x0) = Bool.true, True, g28_0 (Prod.fst (Prod.snd x0)) = Bool.true, True]) := by kernel_rfl
theorem p15_1 (x0 : ByteArray × Int × Int × Unit) : runF tab ext15 false 22 [] 2000 [] tys15 Tryd.f15.results [true, false] [.code b15] (entE 0 0 sig15 (x0, ())) (entL sig15 (x0, ())) = some ([Dyn.mk Ty.bool Bool.false], [], [True, g27_0 (Prod.fst x0) = Bool.true, True, g28_0 (Prod.fst (Prod.snd x0)) = Bool.false]) := by kernel_rfl
theorem p15_2 (x0 : ByteArray × Int × Int × Unit) : runF tab ext15 false 22 [] 2000 [] tys15 Tryd.f15.results [false, false] [.code b15] (entE 0 0 sig15 (x0, ())) (entL sig15 (x0, ())) = some ([Dyn.mk Ty.bool Bool.false], [], [True, g27_0 (Prod.fst x0) = Bool.false, Bool.false = Bool.false]) := by kernel_rfl
theorem at15 (x0 : ByteArray × Int × Int × Unit) (h : P15 x0) (w0 : World) (O : List Nat) (q : Nat → Value) : AtV Tryd.prog 15 (PostR [⟨Ty.bool, g15_0 x0⟩] [] [] q w0 O) 22 w0 O q [] [.code b15] (entE 0 0 sig15 (x0, ())) (entL sig15 (x0, ())) := by
  unfold P15 at h
  unfold g15_0
  by_cases b0 : (g27_0 (Prod.fst x0)) = true
  · try simp only [if_pos b0] at h ⊢
    by_cases b1 : (g28_0 (Prod.fst (Prod.snd x0))) = true
    · try simp only [if_pos b1] at h ⊢
      exact AtV.fin Tryd.func15 tabOk ext15Ok mixed (p15_0 x0) ⟨trivial, b0, trivial, b1, trivial, trivial⟩
    · try simp only [if_neg b1] at h ⊢
      replace b1 := Bool.eq_false_iff.2 b1
      exact AtV.fin Tryd.func15 tabOk ext15Ok mixed (p15_1 x0) ⟨trivial, b0, trivial, b1, trivial⟩
  · try simp only [if_neg b0] at h ⊢
    replace b0 := Bool.eq_false_iff.2 b0
    exact AtV.fin Tryd.func15 tabOk ext15Ok mixed (p15_2 x0) ⟨trivial, b0, rfl, trivial⟩

def S15 : Am.Spec := { sig := sig15, pre := fun ⟨x0, _⟩ => P15 x0, res := fun ⟨x0, _⟩ => [⟨Ty.bool, g15_0 x0⟩] }
theorem con15 : Contract Tryd.prog 15 S15 := contract_of Tryd.func15 hb15 (Nat.le_of_ble_eq_true (by kernel_rfl)) (fun ⟨x0, _⟩ h _ w0 O q => at15 x0 h w0 O q)


end Go.Proofs.YteaocgmbhkclcaaDoor

/- Function 43 (impl.IsName): its runs between cut points. Written by a program of this repo (gen). -/
set_option linter.unusedVariables false
set_option linter.unusedSimpArgs false
set_option maxRecDepth 100000
namespace Go.Proofs.YteaocgmbhkclcaaDoor
open Go Go.Am Go.Proofs
def ext43 : Ext := []
theorem ext43Ok : ExtOk Tryd.prog ext43 := trivial
/-! Function 43. -/
noncomputable def b43 : Code := bodyOf Tryd.f43
theorem hb43 : Tryd.f43.body = some b43 := by kernel_rfl
def sig43 : List AT := [AT.v (Ty.str)]
def tys43 : List Ty := [Ty.bool]
def E43_4 (v18 : Int) (x0 : ByteArray) : Env := [(16, PV.a (Atom.osl 0 Option.none)), (17, PV.a (Atom.val (Value.int IntKind.i64 (↑(List.length (bytesOf x0)) : Int)))), (18, PV.a (Atom.val (Value.int IntKind.i64 v18)))]
def L43_4 (v18 : Int) (x0 : ByteArray) : Heap := [Option.some (Arr.mk (Ty.int IntKind.u8) (bytesOf x0) Bool.false)]
mutual
def R43 : Nat → ByteArray → List Dyn → Prop
  | 0, _, _ => False
  | n + 1, x0, ds => (if (Decidable.decide ((↑(ByteArray.size x0) : Int) < 1)) = true then (ds = [Dyn.mk Ty.bool Bool.false]) else (if (Decidable.decide ((↑(ByteArray.size x0) : Int) > 10)) = true then (ds = [Dyn.mk Ty.bool Bool.false]) else (R43_4 n (0) (x0) ds)))
def R43_4 : Nat → Int → ByteArray → List Dyn → Prop
  | 0, _, _, _ => False
  | n + 1, v18, x0, ds => (if (Decidable.decide (v18 < (↑(List.length (bytesOf x0)) : Int))) = true then ((0 ≤ v18) ∧ (v18 < (↑(List.length (bytesOf x0)) : Int)) ∧ (if (Decidable.decide (List.getD (bytesOf x0) (Int.toNat v18) 0 ≥ 97)) = true then (if (Decidable.decide (List.getD (bytesOf x0) (Int.toNat v18) 0 ≥ 48)) = true then (if (!Decidable.decide (List.getD (bytesOf x0) (Int.toNat v18) 0 ≤ 122)) = true then (if (v18 == 0) = true then (ds = [Dyn.mk Ty.bool Bool.false]) else (if (!Decidable.decide (List.getD (bytesOf x0) (Int.toNat v18) 0 ≤ 57)) = true then (ds = [Dyn.mk Ty.bool Bool.false]) else ((InR IntKind.i64 (v18 + 1)) ∧ (R43_4 n (v18 + 1) (x0) ds)))) else ((InR IntKind.i64 (v18 + 1)) ∧ (R43_4 n (v18 + 1) (x0) ds))) else (if (!Decidable.decide (List.getD (bytesOf x0) (Int.toNat v18) 0 ≤ 122)) = true then (if (v18 == 0) = true then (ds = [Dyn.mk Ty.bool Bool.false]) else (ds = [Dyn.mk Ty.bool Bool.false])) else ((InR IntKind.i64 (v18 + 1)) ∧ (R43_4 n (v18 + 1) (x0) ds)))) else (if (Decidable.decide (List.getD (bytesOf x0) (Int.toNat v18) 0 ≥ 48)) = true then (if (v18 == 0) = true then (ds = [Dyn.mk Ty.bool Bool.false]) else (if (!Decidable.decide (List.getD (bytesOf x0) (Int.toNat v18) 0 ≤ 57)) = true then (ds = [Dyn.mk Ty.bool Bool.false]) else ((InR IntKind.i64 (v18 + 1)) ∧ (R43_4 n (v18 + 1) (x0) ds)))) else (if (v18 == 0) = true then (ds = [Dyn.mk Ty.bool Bool.false]) else (ds = [Dyn.mk Ty.bool Bool.false]))))) else (ds = [Dyn.mk Ty.bool Bool.true]))
end
theorem p43_0 (x0 : ByteArray) : runF tab ext43 false 46 [] 2000 [] tys43 Tryd.f43.results [true, true] [.code b43] (entE 0 0 sig43 (x0, ())) (entL sig43 (x0, ())) = some ([Dyn.mk Ty.bool Bool.false], [], [Decidable.decide ((↑(ByteArray.size x0) : Int) < 1) = Bool.true, Bool.true = Bool.true]) := by kernel_rfl
theorem p43_1 (x0 : ByteArray) : runF tab ext43 false 46 [] 2000 [] tys43 Tryd.f43.results [false, true] [.code b43] (entE 0 0 sig43 (x0, ())) (entL sig43 (x0, ())) = some ([Dyn.mk Ty.bool Bool.false], [], [Decidable.decide ((↑(ByteArray.size x0) : Int) < 1) = Bool.false, Decidable.decide ((↑(ByteArray.size x0) : Int) > 10) = Bool.true]) := by kernel_rfl
theorem p43_2 (x0 : ByteArray) : Am.runN tab ext43 false 46 [] 2000 [] [] [16, 17, 18] [0] [false, false] [.code b43] (entE 0 0 sig43 (x0, ())) (entL sig43 (x0, ())) = some (cutAt b43 4, E43_4 (0) (x0), L43_4 (0) (x0), [Decidable.decide ((↑(ByteArray.size x0) : Int) < 1) = Bool.false, Decidable.decide ((↑(ByteArray.size x0) : Int) > 10) = Bool.false]) := by kernel_rfl
theorem p43_3 (v18 : Int) (x0 : ByteArray) : runF tab ext43 false 46 [] 2000 [] tys43 Tryd.f43.results [true, true, true, true, true, true] (cutAt b43 4) (E43_4 v18 x0) (L43_4 v18 x0) = some ([Dyn.mk Ty.bool Bool.false], [], [Decidable.decide (v18 < (↑(List.length (bytesOf x0)) : Int)) = Bool.true, 0 ≤ v18, v18 < (↑(List.length (bytesOf x0)) : Int), Decidable.decide (List.getD (bytesOf x0) (Int.toNat v18) 0 ≥ 97) = Bool.true, Decidable.decide (List.getD (bytesOf x0) (Int.toNat v18) 0 ≥ 48) = Bool.true, (!Decidable.decide (List.getD (bytesOf x0) (Int.toNat v18) 0 ≤ 122)) = Bool.true, (v18 == 0) = Bool.true, Bool.true = Bool.true]) := by kernel_rfl
theorem p43_4 (v18 : Int) (x0 : ByteArray) : runF tab ext43 false 46 [] 2000 [] tys43 Tryd.f43.results [true, true, true, true, false, true] (cutAt b43 4) (E43_4 v18 x0) (L43_4 v18 x0) = some ([Dyn.mk Ty.bool Bool.false], [], [Decidable.decide (v18 < (↑(List.length (bytesOf x0)) : Int)) = Bool.true, 0 ≤ v18, v18 < (↑(List.length (bytesOf x0)) : Int), Decidable.decide (List.getD (bytesOf x0) (Int.toNat v18) 0 ≥ 97) = Bool.true, Decidable.decide (List.getD (bytesOf x0) (Int.toNat v18) 0 ≥ 48) = Bool.true, (!Decidable.decide (List.getD (bytesOf x0) (Int.toNat v18) 0 ≤ 122)) = Bool.true, (v18 == 0) = Bool.false, (!Decidable.decide (List.getD (bytesOf x0) (Int.toNat v18) 0 ≤ 57)) = Bool.true]) := by kernel_rfl
theorem p43_5 (v18 : Int) (x0 : ByteArray) : Am.runN tab ext43 false 46 [] 2000 [] [] [16, 17, 18] [0] [true, true, true, true, false, false] (cutAt b43 4) (E43_4 v18 x0) (L43_4 v18 x0) = some (cutAt b43 4, E43_4 (v18 + 1) (x0), L43_4 (v18 + 1) (x0), [Decidable.decide (v18 < (↑(List.length (bytesOf x0)) : Int)) = Bool.true, 0 ≤ v18, v18 < (↑(List.length (bytesOf x0)) : Int), Decidable.decide (List.getD (bytesOf x0) (Int.toNat v18) 0 ≥ 97) = Bool.true, Decidable.decide (List.getD (bytesOf x0) (Int.toNat v18) 0 ≥ 48) = Bool.true, (!Decidable.decide (List.getD (bytesOf x0) (Int.toNat v18) 0 ≤ 122)) = Bool.true, (v18 == 0) = Bool.false, (!Decidable.decide (List.getD (bytesOf x0) (Int.toNat v18) 0 ≤ 57)) = Bool.false, InR IntKind.i64 (v18 + 1)]) := by kernel_rfl
theorem p43_6 (v18 : Int) (x0 : ByteArray) : Am.runN tab ext43 false 46 [] 2000 [] [] [16, 17, 18] [0] [true, true, true, false, false] (cutAt b43 4) (E43_4 v18 x0) (L43_4 v18 x0) = some (cutAt b43 4, E43_4 (v18 + 1) (x0), L43_4 (v18 + 1) (x0), [Decidable.decide (v18 < (↑(List.length (bytesOf x0)) : Int)) = Bool.true, 0 ≤ v18, v18 < (↑(List.length (bytesOf x0)) : Int), Decidable.decide (List.getD (bytesOf x0) (Int.toNat v18) 0 ≥ 97) = Bool.true, Decidable.decide (List.getD (bytesOf x0) (Int.toNat v18) 0 ≥ 48) = Bool.true, (!Decidable.decide (List.getD (bytesOf x0) (Int.toNat v18) 0 ≤ 122)) = Bool.false, Bool.false = Bool.false, InR IntKind.i64 (v18 + 1)]) := by kernel_rfl
theorem p43_7 (v18 : Int) (x0 : ByteArray) : runF tab ext43 false 46 [] 2000 [] tys43 Tryd.f43.results [true, true, false, true, true, true] (cutAt b43 4) (E43_4 v18 x0) (L43_4 v18 x0) = some ([Dyn.mk Ty.bool Bool.false], [], [Decidable.decide (v18 < (↑(List.length (bytesOf x0)) : Int)) = Bool.true, 0 ≤ v18, v18 < (↑(List.length (bytesOf x0)) : Int), Decidable.decide (List.getD (bytesOf x0) (Int.toNat v18) 0 ≥ 97) = Bool.true, Decidable.decide (List.getD (bytesOf x0) (Int.toNat v18) 0 ≥ 48) = Bool.false, (!Decidable.decide (List.getD (bytesOf x0) (Int.toNat v18) 0 ≤ 122)) = Bool.true, (v18 == 0) = Bool.true, Bool.true = Bool.true]) := by kernel_rfl
theorem p43_8 (v18 : Int) (x0 : ByteArray) : runF tab ext43 false 46 [] 2000 [] tys43 Tryd.f43.results [true, true, false, true, false, true] (cutAt b43 4) (E43_4 v18 x0) (L43_4 v18 x0) = some ([Dyn.mk Ty.bool Bool.false], [], [Decidable.decide (v18 < (↑(List.length (bytesOf x0)) : Int)) = Bool.true, 0 ≤ v18, v18 < (↑(List.length (bytesOf x0)) : Int), Decidable.decide (List.getD (bytesOf x0) (Int.toNat v18) 0 ≥ 97) = Bool.true, Decidable.decide (List.getD (bytesOf x0) (Int.toNat v18) 0 ≥ 48) = Bool.false, (!Decidable.decide (List.getD (bytesOf x0) (Int.toNat v18) 0 ≤ 122)) = Bool.true, (v18 == 0) = Bool.false, Bool.true = Bool.true]) := by kernel_rfl
theorem p43_9 (v18 : Int) (x0 : ByteArray) : Am.runN tab ext43 false 46 [] 2000 [] [] [16, 17, 18] [0] [true, true, false, false, false] (cutAt b43 4) (E43_4 v18 x0) (L43_4 v18 x0) = some (cutAt b43 4, E43_4 (v18 + 1) (x0), L43_4 (v18 + 1) (x0), [Decidable.decide (v18 < (↑(List.length (bytesOf x0)) : Int)) = Bool.true, 0 ≤ v18, v18 < (↑(List.length (bytesOf x0)) : Int), Decidable.decide (List.getD (bytesOf x0) (Int.toNat v18) 0 ≥ 97) = Bool.true, Decidable.decide (List.getD (bytesOf x0) (Int.toNat v18) 0 ≥ 48) = Bool.false, (!Decidable.decide (List.getD (bytesOf x0) (Int.toNat v18) 0 ≤ 122)) = Bool.false, Bool.false = Bool.false, InR IntKind.i64 (v18 + 1)]) := by kernel_rfl
theorem p43_10 (v18 : Int) (x0 : ByteArray) : runF tab ext43 false 46 [] 2000 [] tys43 Tryd.f43.results [true, false, true, true, true, true] (cutAt b43 4) (E43_4 v18 x0) (L43_4 v18 x0) = some ([Dyn.mk Ty.bool Bool.false], [], [Decidable.decide (v18 < (↑(List.length (bytesOf x0)) : Int)) = Bool.true, 0 ≤ v18, v18 < (↑(List.length (bytesOf x0)) : Int), Decidable.decide (List.getD (bytesOf x0) (Int.toNat v18) 0 ≥ 97) = Bool.false, Decidable.decide (List.getD (bytesOf x0) (Int.toNat v18) 0 ≥ 48) = Bool.true, Bool.true = Bool.true, (v18 == 0) = Bool.true, Bool.true = Bool.true]) := by kernel_rfl
theorem p43_11 (v18 : Int) (x0 : ByteArray) : runF tab ext43 false 46 [] 2000 [] tys43 Tryd.f43.results [true, false, true, true, false, true] (cutAt b43 4) (E43_4 v18 x0) (L43_4 v18 x0) = some ([Dyn.mk Ty.bool Bool.false], [], [Decidable.decide (v18 < (↑(List.length (bytesOf x0)) : Int)) = Bool.true, 0 ≤ v18, v18 < (↑(List.length (bytesOf x0)) : Int), Decidable.decide (List.getD (bytesOf x0) (Int.toNat v18) 0 ≥ 97) = Bool.false, Decidable.decide (List.getD (bytesOf x0) (Int.toNat v18) 0 ≥ 48) = Bool.true, Bool.true = Bool.true, (v18 == 0) = Bool.false, (!Decidable.decide (List.getD (bytesOf x0) (Int.toNat v18) 0 ≤ 57)) = Bool.true]) := by kernel_rfl
theorem p43_12 (v18 : Int) (x0 : ByteArray) : Am.runN tab ext43 false 46 [] 2000 [] [] [16, 17, 18] [0] [true, false, true, true, false, false] (cutAt b43 4) (E43_4 v18 x0) (L43_4 v18 x0) = some (cutAt b43 4, E43_4 (v18 + 1) (x0), L43_4 (v18 + 1) (x0), [Decidable.decide (v18 < (↑(List.length (bytesOf x0)) : Int)) = Bool.true, 0 ≤ v18, v18 < (↑(List.length (bytesOf x0)) : Int), Decidable.decide (List.getD (bytesOf x0) (Int.toNat v18) 0 ≥ 97) = Bool.false, Decidable.decide (List.getD (bytesOf x0) (Int.toNat v18) 0 ≥ 48) = Bool.true, Bool.true = Bool.true, (v18 == 0) = Bool.false, (!Decidable.decide (List.getD (bytesOf x0) (Int.toNat v18) 0 ≤ 57)) = Bool.false, InR IntKind.i64 (v18 + 1)]) := by kernel_rfl
theorem p43_13 (v18 : Int) (x0 : ByteArray) : runF tab ext43 false 46 [] 2000 [] tys43 Tryd.f43.results [true, false, false, true, true, true] (cutAt b43 4) (E43_4 v18 x0) (L43_4 v18 x0) = some ([Dyn.mk Ty.bool Bool.false], [], [Decidable.decide (v18 < (↑(List.length (bytesOf x0)) : Int)) = Bool.true, 0 ≤ v18, v18 < (↑(List.length (bytesOf x0)) : Int), Decidable.decide (List.getD (bytesOf x0) (Int.toNat v18) 0 ≥ 97) = Bool.false, Decidable.decide (List.getD (bytesOf x0) (Int.toNat v18) 0 ≥ 48) = Bool.false, Bool.true = Bool.true, (v18 == 0) = Bool.true, Bool.true = Bool.true]) := by kernel_rfl
theorem p43_14 (v18 : Int) (x0 : ByteArray) : runF tab ext43 false 46 [] 2000 [] tys43 Tryd.f43.results [true, false, false, true, false, true] (cutAt b43 4) (E43_4 v18 x0) (L43_4 v18 x0) = some ([Dyn.mk Ty.bool Bool.false], [], [Decidable.decide (v18 < (↑(List.length (bytesOf x0)) : Int)) = Bool.true, 0 ≤ v18, v18 < (↑(List.length (bytesOf x0)) : Int), Decidable.decide (List.getD (bytesOf x0) (Int.toNat v18) 0 ≥ 97) = Bool.false, Decidable.decide (List.getD (bytesOf x0) (Int.toNat v18) 0 ≥ 48) = Bool.false, Bool.true = Bool.true, (v18 == 0) = Bool.false, Bool.true = Bool.true]) := by kernel_rfl
theorem p43_15 (v18 : Int) (x0 : ByteArray) : runF tab ext43 false 46 [] 2000 [] tys43 Tryd.f43.results [false] (cutAt b43 4) (E43_4 v18 x0) (L43_4 v18 x0) = some ([Dyn.mk Ty.bool Bool.true], [], [Decidable.decide (v18 < (↑(List.length (bytesOf x0)) : Int)) = Bool.false]) := by kernel_rfl
theorem snd43 : ∀ n, (∀ (x0 : ByteArray) ds, R43 n x0 ds → ∀ w0 O q, AtV Tryd.prog 43 (PostR ds [] [] q w0 O) 46 w0 O q [] [.code b43] (entE 0 0 sig43 (x0, ())) (entL sig43 (x0, ()))) ∧ (∀ (v18 : Int) (x0 : ByteArray) ds, R43_4 n v18 x0 ds → ∀ w0 O q, AtV Tryd.prog 43 (PostR ds [] [] q w0 O) 46 w0 O q [] (cutAt b43 4) (E43_4 v18 x0) (L43_4 v18 x0)) := by
  intro n
  induction n with
  | zero => exact ⟨fun _ _ h => by simp only [R43] at h, fun _ _ _ h => by simp only [R43_4] at h⟩
  | succ n ih =>
  obtain ⟨ih, ih4⟩ := ih
  refine ⟨?_, ?_⟩
  · intro x0 ds h w0 O q
    rw [R43] at h
    by_cases b0 : (Decidable.decide ((↑(ByteArray.size x0) : Int) < 1)) = true
    · rw [if_pos b0] at h
      subst h
      exact AtV.fin Tryd.func43 tabOk ext43Ok mixed (p43_0 x0) ⟨b0, rfl, trivial⟩
    · rw [if_neg b0] at h
      replace b0 := Bool.eq_false_iff.2 b0
      by_cases b1 : (Decidable.decide ((↑(ByteArray.size x0) : Int) > 10)) = true
      · rw [if_pos b1] at h
        subst h
        exact AtV.fin Tryd.func43 tabOk ext43Ok mixed (p43_1 x0) ⟨b0, b1, trivial⟩
      · rw [if_neg b1] at h
        replace b1 := Bool.eq_false_iff.2 b1
        exact AtV.runN tabOk ext43Ok mixed (p43_2 x0) ⟨b0, b1, trivial⟩ (ih4 _ _ _ h w0 O q)

  · intro v18 x0 ds h w0 O q
    rw [R43_4] at h
    by_cases b0 : (Decidable.decide (v18 < (↑(List.length (bytesOf x0)) : Int))) = true
    · rw [if_pos b0] at h
      obtain ⟨s0, s1, h⟩ := h
      by_cases b1 : (Decidable.decide (List.getD (bytesOf x0) (Int.toNat v18) 0 ≥ 97)) = true
      · rw [if_pos b1] at h
        by_cases b2 : (Decidable.decide (List.getD (bytesOf x0) (Int.toNat v18) 0 ≥ 48)) = true
        · rw [if_pos b2] at h
          by_cases b3 : (!Decidable.decide (List.getD (bytesOf x0) (Int.toNat v18) 0 ≤ 122)) = true
          · rw [if_pos b3] at h
            by_cases b4 : (v18 == 0) = true
            · rw [if_pos b4] at h
              subst h
              exact AtV.fin Tryd.func43 tabOk ext43Ok mixed (p43_3 v18 x0) ⟨b0, s0, s1, b1, b2, b3, b4, rfl, trivial⟩
            · rw [if_neg b4] at h
              replace b4 := Bool.eq_false_iff.2 b4
              by_cases b5 : (!Decidable.decide (List.getD (bytesOf x0) (Int.toNat v18) 0 ≤ 57)) = true
              · rw [if_pos b5] at h
                subst h
                exact AtV.fin Tryd.func43 tabOk ext43Ok mixed (p43_4 v18 x0) ⟨b0, s0, s1, b1, b2, b3, b4, b5, trivial⟩
              · rw [if_neg b5] at h
                replace b5 := Bool.eq_false_iff.2 b5
                obtain ⟨s2, h⟩ := h
                exact AtV.runN tabOk ext43Ok mixed (p43_5 v18 x0) ⟨b0, s0, s1, b1, b2, b3, b4, b5, s2, trivial⟩ (ih4 _ _ _ h w0 O q)
          · rw [if_neg b3] at h
            replace b3 := Bool.eq_false_iff.2 b3
            obtain ⟨s2, h⟩ := h
            exact AtV.runN tabOk ext43Ok mixed (p43_6 v18 x0) ⟨b0, s0, s1, b1, b2, b3, rfl, s2, trivial⟩ (ih4 _ _ _ h w0 O q)
        · rw [if_neg b2] at h
          replace b2 := Bool.eq_false_iff.2 b2
          by_cases b3 : (!Decidable.decide (List.getD (bytesOf x0) (Int.toNat v18) 0 ≤ 122)) = true
          · rw [if_pos b3] at h
            by_cases b4 : (v18 == 0) = true
            · rw [if_pos b4] at h
              subst h
              exact AtV.fin Tryd.func43 tabOk ext43Ok mixed (p43_7 v18 x0) ⟨b0, s0, s1, b1, b2, b3, b4, rfl, trivial⟩
            · rw [if_neg b4] at h
              replace b4 := Bool.eq_false_iff.2 b4
              subst h
              exact AtV.fin Tryd.func43 tabOk ext43Ok mixed (p43_8 v18 x0) ⟨b0, s0, s1, b1, b2, b3, b4, rfl, trivial⟩
          · rw [if_neg b3] at h
            replace b3 := Bool.eq_false_iff.2 b3
            obtain ⟨s2, h⟩ := h
            exact AtV.runN tabOk ext43Ok mixed (p43_9 v18 x0) ⟨b0, s0, s1, b1, b2, b3, rfl, s2, trivial⟩ (ih4 _ _ _ h w0 O q)
      · rw [if_neg b1] at h
        replace b1 := Bool.eq_false_iff.2 b1
        by_cases b2 : (Decidable.decide (List.getD (bytesOf x0) (Int.toNat v18) 0 ≥ 48)) = true
        · rw [if_pos b2] at h
          by_cases b3 : (v18 == 0) = true
          · rw [if_pos b3] at h
            subst h
            exact AtV.fin Tryd.func43 tabOk ext43Ok mixed (p43_10 v18 x0) ⟨b0, s0, s1, b1, b2, rfl, b3, rfl, trivial⟩
          · rw [if_neg b3] at h
            replace b3 := Bool.eq_false_iff.2 b3
            by_cases b4 : (!Decidable.decide (List.getD (bytesOf x0) (Int.toNat v18) 0 ≤ 57)) = true
            · rw [if_pos b4] at h
              subst h
              exact AtV.fin Tryd.func43 tabOk ext43Ok mixed (p43_11 v18 x0) ⟨b0, s0, s1, b1, b2, rfl, b3, b4, trivial⟩
            · rw [if_neg b4] at h
              replace b4 := Bool.eq_false_iff.2 b4
              obtain ⟨s2, h⟩ := h
              exact AtV.runN tabOk ext43Ok mixed (p43_12 v18 x0) ⟨b0, s0, s1, b1, b2, rfl, b3, b4, s2, trivial⟩ (ih4 _ _ _ h w0 O q)
        · rw [if_neg b2] at h
          replace b2 := Bool.eq_false_iff.2 b2
          by_cases b3 : (v18 == 0) = true
          · rw [if_pos b3] at h
            subst h
            exact AtV.fin Tryd.func43 tabOk ext43Ok mixed (p43_13 v18 x0) ⟨b0, s0, s1, b1, b2, rfl, b3, rfl, trivial⟩
          · rw [if_neg b3] at h
            replace b3 := Bool.eq_false_iff.2 b3
            subst h
            exact AtV.fin Tryd.func43 tabOk ext43Ok mixed (p43_14 v18 x0) ⟨b0, s0, s1, b1, b2, rfl, b3, rfl, trivial⟩
    · rw [if_neg b0] at h
      replace b0 := Bool.eq_false_iff.2 b0
      subst h
      exact AtV.fin Tryd.func43 tabOk ext43Ok mixed (p43_15 v18 x0) ⟨b0, trivial⟩



/-- A byte of a name, at its place. -/
def ok43 (i : Nat) (b : Int) : Bool := (decide (97 ≤ b) && decide (b ≤ 122)) || (!(i == 0) && (decide (48 ≤ b) && decide (b ≤ 57)))
def g43_0 (x0 : ByteArray) : Bool := decide (1 ≤ x0.size) && decide (x0.size ≤ 10) && allI ok43 0 (bytesOf x0)
def P43 (x0 : ByteArray) : Prop := True

theorem step43 (n i : Nat) (x0 : ByteArray) (hw : Wf .str x0) (hi : i < (bytesOf x0).length) (ds : List Dyn) :
    R43_4 (n + 1) (i : Int) x0 ds ↔ (if ok43 i ((bytesOf x0).getD i 0) = true then R43_4 n ((i : Int) + 1) x0 ds else ds = [⟨.bool, false⟩]) := by
  have hu := inR_up (xs := bytesOf x0) (by rw [bytesOf_length]; exact hw) hi
  rw [R43_4, if_pos (by simp; omega)]
  simp only [Int.toNat_natCast]
  have hb : (0 : Int) ≤ (i : Int) ∧ (i : Int) < ((bytesOf x0).length : Int) := by omega
  have hz : ((i : Int) == 0) = (i == 0) := by
    cases i with
    | zero => rfl
    | succ k => simp; omega
  simp only [hz, ok43, hu, true_and, hb.1, hb.2, ge_iff_le]
  by_cases h1 : (97 : Int) ≤ (bytesOf x0).getD i 0 <;> by_cases h2 : (bytesOf x0).getD i 0 ≤ 122 <;> by_cases h3 : (48 : Int) ≤ (bytesOf x0).getD i 0 <;> by_cases h4 : (bytesOf x0).getD i 0 ≤ 57 <;> rcases Bool.eq_false_or_eq_true (i == 0) with e0 | e0 <;> first | (exfalso; omega) | simp only [h1, h2, h3, h4, e0, decide_true, decide_false, Bool.not_true, Bool.not_false, Bool.true_and, Bool.false_and, Bool.and_true, Bool.and_false, Bool.true_or, Bool.or_true, Bool.or_false, Bool.false_or, if_true, if_false, Bool.false_eq_true]

theorem top43 (x0 : ByteArray) (hw : Wf .str x0) : R43 (x0.size + 1 + 1) x0 [⟨.bool, g43_0 x0⟩] := by
  have hl := bytesOf_length x0
  rw [R43]
  by_cases h0 : (x0.size : Int) < 1
  · rw [if_pos (by simpa using h0)]
    have : ¬ 1 ≤ x0.size := by omega
    simp [g43_0, this]
  · rw [if_neg (by simpa using h0)]
    by_cases h1 : (x0.size : Int) > 10
    · rw [if_pos (by simpa using h1)]
      have : ¬ x0.size ≤ 10 := by omega
      simp [g43_0, this]
    · rw [if_neg (by simpa using h1)]
      have key := loop_testI (bytesOf x0) 0 ok43 [(⟨.bool, false⟩ : Dyn)] [⟨.bool, true⟩] (fun n i ds => R43_4 n i x0 ds) (fun n => ?_) (fun n i hi hok ds hr => ?_) (fun n i hi hok => ?_)
      · rw [hl] at key
        have e : g43_0 x0 = allI ok43 0 (bytesOf x0) := by
          have a : 1 ≤ x0.size := by omega
          have b : x0.size ≤ 10 := by omega
          simp [g43_0, a, b]
        rw [e]
        cases h : allI ok43 0 (bytesOf x0) with
        | true => rw [if_pos h] at key; exact key
        | false => rw [if_neg (by rw [h]; simp)] at key; exact key
      · show R43_4 (n + 1) ((bytesOf x0).length : Int) x0 _
        rw [R43_4, if_neg (by simp)]
      · exact (step43 n i x0 hw hi ds).2 (by rw [if_pos hok]; exact hr)
      · exact (step43 n i x0 hw hi _).2 (by rw [if_neg (by rw [hok]; simp)])

def S43 : Am.Spec := { sig := sig43, pre := fun ⟨x0, _⟩ => P43 x0, res := fun ⟨x0, _⟩ => [⟨Ty.bool, g43_0 x0⟩] }
theorem con43 : Contract Tryd.prog 43 S43 := contract_of Tryd.func43 hb43 (Nat.le_of_ble_eq_true (by kernel_rfl)) (fun ⟨x0, _⟩ h hwf w0 O q =>
  (snd43 _).1 x0 _ (top43 x0 hwf.1) w0 O q)

end Go.Proofs.YteaocgmbhkclcaaDoor

/- Function 36 (impl.isDay): its runs between cut points. Written by a program of this repo (gen). -/
set_option linter.unusedVariables false
set_option linter.unusedSimpArgs false
set_option maxRecDepth 100000
namespace Go.Proofs.YteaocgmbhkclcaaDoor
open Go Go.Am Go.Proofs
def ext36 : Ext := [(33, S33)]
theorem call36_33 : Callable Tryd.prog 33 := ⟨Tryd.f33, Tryd.func33, by kernel_rfl, by kernel_rfl⟩
theorem ext36Ok : ExtOk Tryd.prog ext36 := ⟨⟨call36_33, con33⟩, trivial⟩
/-! Function 36. -/
noncomputable def b36 : Code := bodyOf Tryd.f36
theorem hb36 : Tryd.f36.body = some b36 := by kernel_rfl
def sig36 : List AT := [AT.v (Ty.int IntKind.i64)]
def tys36 : List Ty := [Ty.bool]
def P36 (x0 : Int) : Prop := True
def g36_0 (x0 : Int) : Bool := g33_0 x0 0 36524
theorem p36_0 (x0 : Int) : runF tab ext36 false 5 [] 2000 [] tys36 Tryd.f36.results [] [.code b36] (entE 0 0 sig36 (x0, ())) (entL sig36 (x0, ())) = some ([Dyn.mk Ty.bool (g33_0 x0 0 36524)], [], [True]) := by kernel_rfl
theorem at36 (x0 : Int) (h : P36 x0) (w0 : World) (O : List Nat) (q : Nat → Value) : AtV Tryd.prog 36 (PostR [⟨Ty.bool, g36_0 x0⟩] [] [] q w0 O) 5 w0 O q [] [.code b36] (entE 0 0 sig36 (x0, ())) (entL sig36 (x0, ())) := by
  unfold P36 at h
  unfold g36_0
  exact AtV.fin Tryd.func36 tabOk ext36Ok mixed (p36_0 x0) ⟨trivial, trivial⟩

def S36 : Am.Spec := { sig := sig36, pre := fun ⟨x0, _⟩ => P36 x0, res := fun ⟨x0, _⟩ => [⟨Ty.bool, g36_0 x0⟩] }
theorem con36 : Contract Tryd.prog 36 S36 := contract_of Tryd.func36 hb36 (Nat.le_of_ble_eq_true (by kernel_rfl)) (fun ⟨x0, _⟩ h _ w0 O q => at36 x0 h w0 O q)


end Go.Proofs.YteaocgmbhkclcaaDoor

/- Function 23 (impl.isTicket): its runs between cut points. Written by a program of this repo (gen). -/
set_option linter.unusedVariables false
set_option linter.unusedSimpArgs false
set_option maxRecDepth 100000
namespace Go.Proofs.YteaocgmbhkclcaaDoor
open Go Go.Am Go.Proofs
def ext23 : Ext := [(43, S43), (36, S36), (33, S33)]
theorem call23_43 : Callable Tryd.prog 43 := ⟨Tryd.f43, Tryd.func43, by kernel_rfl, by kernel_rfl⟩
theorem call23_36 : Callable Tryd.prog 36 := ⟨Tryd.f36, Tryd.func36, by kernel_rfl, by kernel_rfl⟩
theorem call23_33 : Callable Tryd.prog 33 := ⟨Tryd.f33, Tryd.func33, by kernel_rfl, by kernel_rfl⟩
theorem ext23Ok : ExtOk Tryd.prog ext23 := ⟨⟨call23_43, con43⟩, ⟨call23_36, con36⟩, ⟨call23_33, con33⟩, trivial⟩
/-! Function 23. -/
noncomputable def b23 : Code := bodyOf Tryd.f23
theorem hb23 : Tryd.f23.body = some b23 := by kernel_rfl
def sig23 : List AT := [AT.v (Ty.cons Ty.str (Ty.cons (Ty.int IntKind.i64) (Ty.cons (Ty.int IntKind.i64) Ty.unit)))]
def tys23 : List Ty := [Ty.bool]
def P23 (x0 : ByteArray × Int × Int × Unit) : Prop := True
def g23_0 (x0 : ByteArray × Int × Int × Unit) : Bool := (if (g43_0 (Prod.fst x0)) = true then (if (g36_0 (Prod.fst (Prod.snd x0))) = true then g33_0 (Prod.fst (Prod.snd (Prod.snd x0))) 0 1000 else Bool.false) else Bool.false)
theorem p23_0 (x0 : ByteArray × Int × Int × Unit) : runF tab ext23 false 16 [] 2000 [] tys23 Tryd.f23.results [true, true] [.code b23] (entE 0 0 sig23 (x0, ())) (entL sig23 (x0, ())) = some ([Dyn.mk Ty.bool (g33_0 (Prod.fst (Prod.snd (Prod.snd x0))) 0 1000)], [], [True, g43_0 (Prod.fst x0) = Bool.true, True, g36_0 (Prod.fst (Prod.snd x0)) = Bool.true, True]) := by kernel_rfl
theorem p23_1 (x0 : ByteArray × Int × Int × Unit) : runF tab ext23 false 16 [] 2000 [] tys23 Tryd.f23.results [true, false] [.code b23] (entE 0 0 sig23 (x0, ())) (entL sig23 (x0, ())) = some ([Dyn.mk Ty.bool Bool.false], [], [True, g43_0 (Prod.fst x0) = Bool.true, True, g36_0 (Prod.fst (Prod.snd x0)) = Bool.false]) := by kernel_rfl
theorem p23_2 (x0 : ByteArray × Int × Int × Unit) : runF tab ext23 false 16 [] 2000 [] tys23 Tryd.f23.results [false, false] [.code b23] (entE 0 0 sig23 (x0, ())) (entL sig23 (x0, ())) = some ([Dyn.mk Ty.bool Bool.false], [], [True, g43_0 (Prod.fst x0) = Bool.false, Bool.false = Bool.false]) := by kernel_rfl
theorem at23 (x0 : ByteArray × Int × Int × Unit) (h : P23 x0) (w0 : World) (O : List Nat) (q : Nat → Value) : AtV Tryd.prog 23 (PostR [⟨Ty.bool, g23_0 x0⟩] [] [] q w0 O) 16 w0 O q [] [.code b23] (entE 0 0 sig23 (x0, ())) (entL sig23 (x0, ())) := by
  unfold P23 at h
  unfold g23_0
  by_cases b0 : (g43_0 (Prod.fst x0)) = true
  · try simp only [if_pos b0] at h ⊢
    by_cases b1 : (g36_0 (Prod.fst (Prod.snd x0))) = true
    · try simp only [if_pos b1] at h ⊢
      exact AtV.fin Tryd.func23 tabOk ext23Ok mixed (p23_0 x0) ⟨trivial, b0, trivial, b1, trivial, trivial⟩
    · try simp only [if_neg b1] at h ⊢
      replace b1 := Bool.eq_false_iff.2 b1
      exact AtV.fin Tryd.func23 tabOk ext23Ok mixed (p23_1 x0) ⟨trivial, b0, trivial, b1, trivial⟩
  · try simp only [if_neg b0] at h ⊢
    replace b0 := Bool.eq_false_iff.2 b0
    exact AtV.fin Tryd.func23 tabOk ext23Ok mixed (p23_2 x0) ⟨trivial, b0, rfl, trivial⟩

def S23 : Am.Spec := { sig := sig23, pre := fun ⟨x0, _⟩ => P23 x0, res := fun ⟨x0, _⟩ => [⟨Ty.bool, g23_0 x0⟩] }
theorem con23 : Contract Tryd.prog 23 S23 := contract_of Tryd.func23 hb23 (Nat.le_of_ble_eq_true (by kernel_rfl)) (fun ⟨x0, _⟩ h _ w0 O q => at23 x0 h w0 O q)


end Go.Proofs.YteaocgmbhkclcaaDoor

/- Function 34 (impl.monthLength): its runs between cut points. Written by a program of this repo (gen). -/
set_option linter.unusedVariables false
set_option linter.unusedSimpArgs false
set_option maxRecDepth 100000
namespace Go.Proofs.YteaocgmbhkclcaaDoor
open Go Go.Am Go.Proofs
def ext34 : Ext := []
theorem ext34Ok : ExtOk Tryd.prog ext34 := trivial
/-! Function 34. -/
noncomputable def b34 : Code := bodyOf Tryd.f34
theorem hb34 : Tryd.f34.body = some b34 := by kernel_rfl
def sig34 : List AT := [AT.v (Ty.int IntKind.i64), AT.v (Ty.int IntKind.i64)]
def tys34 : List Ty := [Ty.int IntKind.i64]
def P34 (x0 : Int) (x1 : Int) : Prop := (if (x1 == 2) = true then ((InR IntKind.i64 (Int.tmod x0 4)) ∧ True) else True)
def g34_0 (x0 : Int) (x1 : Int) : Int := (if (x1 == 2) = true then (if (Int.tmod x0 4 == 0) = true then 29 else 28) else (if (x1 == 4) = true then 30 else (if (x1 == 6) = true then 30 else (if (x1 == 9) = true then 30 else (if (x1 == 11) = true then 30 else 31)))))
theorem p34_0 (x0 : Int) (x1 : Int) : runF tab ext34 false 16 [] 2000 [] tys34 Tryd.f34.results [true, true] [.code b34] (entE 0 0 sig34 (x0, x1, ())) (entL sig34 (x0, x1, ())) = some ([Dyn.mk (Ty.int IntKind.i64) 29], [], [(x1 == 2) = Bool.true, (4 : Int) ≠ (0 : Int), InR IntKind.i64 (Int.tmod x0 4), (Int.tmod x0 4 == 0) = Bool.true]) := by kernel_rfl
theorem p34_1 (x0 : Int) (x1 : Int) : runF tab ext34 false 16 [] 2000 [] tys34 Tryd.f34.results [true, false] [.code b34] (entE 0 0 sig34 (x0, x1, ())) (entL sig34 (x0, x1, ())) = some ([Dyn.mk (Ty.int IntKind.i64) 28], [], [(x1 == 2) = Bool.true, (4 : Int) ≠ (0 : Int), InR IntKind.i64 (Int.tmod x0 4), (Int.tmod x0 4 == 0) = Bool.false]) := by kernel_rfl
theorem p34_2 (x0 : Int) (x1 : Int) : runF tab ext34 false 16 [] 2000 [] tys34 Tryd.f34.results [false, true] [.code b34] (entE 0 0 sig34 (x0, x1, ())) (entL sig34 (x0, x1, ())) = some ([Dyn.mk (Ty.int IntKind.i64) 30], [], [(x1 == 2) = Bool.false, (x1 == 4) = Bool.true]) := by kernel_rfl
theorem p34_3 (x0 : Int) (x1 : Int) : runF tab ext34 false 16 [] 2000 [] tys34 Tryd.f34.results [false, false, true] [.code b34] (entE 0 0 sig34 (x0, x1, ())) (entL sig34 (x0, x1, ())) = some ([Dyn.mk (Ty.int IntKind.i64) 30], [], [(x1 == 2) = Bool.false, (x1 == 4) = Bool.false, (x1 == 6) = Bool.true]) := by kernel_rfl
theorem p34_4 (x0 : Int) (x1 : Int) : runF tab ext34 false 16 [] 2000 [] tys34 Tryd.f34.results [false, false, false, true] [.code b34] (entE 0 0 sig34 (x0, x1, ())) (entL sig34 (x0, x1, ())) = some ([Dyn.mk (Ty.int IntKind.i64) 30], [], [(x1 == 2) = Bool.false, (x1 == 4) = Bool.false, (x1 == 6) = Bool.false, (x1 == 9) = Bool.true]) := by kernel_rfl
theorem p34_5 (x0 : Int) (x1 : Int) : runF tab ext34 false 16 [] 2000 [] tys34 Tryd.f34.results [false, false, false, false, true] [.code b34] (entE 0 0 sig34 (x0, x1, ())) (entL sig34 (x0, x1, ())) = some ([Dyn.mk (Ty.int IntKind.i64) 30], [], [(x1 == 2) = Bool.false, (x1 == 4) = Bool.false, (x1 == 6) = Bool.false, (x1 == 9) = Bool.false, (x1 == 11) = Bool.true]) := by kernel_rfl
theorem p34_6 (x0 : Int) (x1 : Int) : runF tab ext34 false 16 [] 2000 [] tys34 Tryd.f34.results [false, false, false, false, false] [.code b34] (entE 0 0 sig34 (x0, x1, ())) (entL sig34 (x0, x1, ())) = some ([Dyn.mk (Ty.int IntKind.i64) 31], [], [(x1 == 2) = Bool.false, (x1 == 4) = Bool.false, (x1 == 6) = Bool.false, (x1 == 9) = Bool.false, (x1 == 11) = Bool.false]) := by kernel_rfl
theorem at34 (x0 : Int) (x1 : Int) (h : P34 x0 x1) (w0 : World) (O : List Nat) (q : Nat → Value) : AtV Tryd.prog 34 (PostR [⟨Ty.int IntKind.i64, g34_0 x0 x1⟩] [] [] q w0 O) 16 w0 O q [] [.code b34] (entE 0 0 sig34 (x0, x1, ())) (entL sig34 (x0, x1, ())) := by
  unfold P34 at h
  unfold g34_0
  by_cases b0 : (x1 == 2) = true
  · try simp only [if_pos b0] at h ⊢
    obtain ⟨s0, h⟩ := h
    by_cases b1 : (Int.tmod x0 4 == 0) = true
    · try simp only [if_pos b1] at h ⊢
      exact AtV.fin Tryd.func34 tabOk ext34Ok mixed (p34_0 x0 x1) ⟨b0, (by decide), s0, b1, trivial⟩
    · try simp only [if_neg b1] at h ⊢
      replace b1 := Bool.eq_false_iff.2 b1
      exact AtV.fin Tryd.func34 tabOk ext34Ok mixed (p34_1 x0 x1) ⟨b0, (by decide), s0, b1, trivial⟩
  · try simp only [if_neg b0] at h ⊢
    replace b0 := Bool.eq_false_iff.2 b0
    by_cases b1 : (x1 == 4) = true
    · try simp only [if_pos b1] at h ⊢
      exact AtV.fin Tryd.func34 tabOk ext34Ok mixed (p34_2 x0 x1) ⟨b0, b1, trivial⟩
    · try simp only [if_neg b1] at h ⊢
      replace b1 := Bool.eq_false_iff.2 b1
      by_cases b2 : (x1 == 6) = true
      · try simp only [if_pos b2] at h ⊢
        exact AtV.fin Tryd.func34 tabOk ext34Ok mixed (p34_3 x0 x1) ⟨b0, b1, b2, trivial⟩
      · try simp only [if_neg b2] at h ⊢
        replace b2 := Bool.eq_false_iff.2 b2
        by_cases b3 : (x1 == 9) = true
        · try simp only [if_pos b3] at h ⊢
          exact AtV.fin Tryd.func34 tabOk ext34Ok mixed (p34_4 x0 x1) ⟨b0, b1, b2, b3, trivial⟩
        · try simp only [if_neg b3] at h ⊢
          replace b3 := Bool.eq_false_iff.2 b3
          by_cases b4 : (x1 == 11) = true
          · try simp only [if_pos b4] at h ⊢
            exact AtV.fin Tryd.func34 tabOk ext34Ok mixed (p34_5 x0 x1) ⟨b0, b1, b2, b3, b4, trivial⟩
          · try simp only [if_neg b4] at h ⊢
            replace b4 := Bool.eq_false_iff.2 b4
            exact AtV.fin Tryd.func34 tabOk ext34Ok mixed (p34_6 x0 x1) ⟨b0, b1, b2, b3, b4, trivial⟩

def S34 : Am.Spec := { sig := sig34, pre := fun ⟨x0, x1, _⟩ => P34 x0 x1, res := fun ⟨x0, x1, _⟩ => [⟨Ty.int IntKind.i64, g34_0 x0 x1⟩] }
theorem con34 : Contract Tryd.prog 34 S34 := contract_of Tryd.func34 hb34 (Nat.le_of_ble_eq_true (by kernel_rfl)) (fun ⟨x0, x1, _⟩ h _ w0 O q => at34 x0 x1 h w0 O q)


end Go.Proofs.YteaocgmbhkclcaaDoor

/- Function 35 (impl.dayOf): its runs between cut points. Written by a program of this repo (gen). -/
set_option linter.unusedVariables false
set_option linter.unusedSimpArgs false
set_option maxRecDepth 100000
namespace Go.Proofs.YteaocgmbhkclcaaDoor
open Go Go.Am Go.Proofs
def ext35 : Ext := [(34, S34)]
theorem call35_34 : Callable Tryd.prog 34 := ⟨Tryd.f34, Tryd.func34, by kernel_rfl, by kernel_rfl⟩
theorem ext35Ok : ExtOk Tryd.prog ext35 := ⟨⟨call35_34, con34⟩, trivial⟩
/-! Function 35. -/
noncomputable def b35 : Code := bodyOf Tryd.f35
theorem hb35 : Tryd.f35.body = some b35 := by kernel_rfl
def sig35 : List AT := [AT.v (Ty.int IntKind.i64), AT.v (Ty.int IntKind.i64), AT.v (Ty.int IntKind.i64)]
def tys35 : List Ty := [Ty.int IntKind.i64]
def E35_3 (v7 : Int) (v8 : Int) (x0 : Int) (x1 : Int) : Env := [(0, PV.a (Atom.val (Value.int IntKind.i64 x0))), (1, PV.a (Atom.val (Value.int IntKind.i64 x1))), (7, PV.a (Atom.val (Value.int IntKind.i64 v7))), (8, PV.a (Atom.val (Value.int IntKind.i64 v8)))]
def L35_3 (v7 : Int) (v8 : Int) (x0 : Int) (x1 : Int) : Heap := []
mutual
def R35 : Nat → Int → Int → Int → List Dyn → Prop
  | 0, _, _, _, _ => False
  | n + 1, x0, x1, x2, ds => ((InR IntKind.i64 (x0 - 2000)) ∧ ((InR IntKind.i64 ((x0 - 2000) * 365)) ∧ ((InR IntKind.i64 (x0 - 1997)) ∧ ((InR IntKind.i64 (Int.tdiv (x0 - 1997) 4)) ∧ ((InR IntKind.i64 ((x0 - 2000) * 365 + Int.tdiv (x0 - 1997) 4)) ∧ ((InR IntKind.i64 ((x0 - 2000) * 365 + Int.tdiv (x0 - 1997) 4 + x2)) ∧ ((InR IntKind.i64 ((x0 - 2000) * 365 + Int.tdiv (x0 - 1997) 4 + x2 - 1)) ∧ (R35_3 n ((x0 - 2000) * 365 + Int.tdiv (x0 - 1997) 4 + x2 - 1) (1) (x0) (x1) ds))))))))
def R35_3 : Nat → Int → Int → Int → Int → List Dyn → Prop
  | 0, _, _, _, _, _ => False
  | n + 1, v7, v8, x0, x1, ds => (if (Decidable.decide (v8 < x1)) = true then ((P34 x0 v8) ∧ ((InR IntKind.i64 (v7 + g34_0 x0 v8)) ∧ ((InR IntKind.i64 (v8 + 1)) ∧ (R35_3 n (v7 + g34_0 x0 v8) (v8 + 1) (x0) (x1) ds)))) else (ds = [Dyn.mk (Ty.int IntKind.i64) v7]))
end
theorem p35_0 (x0 : Int) (x1 : Int) (x2 : Int) : Am.runN tab ext35 false 30 [] 2000 [] [] [0, 1, 7, 8] [] [] [.code b35] (entE 0 0 sig35 (x0, x1, x2, ())) (entL sig35 (x0, x1, x2, ())) = some (cutAt b35 3, E35_3 ((x0 - 2000) * 365 + Int.tdiv (x0 - 1997) 4 + x2 - 1) (1) (x0) (x1), L35_3 ((x0 - 2000) * 365 + Int.tdiv (x0 - 1997) 4 + x2 - 1) (1) (x0) (x1), [InR IntKind.i64 (x0 - 2000), InR IntKind.i64 ((x0 - 2000) * 365), InR IntKind.i64 (x0 - 1997), (4 : Int) ≠ (0 : Int), InR IntKind.i64 (Int.tdiv (x0 - 1997) 4), InR IntKind.i64 ((x0 - 2000) * 365 + Int.tdiv (x0 - 1997) 4), InR IntKind.i64 ((x0 - 2000) * 365 + Int.tdiv (x0 - 1997) 4 + x2), InR IntKind.i64 ((x0 - 2000) * 365 + Int.tdiv (x0 - 1997) 4 + x2 - 1)]) := by kernel_rfl
theorem p35_1 (v7 : Int) (v8 : Int) (x0 : Int) (x1 : Int) : Am.runN tab ext35 false 30 [] 2000 [] [] [0, 1, 7, 8] [] [true] (cutAt b35 3) (E35_3 v7 v8 x0 x1) (L35_3 v7 v8 x0 x1) = some (cutAt b35 3, E35_3 (v7 + g34_0 x0 v8) (v8 + 1) (x0) (x1), L35_3 (v7 + g34_0 x0 v8) (v8 + 1) (x0) (x1), [Decidable.decide (v8 < x1) = Bool.true, P34 x0 v8, InR IntKind.i64 (v7 + g34_0 x0 v8), InR IntKind.i64 (v8 + 1)]) := by kernel_rfl
theorem p35_2 (v7 : Int) (v8 : Int) (x0 : Int) (x1 : Int) : runF tab ext35 false 30 [] 2000 [] tys35 Tryd.f35.results [false] (cutAt b35 3) (E35_3 v7 v8 x0 x1) (L35_3 v7 v8 x0 x1) = some ([Dyn.mk (Ty.int IntKind.i64) v7], [], [Decidable.decide (v8 < x1) = Bool.false]) := by kernel_rfl
theorem snd35 : ∀ n, (∀ (x0 : Int) (x1 : Int) (x2 : Int) ds, R35 n x0 x1 x2 ds → ∀ w0 O q, AtV Tryd.prog 35 (PostR ds [] [] q w0 O) 30 w0 O q [] [.code b35] (entE 0 0 sig35 (x0, x1, x2, ())) (entL sig35 (x0, x1, x2, ()))) ∧ (∀ (v7 : Int) (v8 : Int) (x0 : Int) (x1 : Int) ds, R35_3 n v7 v8 x0 x1 ds → ∀ w0 O q, AtV Tryd.prog 35 (PostR ds [] [] q w0 O) 30 w0 O q [] (cutAt b35 3) (E35_3 v7 v8 x0 x1) (L35_3 v7 v8 x0 x1)) := by
  intro n
  induction n with
  | zero => exact ⟨fun _ _ _ _ h => by simp only [R35] at h, fun _ _ _ _ _ h => by simp only [R35_3] at h⟩
  | succ n ih =>
  obtain ⟨ih, ih3⟩ := ih
  refine ⟨?_, ?_⟩
  · intro x0 x1 x2 ds h w0 O q
    rw [R35] at h
    obtain ⟨s0, h⟩ := h
    obtain ⟨s1, h⟩ := h
    obtain ⟨s2, h⟩ := h
    obtain ⟨s3, h⟩ := h
    obtain ⟨s4, h⟩ := h
    obtain ⟨s5, h⟩ := h
    obtain ⟨s6, h⟩ := h
    exact AtV.runN tabOk ext35Ok mixed (p35_0 x0 x1 x2) ⟨s0, s1, s2, (by decide), s3, s4, s5, s6, trivial⟩ (ih3 _ _ _ _ _ h w0 O q)

  · intro v7 v8 x0 x1 ds h w0 O q
    rw [R35_3] at h
    by_cases b0 : (Decidable.decide (v8 < x1)) = true
    · rw [if_pos b0] at h
      obtain ⟨s0, h⟩ := h
      obtain ⟨s1, h⟩ := h
      obtain ⟨s2, h⟩ := h
      exact AtV.runN tabOk ext35Ok mixed (p35_1 v7 v8 x0 x1) ⟨b0, s0, s1, s2, trivial⟩ (ih3 _ _ _ _ _ h w0 O q)
    · rw [if_neg b0] at h
      replace b0 := Bool.eq_false_iff.2 b0
      subst h
      exact AtV.fin Tryd.func35 tabOk ext35Ok mixed (p35_2 v7 v8 x0 x1) ⟨b0, trivial⟩



def ms35 (y : Int) : Nat → Int
  | 0 => 0
  | k + 1 => ms35 y k + g34_0 y ((k : Int) + 1)
def bs35 (y d : Int) : Int := (y - 2000) * 365 + Int.tdiv (y - 1997) 4 + d - 1
def g35_0 (x0 x1 x2 : Int) : Int := bs35 x0 x2 + ms35 x0 (x1 - 1).toNat
def P35 (x0 x1 x2 : Int) : Prop := (2000 ≤ x0 ∧ x0 ≤ 2099) ∧ (1 ≤ x1 ∧ x1 ≤ 12) ∧ (1 ≤ x2 ∧ x2 ≤ 31)

theorem len35 {y m : Int} (hy : 2000 ≤ y ∧ y ≤ 2099) : P34 y m ∧ 28 ≤ g34_0 y m ∧ g34_0 y m ≤ 31 := by
  have e : Int.tmod y 4 = y % 4 := Int.tmod_eq_emod_of_nonneg (by omega)
  unfold P34 g34_0
  rw [e]
  have hi : InR .i64 (y % 4) := by rw [i64_iff]; omega
  refine ⟨?_, ?_, ?_⟩
  · split
    · exact ⟨hi, trivial⟩
    · trivial
  · repeat' split
    all_goals omega
  · repeat' split
    all_goals omega

theorem msb35 {y : Int} (hy : 2000 ≤ y ∧ y ≤ 2099) : ∀ k, 0 ≤ ms35 y k ∧ ms35 y k ≤ 31 * k
  | 0 => by simp [ms35]
  | k + 1 => by
    have := msb35 hy k
    have := len35 hy (m := (k : Int) + 1)
    simp only [ms35]
    omega

theorem runM35 {y m : Int} (hy : 2000 ≤ y ∧ y ≤ 2099) (hm : 1 ≤ m ∧ m ≤ 12) (v : Int) (hv : 0 ≤ v ∧ v ≤ 1000000) : ∀ (k i : Nat), (i : Int) + k = m - 1 →
    R35_3 (k + 1) (v + ms35 y i) ((i : Int) + 1) y m [⟨.int .i64, v + ms35 y (m - 1).toNat⟩] := by
  intro k
  induction k with
  | zero =>
    intro i hi
    rw [R35_3, if_neg (by simp; omega), show (m - 1).toNat = i by omega]
  | succ k ih =>
    intro i hi
    obtain ⟨p, l1, l2⟩ := len35 hy (m := (i : Int) + 1)
    obtain ⟨b1, b2⟩ := msb35 hy i
    rw [R35_3, if_pos (by simp; omega)]
    have e1 : v + ms35 y i + g34_0 y ((i : Int) + 1) = v + ms35 y (i + 1) := by simp only [ms35]; omega
    have e2 : (i : Int) + 1 + 1 = ((i + 1 : Nat) : Int) + 1 := by omega
    refine ⟨p, by rw [i64_iff]; omega, by rw [i64_iff]; omega, ?_⟩
    rw [e1, e2]
    exact ih (i + 1) (by omega)

theorem top35 (x0 x1 x2 : Int) (h : P35 x0 x1 x2) : R35 ((x1 - 1).toNat + 1 + 1) x0 x1 x2 [⟨.int .i64, g35_0 x0 x1 x2⟩] := by
  obtain ⟨h0, h1, h2⟩ := h
  have e : Int.tdiv (x0 - 1997) 4 = (x0 - 1997) / 4 := Int.tdiv_eq_ediv_of_nonneg (by omega)
  rw [R35]
  have := runM35 h0 h1 (bs35 x0 x2) (by unfold bs35; rw [e]; omega) (x1 - 1).toNat 0 (by omega)
  refine ⟨by rw [i64_iff]; omega, by rw [i64_iff]; omega, by rw [i64_iff]; omega, by rw [i64_iff, e]; omega, by rw [i64_iff, e]; omega, by rw [i64_iff, e]; omega, by rw [i64_iff, e]; omega, ?_⟩
  simpa [ms35, g35_0, bs35] using this

def S35 : Am.Spec := { sig := sig35, pre := fun ⟨x0, x1, x2, _⟩ => P35 x0 x1 x2, res := fun ⟨x0, x1, x2, _⟩ => [⟨.int .i64, g35_0 x0 x1 x2⟩] }
theorem con35 : Contract Tryd.prog 35 S35 := contract_of Tryd.func35 hb35 (Nat.le_of_ble_eq_true (by kernel_rfl)) (fun ⟨x0, x1, x2, _⟩ h hwf w0 O q =>
  (snd35 _).1 x0 x1 x2 _ (top35 x0 x1 x2 h) w0 O q)

end Go.Proofs.YteaocgmbhkclcaaDoor

/- Function 37 (impl.dateOf): its runs between cut points. Written by a program of this repo (gen). -/
set_option linter.unusedVariables false
set_option linter.unusedSimpArgs false
set_option maxRecDepth 100000
namespace Go.Proofs.YteaocgmbhkclcaaDoor
open Go Go.Am Go.Proofs
def ext37 : Ext := [(35, S35)]
theorem call37_35 : Callable Tryd.prog 35 := ⟨Tryd.f35, Tryd.func35, by kernel_rfl, by kernel_rfl⟩
theorem ext37Ok : ExtOk Tryd.prog ext37 := ⟨⟨call37_35, con35⟩, trivial⟩
/-! Function 37. -/
noncomputable def b37 : Code := bodyOf Tryd.f37
theorem hb37 : Tryd.f37.body = some b37 := by kernel_rfl
def sig37 : List AT := [AT.v (Ty.int IntKind.i64)]
def tys37 : List Ty := [Ty.int IntKind.i64, Ty.int IntKind.i64, Ty.int IntKind.i64]
def E37_2 (v5 : Int) (x0 : Int) : Env := [(0, PV.a (Atom.val (Value.int IntKind.i64 x0))), (5, PV.a (Atom.val (Value.int IntKind.i64 v5))), (6, PV.a (Atom.val (Value.int IntKind.i64 1)))]
def L37_2 (v5 : Int) (x0 : Int) : Heap := []
def E37_4 (v6 : Int) (x0 : Int) (v5 : Int) : Env := [(0, PV.a (Atom.val (Value.int IntKind.i64 x0))), (5, PV.a (Atom.val (Value.int IntKind.i64 v5))), (6, PV.a (Atom.val (Value.int IntKind.i64 v6)))]
def L37_4 (v6 : Int) (x0 : Int) (v5 : Int) : Heap := []
mutual
def R37 : Nat → Int → List Dyn → Prop
  | 0, _, _ => False
  | n + 1, x0, ds => (R37_2 n (2000) (x0) ds)
def R37_2 : Nat → Int → Int → List Dyn → Prop
  | 0, _, _, _ => False
  | n + 1, v5, x0, ds => (if (Decidable.decide (v5 < 2099)) = true then ((InR IntKind.i64 (v5 + 1)) ∧ ((P35 (v5 + 1) 1 1) ∧ (if (Decidable.decide (g35_0 (v5 + 1) 1 1 ≤ x0)) = true then ((InR IntKind.i64 (v5 + 1)) ∧ (R37_2 n (v5 + 1) (x0) ds)) else (R37_4 n (1) (x0) (v5) ds)))) else (R37_4 n (1) (x0) (v5) ds))
def R37_4 : Nat → Int → Int → Int → List Dyn → Prop
  | 0, _, _, _, _ => False
  | n + 1, v6, x0, v5, ds => (if (Decidable.decide (v6 < 12)) = true then ((InR IntKind.i64 (v6 + 1)) ∧ ((P35 v5 (v6 + 1) 1) ∧ (if (Decidable.decide (g35_0 v5 (v6 + 1) 1 ≤ x0)) = true then ((InR IntKind.i64 (v6 + 1)) ∧ (R37_4 n (v6 + 1) (x0) (v5) ds)) else ((P35 v5 v6 1) ∧ ((InR IntKind.i64 (x0 - g35_0 v5 v6 1)) ∧ ((InR IntKind.i64 (x0 - g35_0 v5 v6 1 + 1)) ∧ (ds = [Dyn.mk (Ty.int IntKind.i64) v5, Dyn.mk (Ty.int IntKind.i64) v6, Dyn.mk (Ty.int IntKind.i64) (x0 - g35_0 v5 v6 1 + 1)]))))))) else ((P35 v5 v6 1) ∧ ((InR IntKind.i64 (x0 - g35_0 v5 v6 1)) ∧ ((InR IntKind.i64 (x0 - g35_0 v5 v6 1 + 1)) ∧ (ds = [Dyn.mk (Ty.int IntKind.i64) v5, Dyn.mk (Ty.int IntKind.i64) v6, Dyn.mk (Ty.int IntKind.i64) (x0 - g35_0 v5 v6 1 + 1)])))))
end
theorem p37_0 (x0 : Int) : Am.runN tab ext37 false 38 [] 2000 [] [] [0, 5, 6] [] [] [.code b37] (entE 0 0 sig37 (x0, ())) (entL sig37 (x0, ())) = some (cutAt b37 2, E37_2 (2000) (x0), L37_2 (2000) (x0), []) := by kernel_rfl
theorem p37_1 (v5 : Int) (x0 : Int) : Am.runN tab ext37 false 38 [] 2000 [] [] [0, 5, 6] [] [true, true] (cutAt b37 2) (E37_2 v5 x0) (L37_2 v5 x0) = some (cutAt b37 2, E37_2 (v5 + 1) (x0), L37_2 (v5 + 1) (x0), [Decidable.decide (v5 < 2099) = Bool.true, InR IntKind.i64 (v5 + 1), P35 (v5 + 1) 1 1, Decidable.decide (g35_0 (v5 + 1) 1 1 ≤ x0) = Bool.true, InR IntKind.i64 (v5 + 1)]) := by kernel_rfl
theorem p37_2 (v5 : Int) (x0 : Int) : Am.runN tab ext37 false 38 [] 2000 [] [] [0, 5, 6] [] [true, false] (cutAt b37 2) (E37_2 v5 x0) (L37_2 v5 x0) = some (cutAt b37 4, E37_4 (1) (x0) (v5), L37_4 (1) (x0) (v5), [Decidable.decide (v5 < 2099) = Bool.true, InR IntKind.i64 (v5 + 1), P35 (v5 + 1) 1 1, Decidable.decide (g35_0 (v5 + 1) 1 1 ≤ x0) = Bool.false]) := by kernel_rfl
theorem p37_3 (v5 : Int) (x0 : Int) : Am.runN tab ext37 false 38 [] 2000 [] [] [0, 5, 6] [] [false, false] (cutAt b37 2) (E37_2 v5 x0) (L37_2 v5 x0) = some (cutAt b37 4, E37_4 (1) (x0) (v5), L37_4 (1) (x0) (v5), [Decidable.decide (v5 < 2099) = Bool.false, Bool.false = Bool.false]) := by kernel_rfl
theorem p37_4 (v6 : Int) (x0 : Int) (v5 : Int) : Am.runN tab ext37 false 38 [] 2000 [] [] [0, 5, 6] [] [true, true] (cutAt b37 4) (E37_4 v6 x0 v5) (L37_4 v6 x0 v5) = some (cutAt b37 4, E37_4 (v6 + 1) (x0) (v5), L37_4 (v6 + 1) (x0) (v5), [Decidable.decide (v6 < 12) = Bool.true, InR IntKind.i64 (v6 + 1), P35 v5 (v6 + 1) 1, Decidable.decide (g35_0 v5 (v6 + 1) 1 ≤ x0) = Bool.true, InR IntKind.i64 (v6 + 1)]) := by kernel_rfl
theorem p37_5 (v6 : Int) (x0 : Int) (v5 : Int) : runF tab ext37 false 38 [] 2000 [] tys37 Tryd.f37.results [true, false] (cutAt b37 4) (E37_4 v6 x0 v5) (L37_4 v6 x0 v5) = some ([Dyn.mk (Ty.int IntKind.i64) v5, Dyn.mk (Ty.int IntKind.i64) v6, Dyn.mk (Ty.int IntKind.i64) (x0 - g35_0 v5 v6 1 + 1)], [], [Decidable.decide (v6 < 12) = Bool.true, InR IntKind.i64 (v6 + 1), P35 v5 (v6 + 1) 1, Decidable.decide (g35_0 v5 (v6 + 1) 1 ≤ x0) = Bool.false, P35 v5 v6 1, InR IntKind.i64 (x0 - g35_0 v5 v6 1), InR IntKind.i64 (x0 - g35_0 v5 v6 1 + 1)]) := by kernel_rfl
theorem p37_6 (v6 : Int) (x0 : Int) (v5 : Int) : runF tab ext37 false 38 [] 2000 [] tys37 Tryd.f37.results [false, false] (cutAt b37 4) (E37_4 v6 x0 v5) (L37_4 v6 x0 v5) = some ([Dyn.mk (Ty.int IntKind.i64) v5, Dyn.mk (Ty.int IntKind.i64) v6, Dyn.mk (Ty.int IntKind.i64) (x0 - g35_0 v5 v6 1 + 1)], [], [Decidable.decide (v6 < 12) = Bool.false, Bool.false = Bool.false, P35 v5 v6 1, InR IntKind.i64 (x0 - g35_0 v5 v6 1), InR IntKind.i64 (x0 - g35_0 v5 v6 1 + 1)]) := by kernel_rfl
theorem snd37 : ∀ n, (∀ (x0 : Int) ds, R37 n x0 ds → ∀ w0 O q, AtV Tryd.prog 37 (PostR ds [] [] q w0 O) 38 w0 O q [] [.code b37] (entE 0 0 sig37 (x0, ())) (entL sig37 (x0, ()))) ∧ (∀ (v5 : Int) (x0 : Int) ds, R37_2 n v5 x0 ds → ∀ w0 O q, AtV Tryd.prog 37 (PostR ds [] [] q w0 O) 38 w0 O q [] (cutAt b37 2) (E37_2 v5 x0) (L37_2 v5 x0)) ∧ (∀ (v6 : Int) (x0 : Int) (v5 : Int) ds, R37_4 n v6 x0 v5 ds → ∀ w0 O q, AtV Tryd.prog 37 (PostR ds [] [] q w0 O) 38 w0 O q [] (cutAt b37 4) (E37_4 v6 x0 v5) (L37_4 v6 x0 v5)) := by
  intro n
  induction n with
  | zero => exact ⟨fun _ _ h => by simp only [R37] at h, fun _ _ _ h => by simp only [R37_2] at h, fun _ _ _ _ h => by simp only [R37_4] at h⟩
  | succ n ih =>
  obtain ⟨ih, ih2, ih4⟩ := ih
  refine ⟨?_, ?_, ?_⟩
  · intro x0 ds h w0 O q
    rw [R37] at h
    exact AtV.runN tabOk ext37Ok mixed (p37_0 x0) trivial (ih2 _ _ _ h w0 O q)

  · intro v5 x0 ds h w0 O q
    rw [R37_2] at h
    by_cases b0 : (Decidable.decide (v5 < 2099)) = true
    · rw [if_pos b0] at h
      obtain ⟨s0, h⟩ := h
      obtain ⟨s1, h⟩ := h
      by_cases b1 : (Decidable.decide (g35_0 (v5 + 1) 1 1 ≤ x0)) = true
      · rw [if_pos b1] at h
        obtain ⟨s2, h⟩ := h
        exact AtV.runN tabOk ext37Ok mixed (p37_1 v5 x0) ⟨b0, s0, s1, b1, s2, trivial⟩ (ih2 _ _ _ h w0 O q)
      · rw [if_neg b1] at h
        replace b1 := Bool.eq_false_iff.2 b1
        exact AtV.runN tabOk ext37Ok mixed (p37_2 v5 x0) ⟨b0, s0, s1, b1, trivial⟩ (ih4 _ _ _ _ h w0 O q)
    · rw [if_neg b0] at h
      replace b0 := Bool.eq_false_iff.2 b0
      exact AtV.runN tabOk ext37Ok mixed (p37_3 v5 x0) ⟨b0, rfl, trivial⟩ (ih4 _ _ _ _ h w0 O q)

  · intro v6 x0 v5 ds h w0 O q
    rw [R37_4] at h
    by_cases b0 : (Decidable.decide (v6 < 12)) = true
    · rw [if_pos b0] at h
      obtain ⟨s0, h⟩ := h
      obtain ⟨s1, h⟩ := h
      by_cases b1 : (Decidable.decide (g35_0 v5 (v6 + 1) 1 ≤ x0)) = true
      · rw [if_pos b1] at h
        obtain ⟨s2, h⟩ := h
        exact AtV.runN tabOk ext37Ok mixed (p37_4 v6 x0 v5) ⟨b0, s0, s1, b1, s2, trivial⟩ (ih4 _ _ _ _ h w0 O q)
      · rw [if_neg b1] at h
        replace b1 := Bool.eq_false_iff.2 b1
        obtain ⟨s2, h⟩ := h
        obtain ⟨s3, h⟩ := h
        obtain ⟨s4, h⟩ := h
        subst h
        exact AtV.fin Tryd.func37 tabOk ext37Ok mixed (p37_5 v6 x0 v5) ⟨b0, s0, s1, b1, s2, s3, s4, trivial⟩
    · rw [if_neg b0] at h
      replace b0 := Bool.eq_false_iff.2 b0
      obtain ⟨s0, h⟩ := h
      obtain ⟨s1, h⟩ := h
      obtain ⟨s2, h⟩ := h
      subst h
      exact AtV.fin Tryd.func37 tabOk ext37Ok mixed (p37_6 v6 x0 v5) ⟨b0, rfl, s0, s1, s2, trivial⟩



def yr37 (day : Int) : Nat → Int → Int
  | 0, y => y
  | k + 1, y => if g35_0 (y + 1) 1 1 ≤ day then yr37 day k (y + 1) else y
def mo37 (day y : Int) : Nat → Int → Int
  | 0, m => m
  | k + 1, m => if g35_0 y (m + 1) 1 ≤ day then mo37 day y k (m + 1) else m
def g37_0 (x0 : Int) : Int := yr37 x0 99 2000
def g37_1 (x0 : Int) : Int := mo37 x0 (g37_0 x0) 11 1
def g37_2 (x0 : Int) : Int := x0 - g35_0 (g37_0 x0) (g37_1 x0) 1 + 1
def P37 (x0 : Int) : Prop := 0 ≤ x0 ∧ x0 ≤ 1000000

theorem day37 {y m : Int} (hy : 2000 ≤ y ∧ y ≤ 2099) (hm : 1 ≤ m ∧ m ≤ 12) : P35 y m 1 ∧ 0 ≤ g35_0 y m 1 ∧ g35_0 y m 1 ≤ 1000000 := by
  have e : Int.tdiv (y - 1997) 4 = (y - 1997) / 4 := Int.tdiv_eq_ediv_of_nonneg (by omega)
  have := msb35 hy (m - 1).toNat
  refine ⟨⟨hy, hm, by omega⟩, ?_, ?_⟩ <;> unfold g35_0 bs35 <;> rw [e] <;> omega

theorem runM37 {y day : Int} (hy : 2000 ≤ y ∧ y ≤ 2099) (hd : 0 ≤ day ∧ day ≤ 1000000) (e : Nat) : ∀ (k : Nat) (m : Int), m + k = 12 → 1 ≤ m →
    R37_4 (k + 1 + e) m day y [⟨.int .i64, y⟩, ⟨.int .i64, mo37 day y k m⟩, ⟨.int .i64, day - g35_0 y (mo37 day y k m) 1 + 1⟩] := by
  intro k
  induction k with
  | zero =>
    intro m hm h1
    obtain ⟨p, b1, b2⟩ := day37 hy (m := m) (by omega)
    rw [show 0 + 1 + e = e + 1 by omega, R37_4, if_neg (by simp; omega)]
    exact ⟨p, by rw [i64_iff]; omega, by rw [i64_iff]; omega, rfl⟩
  | succ k ih =>
    intro m hm h1
    obtain ⟨p, b1, b2⟩ := day37 hy (m := m) (by omega)
    obtain ⟨q, c1, c2⟩ := day37 hy (m := m + 1) (by omega)
    rw [show k + 1 + 1 + e = (k + 1 + e) + 1 by omega, R37_4, if_pos (by simp; omega)]
    refine ⟨by rw [i64_iff]; omega, q, ?_⟩
    unfold mo37
    by_cases hc : g35_0 y (m + 1) 1 ≤ day
    · rw [if_pos (by simpa using hc), if_pos hc]
      exact ⟨by rw [i64_iff]; omega, ih (m + 1) (by omega) (by omega)⟩
    · rw [if_neg (by simpa using hc), if_neg hc]
      exact ⟨p, by rw [i64_iff]; omega, by rw [i64_iff]; omega, rfl⟩

theorem runY37 {day : Int} (hd : 0 ≤ day ∧ day ≤ 1000000) : ∀ (k : Nat) (y : Int), y + k = 2099 → 2000 ≤ y →
    R37_2 (k + 1 + 12) y day [⟨.int .i64, yr37 day k y⟩, ⟨.int .i64, mo37 day (yr37 day k y) 11 1⟩, ⟨.int .i64, day - g35_0 (yr37 day k y) (mo37 day (yr37 day k y) 11 1) 1 + 1⟩] := by
  intro k
  induction k with
  | zero =>
    intro y hy h1
    rw [show 0 + 1 + 12 = (11 + 1 + 0) + 1 by omega, R37_2, if_neg (by simp; omega)]
    exact runM37 (by omega) hd 0 11 1 (by omega) (by omega)
  | succ k ih =>
    intro y hy h1
    obtain ⟨q, c1, c2⟩ := day37 (y := y + 1) (m := 1) (by omega) (by omega)
    rw [show k + 1 + 1 + 12 = (k + 1 + 12) + 1 by omega, R37_2, if_pos (by simp; omega)]
    refine ⟨by rw [i64_iff]; omega, q, ?_⟩
    unfold yr37
    by_cases hc : g35_0 (y + 1) 1 1 ≤ day
    · rw [if_pos (by simpa using hc), if_pos hc]
      exact ⟨by rw [i64_iff]; omega, ih (y + 1) (by omega) (by omega)⟩
    · rw [if_neg (by simpa using hc), if_neg hc, show k + 1 + 12 = 11 + 1 + (k + 1) by omega]
      exact runM37 (by omega) hd (k + 1) 11 1 (by omega) (by omega)

theorem top37 (x0 : Int) (h : P37 x0) : R37 (99 + 1 + 12 + 1) x0 [⟨.int .i64, g37_0 x0⟩, ⟨.int .i64, g37_1 x0⟩, ⟨.int .i64, g37_2 x0⟩] := by
  rw [R37]
  exact runY37 h 99 2000 (by omega) (by omega)

def S37 : Am.Spec := { sig := sig37, pre := fun ⟨x0, _⟩ => P37 x0, res := fun ⟨x0, _⟩ => [⟨.int .i64, g37_0 x0⟩, ⟨.int .i64, g37_1 x0⟩, ⟨.int .i64, g37_2 x0⟩] }
theorem con37 : Contract Tryd.prog 37 S37 := contract_of Tryd.func37 hb37 (Nat.le_of_ble_eq_true (by kernel_rfl)) (fun ⟨x0, _⟩ h hwf w0 O q =>
  (snd37 _).1 x0 _ (top37 x0 h) w0 O q)

end Go.Proofs.YteaocgmbhkclcaaDoor

/- The contracts of the library that this program uses, laid at this program. Written by a tool of the kit. -/
set_option linter.unusedVariables false
set_option maxRecDepth 100000
namespace Go.Proofs
open Go.Shelf
def Tryd.lays169_ren : Go.Shelf.Ren := ⟨fun | 169 => 68 | n => n, fun | 70 => 78 | 9 => 9 | 0 => 0 | 72 => 80 | 37 => 55 | 127 => 107 | 3 => 3 | 5 => 5 | n => n, fun | n => n⟩
theorem Tryd.lays169 : Go.Proofs.Lays.n169 Tryd.prog Tryd.lays169_ren := {
  mixed := by kernel_rfl
  f169 := Tryd.func68.trans (congrArg some (by kernel_rfl))
  t0 := Tryd.underlying0
  a0 := Tryd.isAgg0
  z0 := Tryd.sizeOf0
  v0 := Tryd.zeroValue0
  t3 := Tryd.underlying3
  a3 := Tryd.isAgg3
  z3 := Tryd.sizeOf3
  v3 := Tryd.zeroValue3
  t9 := Tryd.underlying9
  a9 := Tryd.isAgg9
  z9 := Tryd.sizeOf9
  v9 := Tryd.zeroValue9
  t37 := Tryd.underlying55
  a37 := Tryd.isAgg55
  z37 := Tryd.sizeOf55
  v37 := Tryd.zeroValue55
  t70 := Tryd.underlying78
  a70 := Tryd.isAgg78
  z70 := Tryd.sizeOf78
  v70 := Tryd.zeroValue78
  t72 := Tryd.underlying80
  a72 := Tryd.isAgg80
  z72 := Tryd.sizeOf80
  v72 := Tryd.zeroValue80
  t127 := Tryd.underlying107
  a127 := Tryd.isAgg107
  z127 := Tryd.sizeOf107
  v127 := Tryd.zeroValue107 }
theorem Tryd.Builder_Extra_169 : Builder.Extra Tryd.prog Tryd.lays169_ren := {
  sizeBuilder := by kernel_rfl
  liesBuilder := by kernel_rfl
  t5 := Tryd.underlying5
  a5 := Tryd.isAgg5
  z5 := Tryd.sizeOf5
  v5 := Tryd.zeroValue5
  infoByte := by kernel_rfl
  cellsByte := by kernel_rfl
  sizeByte := by kernel_rfl
  neB5 := by decide }
open Go.RowKit in theorem Tryd.Builder_String_any_k (B b : Nat) (l : List UInt8) (w : World) (h : Lib.IsBuilderF 80 5 B b (Lib.byteCells l) w) (hBw : B ≤ w.heap.size) :
    Calls Tryd.prog 68 #[.pointer (some ⟨b, 0, none⟩)] w fun e w' => e = .returned (.string ⟨l.toArray⟩) ∧ (Lib.IsBuilderF 80 5 B b (Lib.byteCells l) w' ∧ Below B w w' ∧ Lib.OthersKept 5 (some b) w w') := Any.Builder_String_any_k Tryd.lays169 Tryd.Builder_Extra_169 B b l w h hBw
def Tryd.laysM173_ren : Go.Shelf.Ren := ⟨fun | 173 => 42 | 246 => 57 | 283 => 74 | 284 => 75 | 285 => 76 | 286 => 77 | 129 => 86 | 317 => 85 | 318 => 87 | 319 => 88 | 320 => 89 | 337 => 92 | 338 => 93 | n => n, fun | 2 => 2 | 3 => 3 | 9 => 9 | 4 => 4 | 171 => 92 | 0 => 0 | 53 => 67 | 37 => 55 | 5 => 5 | 173 => 95 | 212 => 112 | 51 => 101 | 20 => 20 | 213 => 113 | 46 => 70 | 232 => 120 | 233 => 121 | n => n, fun | 17 => 5 | 18 => 6 | 19 => 7 | n => n⟩
theorem Tryd.laysM173 : Go.Proofs.LaysM.n173 Tryd.prog Tryd.laysM173_ren := {
  mixed := by kernel_rfl
  f129 := Tryd.func86.trans (congrArg some (by kernel_rfl))
  f173 := Tryd.func42.trans (congrArg some (by kernel_rfl))
  f246 := Tryd.func57.trans (congrArg some (by kernel_rfl))
  f283 := Tryd.func74.trans (congrArg some (by kernel_rfl))
  f284 := Tryd.func75.trans (congrArg some (by kernel_rfl))
  f285 := Tryd.func76.trans (congrArg some (by kernel_rfl))
  f286 := Tryd.func77.trans (congrArg some (by kernel_rfl))
  f317 := Tryd.func85.trans (congrArg some (by kernel_rfl))
  f318 := Tryd.func87.trans (congrArg some (by kernel_rfl))
  f319 := Tryd.func88.trans (congrArg some (by kernel_rfl))
  f320 := Tryd.func89.trans (congrArg some (by kernel_rfl))
  f337 := Tryd.func92.trans (congrArg some (by kernel_rfl))
  f338 := Tryd.func93.trans (congrArg some (by kernel_rfl))
  t0 := Tryd.underlying0
  a0 := Tryd.isAgg0
  z0 := Tryd.sizeOf0
  v0 := Tryd.zeroValue0
  t2 := Tryd.underlying2
  a2 := Tryd.isAgg2
  z2 := Tryd.sizeOf2
  v2 := Tryd.zeroValue2
  t3 := Tryd.underlying3
  a3 := Tryd.isAgg3
  z3 := Tryd.sizeOf3
  v3 := Tryd.zeroValue3
  t4 := Tryd.underlying4
  a4 := Tryd.isAgg4
  z4 := Tryd.sizeOf4
  v4 := Tryd.zeroValue4
  t5 := Tryd.underlying5
  a5 := Tryd.isAgg5
  z5 := Tryd.sizeOf5
  v5 := Tryd.zeroValue5
  t9 := Tryd.underlying9
  a9 := Tryd.isAgg9
  z9 := Tryd.sizeOf9
  v9 := Tryd.zeroValue9
  t20 := Tryd.underlying20
  a20 := Tryd.isAgg20
  z20 := Tryd.sizeOf20
  v20 := Tryd.zeroValue20
  t37 := Tryd.underlying55
  a37 := Tryd.isAgg55
  z37 := Tryd.sizeOf55
  v37 := Tryd.zeroValue55
  t46 := Tryd.underlying70
  a46 := Tryd.isAgg70
  z46 := Tryd.sizeOf70
  v46 := Tryd.zeroValue70
  t51 := Tryd.underlying101
  a51 := Tryd.isAgg101
  z51 := Tryd.sizeOf101
  v51 := Tryd.zeroValue101
  t53 := Tryd.underlying67
  a53 := Tryd.isAgg67
  z53 := Tryd.sizeOf67
  v53 := Tryd.zeroValue67
  t171 := Tryd.underlying92
  a171 := Tryd.isAgg92
  z171 := Tryd.sizeOf92
  v171 := Tryd.zeroValue92
  t173 := Tryd.underlying95
  a173 := Tryd.isAgg95
  z173 := Tryd.sizeOf95
  v173 := Tryd.zeroValue95
  t212 := Tryd.underlying112
  a212 := Tryd.isAgg112
  z212 := Tryd.sizeOf112
  v212 := Tryd.zeroValue112
  t213 := Tryd.underlying113
  a213 := Tryd.isAgg113
  z213 := Tryd.sizeOf113
  t232 := Tryd.underlying120
  a232 := Tryd.isAgg120
  z232 := Tryd.sizeOf120
  v232 := Tryd.zeroValue120
  t233 := Tryd.underlying121
  a233 := Tryd.isAgg121
  z233 := Tryd.sizeOf121
  v233 := Tryd.zeroValue121
  g17 := by kernel_rfl
  g18 := by kernel_rfl
  g19 := by kernel_rfl
  i0 := by kernel_rfl
  i2 := by kernel_rfl
  i3 := by kernel_rfl
  i4 := by kernel_rfl
  i5 := by kernel_rfl
  i9 := by kernel_rfl
  i20 := by kernel_rfl
  i37 := by kernel_rfl
  i46 := by kernel_rfl
  i51 := by kernel_rfl
  i53 := by kernel_rfl
  i171 := by kernel_rfl
  i173 := by kernel_rfl
  i212 := by kernel_rfl
  i232 := by kernel_rfl
  i233 := by kernel_rfl
  m17 := by kernel_rfl
  m18 := by kernel_rfl
  m19 := by kernel_rfl }
open Go.RowKit Go.Sort Go.Lib in theorem Tryd.strconv_FormatInt_10 (n : Int) (h0 : -9223372036854775808 ≤ n) (h1 : n ≤ 9223372036854775807) (w : World) (htab : Lib.TabIs Tryd.prog w "internal/strconv.uint64pow10" .u64 Lib.pow10Tab) :
    Calls Tryd.prog 42 #[.int .i64 n, .int .i64 10] w fun e w' => e = .returned (.string ⟨(Lib.itoa n).toArray⟩) ∧ ∃ k os, w' = grow (w.drewN k) os := Any.strconv_FormatInt_10 Tryd.laysM173 n h0 h1 w htab
def Tryd.laysC174_ren : Go.Shelf.Ren := ⟨fun | 174 => 21 | 247 => 40 | 245 => 41 | 287 => 52 | 279 => 53 | 280 => 54 | 281 => 55 | 282 => 56 | 321 => 69 | 322 => 70 | 316 => 71 | 171 => 73 | 205 => 72 | 243 => 84 | 246 => 57 | 283 => 74 | 284 => 75 | 285 => 76 | 286 => 77 | 129 => 86 | 317 => 85 | 318 => 87 | 319 => 88 | 320 => 89 | 337 => 92 | 338 => 93 | n => n, fun | 9 => 9 | 3 => 3 | 2 => 2 | 75 => 43 | 85 => 44 | 4 => 4 | 167 => 66 | 5 => 5 | 53 => 67 | 175 => 68 | 46 => 70 | 168 => 71 | 37 => 55 | 0 => 0 | 210 => 89 | 21 => 21 | 127 => 107 | 145 => 110 | 143 => 108 | 171 => 92 | 173 => 95 | 212 => 112 | 51 => 101 | 20 => 20 | 213 => 113 | 232 => 120 | 233 => 121 | 80 => 85 | n => n, fun | 15 => 1 | 16 => 2 | 17 => 5 | 18 => 6 | 19 => 7 | n => n⟩
theorem Tryd.laysC174 : Go.Proofs.LaysC.n174 Tryd.prog Tryd.laysC174_ren := {
  mixed := by kernel_rfl
  f129 := Tryd.func86.trans (congrArg some (by kernel_rfl))
  f171 := Tryd.func73.trans (congrArg some (by kernel_rfl))
  f174 := Tryd.func21.trans (congrArg some (by kernel_rfl))
  f205 := Tryd.func72.trans (congrArg some (by kernel_rfl))
  f243 := Tryd.func84.trans (congrArg some (by kernel_rfl))
  f245 := Tryd.func41.trans (congrArg some (by kernel_rfl))
  f246 := Tryd.func57.trans (congrArg some (by kernel_rfl))
  f247 := Tryd.func40.trans (congrArg some (by kernel_rfl))
  f279 := Tryd.func53.trans (congrArg some (by kernel_rfl))
  f280 := Tryd.func54.trans (congrArg some (by kernel_rfl))
  f281 := Tryd.func55.trans (congrArg some (by kernel_rfl))
  f282 := Tryd.func56.trans (congrArg some (by kernel_rfl))
  f283 := Tryd.func74.trans (congrArg some (by kernel_rfl))
  f284 := Tryd.func75.trans (congrArg some (by kernel_rfl))
  f285 := Tryd.func76.trans (congrArg some (by kernel_rfl))
  f286 := Tryd.func77.trans (congrArg some (by kernel_rfl))
  f287 := Tryd.func52.trans (congrArg some (by kernel_rfl))
  f316 := Tryd.func71.trans (congrArg some (by kernel_rfl))
  f317 := Tryd.func85.trans (congrArg some (by kernel_rfl))
  f318 := Tryd.func87.trans (congrArg some (by kernel_rfl))
  f319 := Tryd.func88.trans (congrArg some (by kernel_rfl))
  f320 := Tryd.func89.trans (congrArg some (by kernel_rfl))
  f321 := Tryd.func69.trans (congrArg some (by kernel_rfl))
  f322 := Tryd.func70.trans (congrArg some (by kernel_rfl))
  f337 := Tryd.func92.trans (congrArg some (by kernel_rfl))
  f338 := Tryd.func93.trans (congrArg some (by kernel_rfl))
  t0 := Tryd.underlying0
  a0 := Tryd.isAgg0
  z0 := Tryd.sizeOf0
  v0 := Tryd.zeroValue0
  t2 := Tryd.underlying2
  a2 := Tryd.isAgg2
  z2 := Tryd.sizeOf2
  v2 := Tryd.zeroValue2
  t3 := Tryd.underlying3
  a3 := Tryd.isAgg3
  z3 := Tryd.sizeOf3
  v3 := Tryd.zeroValue3
  t4 := Tryd.underlying4
  a4 := Tryd.isAgg4
  z4 := Tryd.sizeOf4
  v4 := Tryd.zeroValue4
  t5 := Tryd.underlying5
  a5 := Tryd.isAgg5
  z5 := Tryd.sizeOf5
  v5 := Tryd.zeroValue5
  t9 := Tryd.underlying9
  a9 := Tryd.isAgg9
  z9 := Tryd.sizeOf9
  v9 := Tryd.zeroValue9
  t20 := Tryd.underlying20
  a20 := Tryd.isAgg20
  z20 := Tryd.sizeOf20
  v20 := Tryd.zeroValue20
  t21 := Tryd.underlying21
  a21 := Tryd.isAgg21
  z21 := Tryd.sizeOf21
  v21 := Tryd.zeroValue21
  t37 := Tryd.underlying55
  a37 := Tryd.isAgg55
  z37 := Tryd.sizeOf55
  v37 := Tryd.zeroValue55
  t46 := Tryd.underlying70
  a46 := Tryd.isAgg70
  z46 := Tryd.sizeOf70
  v46 := Tryd.zeroValue70
  t51 := Tryd.underlying101
  a51 := Tryd.isAgg101
  z51 := Tryd.sizeOf101
  v51 := Tryd.zeroValue101
  t53 := Tryd.underlying67
  a53 := Tryd.isAgg67
  z53 := Tryd.sizeOf67
  v53 := Tryd.zeroValue67
  t75 := Tryd.underlying43
  a75 := Tryd.isAgg43
  z75 := Tryd.sizeOf43
  v75 := Tryd.zeroValue43
  t85 := Tryd.underlying44
  a85 := Tryd.isAgg44
  z85 := Tryd.sizeOf44
  v85 := Tryd.zeroValue44
  t127 := Tryd.underlying107
  a127 := Tryd.isAgg107
  z127 := Tryd.sizeOf107
  v127 := Tryd.zeroValue107
  t143 := Tryd.underlying108
  a143 := Tryd.isAgg108
  z143 := Tryd.sizeOf108
  v143 := Tryd.zeroValue108
  t145 := Tryd.underlying110
  a145 := Tryd.isAgg110
  z145 := Tryd.sizeOf110
  v145 := Tryd.zeroValue110
  t167 := Tryd.underlying66
  a167 := Tryd.isAgg66
  z167 := Tryd.sizeOf66
  v167 := Tryd.zeroValue66
  t168 := Tryd.underlying71
  a168 := Tryd.isAgg71
  z168 := Tryd.sizeOf71
  v168 := Tryd.zeroValue71
  t171 := Tryd.underlying92
  a171 := Tryd.isAgg92
  z171 := Tryd.sizeOf92
  v171 := Tryd.zeroValue92
  t173 := Tryd.underlying95
  a173 := Tryd.isAgg95
  z173 := Tryd.sizeOf95
  v173 := Tryd.zeroValue95
  t175 := Tryd.underlying68
  a175 := Tryd.isAgg68
  z175 := Tryd.sizeOf68
  v175 := Tryd.zeroValue68
  t210 := Tryd.underlying89
  a210 := Tryd.isAgg89
  z210 := Tryd.sizeOf89
  v210 := Tryd.zeroValue89
  t212 := Tryd.underlying112
  a212 := Tryd.isAgg112
  z212 := Tryd.sizeOf112
  v212 := Tryd.zeroValue112
  t213 := Tryd.underlying113
  a213 := Tryd.isAgg113
  z213 := Tryd.sizeOf113
  t232 := Tryd.underlying120
  a232 := Tryd.isAgg120
  z232 := Tryd.sizeOf120
  v232 := Tryd.zeroValue120
  t233 := Tryd.underlying121
  a233 := Tryd.isAgg121
  z233 := Tryd.sizeOf121
  v233 := Tryd.zeroValue121
  g15 := by kernel_rfl
  g16 := by kernel_rfl
  g17 := by kernel_rfl
  g18 := by kernel_rfl
  g19 := by kernel_rfl
  t80 := Tryd.underlying85
  a80 := Tryd.isAgg85
  z80 := Tryd.sizeOf85
  v80 := Tryd.zeroValue85
  i0 := by kernel_rfl
  i2 := by kernel_rfl
  i3 := by kernel_rfl
  i4 := by kernel_rfl
  i5 := by kernel_rfl
  i9 := by kernel_rfl
  i20 := by kernel_rfl
  i21 := by kernel_rfl
  i37 := by kernel_rfl
  i46 := by kernel_rfl
  i51 := by kernel_rfl
  i53 := by kernel_rfl
  i75 := by kernel_rfl
  i80 := by kernel_rfl
  i85 := by kernel_rfl
  i127 := by kernel_rfl
  i143 := by kernel_rfl
  i145 := by kernel_rfl
  i167 := by kernel_rfl
  i168 := by kernel_rfl
  i171 := by kernel_rfl
  i173 := by kernel_rfl
  i175 := by kernel_rfl
  i210 := by kernel_rfl
  i212 := by kernel_rfl
  i232 := by kernel_rfl
  i233 := by kernel_rfl
  m15 := by kernel_rfl
  m16 := by kernel_rfl
  m17 := by kernel_rfl
  m18 := by kernel_rfl
  m19 := by kernel_rfl
  c0 := by kernel_rfl
  c2 := by kernel_rfl
  c3 := by kernel_rfl
  c4 := by kernel_rfl
  c5 := by kernel_rfl
  c9 := by kernel_rfl
  c20 := by kernel_rfl
  c21 := by kernel_rfl
  c37 := by kernel_rfl
  c46 := by kernel_rfl
  c51 := by kernel_rfl
  c53 := by kernel_rfl
  c75 := by kernel_rfl
  c80 := by kernel_rfl
  c85 := by kernel_rfl
  c127 := by kernel_rfl
  c143 := by kernel_rfl
  c145 := by kernel_rfl
  c167 := by kernel_rfl
  c168 := by kernel_rfl
  c171 := by kernel_rfl
  c173 := by kernel_rfl
  c175 := by kernel_rfl
  c210 := by kernel_rfl
  c212 := by kernel_rfl
  c213 := by kernel_rfl
  c232 := by kernel_rfl
  c233 := by kernel_rfl }
open Go.RowKit in theorem Tryd.strconv_ParseInt_10_at64_ok (s : ByteArray) (hmax : s.size ≤ 9223372036854775806) (v : Int) (h : Lib.parseIntB 64 s.data.toList = .ok v) (w : World) :
    Calls Tryd.prog 21 #[.string s, .int .i64 10, .int .i64 64] w fun e w' => e = .returned (.tuple #[.int .i64 v, .nilIface]) ∧ (w' = w ∨ ∃ t, w' = Lib.bytesWorld w 5 t) := Any.strconv_ParseInt_10_at64_ok Tryd.laysC174 s hmax v h w
open Go.RowKit in theorem Tryd.strconv_ParseInt_10_at64_syntax (s : ByteArray) (hlim : s.size ≤ 281474976710656) (h : Lib.parseIntB 64 s.data.toList = .syntax) (ev : Value) (w : World) (hv : w.cell? ⟨1, 0, none⟩ = some ev) (hev : ev = .nilIface ∨ ∃ te pe, ev = .iface te pe) :
    Calls Tryd.prog 21 #[.string s, .int .i64 10, .int .i64 64] w fun e w' => ∃ N, e = .returned (.tuple #[.int .i64 (0), .iface 71 (.pointer (some ⟨N, 0, none⟩))]) ∧ w.heap.size ≤ N ∧ w'.heap[N]? = some (.cells #[.string ⟨#[80, 97, 114, 115, 101, 73, 110, 116]⟩, .string s, ev] 89 (0, 0)) ∧ Below w.heap.size w w' := Any.strconv_ParseInt_10_at64_syntax Tryd.laysC174 s hlim h ev w hv hev
open Go.RowKit in theorem Tryd.strconv_ParseInt_10_at64_range (s : ByteArray) (hlim : s.size ≤ 281474976710656) (h : Lib.parseIntB 64 s.data.toList = .range) (ev : Value) (w : World) (hv : w.cell? ⟨2, 0, none⟩ = some ev) (hev : ev = .nilIface ∨ ∃ te pe, ev = .iface te pe) :
    Calls Tryd.prog 21 #[.string s, .int .i64 10, .int .i64 64] w fun e w' => ∃ N, e = .returned (.tuple #[.int .i64 (Lib.intSat 64 s.data.toList), .iface 71 (.pointer (some ⟨N, 0, none⟩))]) ∧ w.heap.size ≤ N ∧ w'.heap[N]? = some (.cells #[.string ⟨#[80, 97, 114, 115, 101, 73, 110, 116]⟩, .string s, ev] 89 (0, 0)) ∧ Below w.heap.size w w' := Any.strconv_ParseInt_10_at64_range Tryd.laysC174 s hlim h ev w hv hev
def Tryd.lays99_ren : Go.Shelf.Ren := ⟨fun | 99 => 64 | 206 => 51 | n => n, fun | 9 => 9 | 4 => 4 | 3 => 3 | n => n, fun | n => n⟩
theorem Tryd.lays99 : Go.Proofs.Lays.n99 Tryd.prog Tryd.lays99_ren := {
  mixed := by kernel_rfl
  f99 := Tryd.func64.trans (congrArg some (by kernel_rfl))
  f206 := Tryd.func51.trans (congrArg some (by kernel_rfl))
  t3 := Tryd.underlying3
  a3 := Tryd.isAgg3
  z3 := Tryd.sizeOf3
  v3 := Tryd.zeroValue3
  t4 := Tryd.underlying4
  a4 := Tryd.isAgg4
  z4 := Tryd.sizeOf4
  v4 := Tryd.zeroValue4
  t9 := Tryd.underlying9
  a9 := Tryd.isAgg9
  z9 := Tryd.sizeOf9
  v9 := Tryd.zeroValue9 }
open Go.RowKit Go.Lib in theorem Tryd.strings_HasPrefix (s p : ByteArray) (w : World) :
    Calls Tryd.prog 64 #[.string s, .string p] w fun e w' => e = .returned (.bool (Lib.hasPrefix s.data.toList p.data.toList)) ∧ w' = w := Any.strings_HasPrefix Tryd.lays99 s p w
def Tryd.lays101_ren : Go.Shelf.Ren := ⟨fun | 101 => 20 | 208 => 39 | 206 => 51 | n => n, fun | 9 => 9 | 4 => 4 | 3 => 3 | n => n, fun | n => n⟩
theorem Tryd.lays101 : Go.Proofs.Lays.n101 Tryd.prog Tryd.lays101_ren := {
  mixed := by kernel_rfl
  f101 := Tryd.func20.trans (congrArg some (by kernel_rfl))
  f206 := Tryd.func51.trans (congrArg some (by kernel_rfl))
  f208 := Tryd.func39.trans (congrArg some (by kernel_rfl))
  t3 := Tryd.underlying3
  a3 := Tryd.isAgg3
  z3 := Tryd.sizeOf3
  v3 := Tryd.zeroValue3
  t4 := Tryd.underlying4
  a4 := Tryd.isAgg4
  z4 := Tryd.sizeOf4
  v4 := Tryd.zeroValue4
  t9 := Tryd.underlying9
  a9 := Tryd.isAgg9
  z9 := Tryd.sizeOf9
  v9 := Tryd.zeroValue9 }
open Go.RowKit Go.Lib in theorem Tryd.strings_TrimPrefix (s p : ByteArray) (w : World) :
    Calls Tryd.prog 20 #[.string s, .string p] w fun e w' => e = .returned (.string ⟨(Lib.trimPrefix s.data.toList p.data.toList).toArray⟩) ∧ w' = w := Any.strings_TrimPrefix Tryd.lays101 s p w
def Tryd.lays146_ren : Go.Shelf.Ren := ⟨fun | 146 => 8 | 221 => 16 | 268 => 30 | 138 => 31 | 143 => 32 | 195 => 46 | 197 => 47 | 218 => 48 | 219 => 49 | 260 => 58 | 217 => 59 | 225 => 60 | 224 => 61 | 267 => 62 | 266 => 78 | 314 => 79 | n => n, fun | 9 => 9 | 31 => 28 | 3 => 3 | 4 => 4 | 0 => 0 | 105 => 61 | 21 => 21 | 5 => 5 | 46 => 70 | 119 => 97 | 139 => 100 | 138 => 99 | 146 => 102 | 51 => 101 | n => n, fun | 1 => 0 | 3 => 3 | 4 => 4 | n => n⟩
theorem Tryd.lays146 : Go.Proofs.Lays.n146 Tryd.prog Tryd.lays146_ren := {
  mixed := by kernel_rfl
  f138 := Tryd.func31.trans (congrArg some (by kernel_rfl))
  f143 := Tryd.func32.trans (congrArg some (by kernel_rfl))
  f146 := Tryd.func8.trans (congrArg some (by kernel_rfl))
  f195 := Tryd.func46.trans (congrArg some (by kernel_rfl))
  f197 := Tryd.func47.trans (congrArg some (by kernel_rfl))
  f217 := Tryd.func59.trans (congrArg some (by kernel_rfl))
  f218 := Tryd.func48.trans (congrArg some (by kernel_rfl))
  f219 := Tryd.func49.trans (congrArg some (by kernel_rfl))
  f221 := Tryd.func16.trans (congrArg some (by kernel_rfl))
  f224 := Tryd.func61.trans (congrArg some (by kernel_rfl))
  f225 := Tryd.func60.trans (congrArg some (by kernel_rfl))
  f260 := Tryd.func58.trans (congrArg some (by kernel_rfl))
  f266 := Tryd.func78.trans (congrArg some (by kernel_rfl))
  f267 := Tryd.func62.trans (congrArg some (by kernel_rfl))
  f268 := Tryd.func30.trans (congrArg some (by kernel_rfl))
  f314 := Tryd.func79.trans (congrArg some (by kernel_rfl))
  t0 := Tryd.underlying0
  a0 := Tryd.isAgg0
  z0 := Tryd.sizeOf0
  v0 := Tryd.zeroValue0
  t3 := Tryd.underlying3
  a3 := Tryd.isAgg3
  z3 := Tryd.sizeOf3
  v3 := Tryd.zeroValue3
  t4 := Tryd.underlying4
  a4 := Tryd.isAgg4
  z4 := Tryd.sizeOf4
  v4 := Tryd.zeroValue4
  t5 := Tryd.underlying5
  a5 := Tryd.isAgg5
  z5 := Tryd.sizeOf5
  v5 := Tryd.zeroValue5
  t9 := Tryd.underlying9
  a9 := Tryd.isAgg9
  z9 := Tryd.sizeOf9
  v9 := Tryd.zeroValue9
  t21 := Tryd.underlying21
  a21 := Tryd.isAgg21
  z21 := Tryd.sizeOf21
  v21 := Tryd.zeroValue21
  t31 := Tryd.underlying28
  a31 := Tryd.isAgg28
  z31 := Tryd.sizeOf28
  v31 := Tryd.zeroValue28
  t46 := Tryd.underlying70
  a46 := Tryd.isAgg70
  z46 := Tryd.sizeOf70
  v46 := Tryd.zeroValue70
  t51 := Tryd.underlying101
  a51 := Tryd.isAgg101
  z51 := Tryd.sizeOf101
  v51 := Tryd.zeroValue101
  t105 := Tryd.underlying61
  a105 := Tryd.isAgg61
  z105 := Tryd.sizeOf61
  v105 := Tryd.zeroValue61
  t119 := Tryd.underlying97
  a119 := Tryd.isAgg97
  z119 := Tryd.sizeOf97
  t138 := Tryd.underlying99
  a138 := Tryd.isAgg99
  z138 := Tryd.sizeOf99
  v138 := Tryd.zeroValue99
  t139 := Tryd.underlying100
  a139 := Tryd.isAgg100
  z139 := Tryd.sizeOf100
  v139 := Tryd.zeroValue100
  t146 := Tryd.underlying102
  a146 := Tryd.isAgg102
  z146 := Tryd.sizeOf102
  v146 := Tryd.zeroValue102
  g1 := by kernel_rfl
  g3 := by kernel_rfl
  g4 := by kernel_rfl }
open Go.RowKit Go.Lib in theorem Tryd.strings_Split (s sep : ByteArray) (m : Int) (w : World) (hs : s.size < 4294967281) (hm : w.cell? ⟨0, 0, none⟩ = some (.int .i64 m)) (h1 : 1 ≤ sep.size) :
    Calls Tryd.prog 8 #[.string s, .string sep] w fun e w' =>
      e = .returned (.slice (some ⟨w.heap.size, 0, none⟩) (Lib.countB s sep + 1) (Lib.countB s sep + 1)) ∧ w' = w.alloc (.cells ((Lib.splitB sep 0 (Lib.countB s sep) s).map Value.string).toArray 9) := Any.strings_Split Tryd.lays146 (by kernel_rfl) s sep m w hs hm h1
def Tryd.lays105_ren : Go.Shelf.Ren := ⟨fun | 105 => 50 | 212 => 63 | 99 => 64 | 165 => 65 | 166 => 66 | 170 => 67 | 169 => 68 | 263 => 80 | 264 => 81 | 206 => 51 | 240 => 82 | 241 => 83 | 276 => 90 | 277 => 91 | n => n, fun | 9 => 9 | 3 => 3 | 4 => 4 | 20 => 20 | 0 => 0 | 46 => 70 | 109 => 76 | 5 => 5 | 72 => 80 | 76 => 82 | 51 => 101 | 146 => 102 | 53 => 67 | 148 => 105 | 70 => 78 | 37 => 55 | 75 => 43 | 127 => 107 | 164 => 116 | 80 => 85 | n => n, fun | n => n⟩
theorem Tryd.lays105 : Go.Proofs.Lays.n105 Tryd.prog Tryd.lays105_ren := {
  mixed := by kernel_rfl
  f99 := Tryd.func64.trans (congrArg some (by kernel_rfl))
  f105 := Tryd.func50.trans (congrArg some (by kernel_rfl))
  f165 := Tryd.func65.trans (congrArg some (by kernel_rfl))
  f166 := Tryd.func66.trans (congrArg some (by kernel_rfl))
  f169 := Tryd.func68.trans (congrArg some (by kernel_rfl))
  f170 := Tryd.func67.trans (congrArg some (by kernel_rfl))
  f206 := Tryd.func51.trans (congrArg some (by kernel_rfl))
  f212 := Tryd.func63.trans (congrArg some (by kernel_rfl))
  f240 := Tryd.func82.trans (congrArg some (by kernel_rfl))
  f241 := Tryd.func83.trans (congrArg some (by kernel_rfl))
  f263 := Tryd.func80.trans (congrArg some (by kernel_rfl))
  f264 := Tryd.func81.trans (congrArg some (by kernel_rfl))
  f276 := Tryd.func90.trans (congrArg some (by kernel_rfl))
  f277 := Tryd.func91.trans (congrArg some (by kernel_rfl))
  t0 := Tryd.underlying0
  a0 := Tryd.isAgg0
  z0 := Tryd.sizeOf0
  v0 := Tryd.zeroValue0
  t3 := Tryd.underlying3
  a3 := Tryd.isAgg3
  z3 := Tryd.sizeOf3
  v3 := Tryd.zeroValue3
  t4 := Tryd.underlying4
  a4 := Tryd.isAgg4
  z4 := Tryd.sizeOf4
  v4 := Tryd.zeroValue4
  t5 := Tryd.underlying5
  a5 := Tryd.isAgg5
  z5 := Tryd.sizeOf5
  v5 := Tryd.zeroValue5
  t9 := Tryd.underlying9
  a9 := Tryd.isAgg9
  z9 := Tryd.sizeOf9
  v9 := Tryd.zeroValue9
  t20 := Tryd.underlying20
  a20 := Tryd.isAgg20
  z20 := Tryd.sizeOf20
  v20 := Tryd.zeroValue20
  t37 := Tryd.underlying55
  a37 := Tryd.isAgg55
  z37 := Tryd.sizeOf55
  v37 := Tryd.zeroValue55
  t46 := Tryd.underlying70
  a46 := Tryd.isAgg70
  z46 := Tryd.sizeOf70
  v46 := Tryd.zeroValue70
  t51 := Tryd.underlying101
  a51 := Tryd.isAgg101
  z51 := Tryd.sizeOf101
  v51 := Tryd.zeroValue101
  t53 := Tryd.underlying67
  a53 := Tryd.isAgg67
  z53 := Tryd.sizeOf67
  v53 := Tryd.zeroValue67
  t70 := Tryd.underlying78
  a70 := Tryd.isAgg78
  z70 := Tryd.sizeOf78
  v70 := Tryd.zeroValue78
  t72 := Tryd.underlying80
  a72 := Tryd.isAgg80
  z72 := Tryd.sizeOf80
  v72 := Tryd.zeroValue80
  t75 := Tryd.underlying43
  a75 := Tryd.isAgg43
  z75 := Tryd.sizeOf43
  v75 := Tryd.zeroValue43
  t76 := Tryd.underlying82
  a76 := Tryd.isAgg82
  z76 := Tryd.sizeOf82
  v76 := Tryd.zeroValue82
  t109 := Tryd.underlying76
  a109 := Tryd.isAgg76
  z109 := Tryd.sizeOf76
  v109 := Tryd.zeroValue76
  t127 := Tryd.underlying107
  a127 := Tryd.isAgg107
  z127 := Tryd.sizeOf107
  v127 := Tryd.zeroValue107
  t146 := Tryd.underlying102
  a146 := Tryd.isAgg102
  z146 := Tryd.sizeOf102
  v146 := Tryd.zeroValue102
  t148 := Tryd.underlying105
  a148 := Tryd.isAgg105
  z148 := Tryd.sizeOf105
  v148 := Tryd.zeroValue105
  t164 := Tryd.underlying116
  a164 := Tryd.isAgg116
  z164 := Tryd.sizeOf116
  v164 := Tryd.zeroValue116 }
theorem Tryd.Builder_Extra_105 : Builder.Extra Tryd.prog Tryd.lays105_ren := {
  sizeBuilder := by kernel_rfl
  liesBuilder := by kernel_rfl
  t5 := Tryd.underlying5
  a5 := Tryd.isAgg5
  z5 := Tryd.sizeOf5
  v5 := Tryd.zeroValue5
  infoByte := by kernel_rfl
  cellsByte := by kernel_rfl
  sizeByte := by kernel_rfl
  neB5 := by decide }
open Go.RowKit Go.Lib in theorem Tryd.strings_Repeat (s : ByteArray) (c : Nat) (w : World) (hc : c ≤ 9223372036854775807) (hlen : s.size * c ≤ 140737488355328) :
    Calls Tryd.prog 50 #[.string s, .int .i64 c] w fun e w' => e = .returned (.string ⟨(Lib.repeatL s.data.toList c).toArray⟩) ∧ Below w.heap.size w w' := Any.strings_Repeat Tryd.lays105 Tryd.Builder_Extra_105 s c w hc hlen
end Go.Proofs

/- Function 42 (strconv.FormatInt): its contract, off what is known of the library. -/
set_option linter.unusedVariables false
set_option linter.unusedSimpArgs false
set_option maxRecDepth 100000
namespace Go.Proofs.YteaocgmbhkclcaaDoor
open Go Go.Am Go.Proofs

def sig42 : List AT := [AT.v (Ty.int .i64), AT.v (Ty.int .i64)]
def g42_0 (x0 x1 : Int) : ByteArray := numB x0
def P42 (x0 x1 : Int) : Prop := x1 = 10
def S42 : Am.Spec := { sig := sig42, pre := fun ⟨x0, x1, _⟩ => P42 x0 x1, res := fun ⟨x0, x1, _⟩ => [⟨Ty.str, g42_0 x0 x1⟩] }
theorem con42 : Contract Tryd.prog 42 S42 := contract_flat rfl fun w ⟨x0, x1, _⟩ vs bss hg hp hw ha => by
  obtain ⟨v0, s0, _, _, rfl, _, ⟨_, rfl, hi⟩, v1, s1, _, _, rfl, _, ⟨_, rfl, _⟩, rfl, _⟩ := ha
  obtain rfl : x1 = 10 := hp
  have hi : InR .i64 x0 := hi
  rw [i64_iff] at hi
  refine ⟨fun d hd => ?_, ?_⟩
  · rw [List.mem_singleton.1 hd]
    refine ⟨rfl, ?_⟩
    show (numB x0).size ≤ maxLen
    have := numB_size x0 hi.1 hi.2
    unfold maxLen; omega
  · refine (Tryd.strconv_FormatInt_10 x0 hi.1 hi.2 w (pow10G hg)).mono ?_
    rintro e w' ⟨rfl, n, os, rfl⟩
    exact ⟨rfl, kept_grow _ _ _⟩

end Go.Proofs.YteaocgmbhkclcaaDoor

/- Function 22 (impl.Decimal): its runs between cut points. Written by a program of this repo (gen). -/
set_option linter.unusedVariables false
set_option linter.unusedSimpArgs false
set_option maxRecDepth 100000
namespace Go.Proofs.YteaocgmbhkclcaaDoor
open Go Go.Am Go.Proofs
def ext22 : Ext := [(42, S42)]
theorem call22_42 : Callable Tryd.prog 42 := ⟨Tryd.f42, Tryd.func42, by kernel_rfl, by kernel_rfl⟩
theorem ext22Ok : ExtOk Tryd.prog ext22 := ⟨⟨call22_42, con42⟩, trivial⟩
/-! Function 22. -/
noncomputable def b22 : Code := bodyOf Tryd.f22
theorem hb22 : Tryd.f22.body = some b22 := by kernel_rfl
def sig22 : List AT := [AT.v (Ty.int IntKind.i64)]
def tys22 : List Ty := [Ty.str]
def P22 (x0 : Int) : Prop := ((P42 x0 10) ∧ True)
def g22_0 (x0 : Int) : ByteArray := g42_0 x0 10
theorem p22_0 (x0 : Int) : runF tab ext22 false 5 [] 2000 [] tys22 Tryd.f22.results [] [.code b22] (entE 0 0 sig22 (x0, ())) (entL sig22 (x0, ())) = some ([Dyn.mk Ty.str (g42_0 x0 10)], [], [P42 x0 10]) := by kernel_rfl
theorem at22 (x0 : Int) (h : P22 x0) (w0 : World) (O : List Nat) (q : Nat → Value) : AtV Tryd.prog 22 (PostR [⟨Ty.str, g22_0 x0⟩] [] [] q w0 O) 5 w0 O q [] [.code b22] (entE 0 0 sig22 (x0, ())) (entL sig22 (x0, ())) := by
  unfold P22 at h
  unfold g22_0
  obtain ⟨s0, h⟩ := h
  exact AtV.fin Tryd.func22 tabOk ext22Ok mixed (p22_0 x0) ⟨s0, trivial⟩

def S22 : Am.Spec := { sig := sig22, pre := fun ⟨x0, _⟩ => P22 x0, res := fun ⟨x0, _⟩ => [⟨Ty.str, g22_0 x0⟩] }
theorem con22 : Contract Tryd.prog 22 S22 := contract_of Tryd.func22 hb22 (Nat.le_of_ble_eq_true (by kernel_rfl)) (fun ⟨x0, _⟩ h _ w0 O q => at22 x0 h w0 O q)


end Go.Proofs.YteaocgmbhkclcaaDoor

/- Function 50 (strings.Repeat): its contract, off what is known of the library. -/
set_option linter.unusedVariables false
set_option linter.unusedSimpArgs false
set_option maxRecDepth 100000
namespace Go.Proofs.YteaocgmbhkclcaaDoor
open Go Go.Am Go.Proofs

def sig50 : List AT := [AT.v Ty.str, AT.v (Ty.int .i64)]
def g50_0 (x0 : ByteArray) (x1 : Int) : ByteArray := ⟨(Lib.repeatL x0.data.toList x1.toNat).toArray⟩
def P50 (x0 : ByteArray) (x1 : Int) : Prop := 0 ≤ x1 ∧ (x0.size : Int) * x1 ≤ 140737488355328
def S50 : Am.Spec := { sig := sig50, pre := fun ⟨x0, x1, _⟩ => P50 x0 x1, res := fun ⟨x0, x1, _⟩ => [⟨Ty.str, g50_0 x0 x1⟩] }
theorem con50 : Contract Tryd.prog 50 S50 := contract_flat rfl fun w ⟨x0, x1, _⟩ vs bss hg hp hw ha => by
  obtain ⟨v0, s0, _, _, rfl, _, ⟨_, rfl, _⟩, v1, s1, _, _, rfl, _, ⟨_, rfl, _⟩, rfl, _⟩ := ha
  obtain ⟨h0, h1⟩ := hp
  obtain ⟨c, rfl⟩ : ∃ c : Nat, x1 = (c : Int) := Int.eq_ofNat_of_zero_le h0
  have hi : InR .i64 (c : Int) := hw.2.1
  rw [i64_iff] at hi
  have hm : x0.size * c ≤ 140737488355328 := by
    have : ((x0.size * c : Nat) : Int) = (x0.size : Int) * (c : Int) := Int.natCast_mul _ _
    omega
  refine ⟨fun d hd => ?_, ?_⟩
  · rw [List.mem_singleton.1 hd]
    refine ⟨rfl, ?_⟩
    show (ByteArray.mk (Lib.repeatL x0.data.toList c).toArray).size ≤ maxLen
    have : (ByteArray.mk (Lib.repeatL x0.data.toList c).toArray).size = c * x0.data.toList.length := by
      show (Lib.repeatL x0.data.toList c).toArray.size = _
      rw [List.size_toArray, Lib.repeatL_length]
    rw [this, Nat.mul_comm]
    have e : x0.data.toList.length = x0.size := rfl
    rw [e]
    unfold maxLen
    omega
  · refine (Tryd.strings_Repeat x0 c w (by omega) hm).mono ?_
    rintro e w' ⟨rfl, hb⟩
    exact ⟨rfl, Kept.of_below hb⟩

end Go.Proofs.YteaocgmbhkclcaaDoor

/- Function 38 (impl.padded): its runs between cut points. Written by a program of this repo (gen). -/
set_option linter.unusedVariables false
set_option linter.unusedSimpArgs false
set_option maxRecDepth 100000
namespace Go.Proofs.YteaocgmbhkclcaaDoor
open Go Go.Am Go.Proofs
def ext38 : Ext := [(22, S22), (50, S50)]
theorem call38_22 : Callable Tryd.prog 22 := ⟨Tryd.f22, Tryd.func22, by kernel_rfl, by kernel_rfl⟩
theorem call38_50 : Callable Tryd.prog 50 := ⟨Tryd.f50, Tryd.func50, by kernel_rfl, by kernel_rfl⟩
theorem ext38Ok : ExtOk Tryd.prog ext38 := ⟨⟨call38_22, con22⟩, ⟨call38_50, con50⟩, trivial⟩
/-! Function 38. -/
noncomputable def b38 : Code := bodyOf Tryd.f38
theorem hb38 : Tryd.f38.body = some b38 := by kernel_rfl
def sig38 : List AT := [AT.v (Ty.int IntKind.i64), AT.v (Ty.int IntKind.i64)]
def tys38 : List Ty := [Ty.str]
def P38 (x0 : Int) (x1 : Int) : Prop := ((P22 x0) ∧ ((InR IntKind.i64 (x1 - (↑(ByteArray.size (g22_0 x0)) : Int))) ∧ ((P50 (ByteArray.mk #[48]) (if 0 < x1 - (↑(ByteArray.size (g22_0 x0)) : Int) then x1 - (↑(ByteArray.size (g22_0 x0)) : Int) else 0)) ∧ ((ByteArray.size (g50_0 (ByteArray.mk #[48]) (if 0 < x1 - (↑(ByteArray.size (g22_0 x0)) : Int) then x1 - (↑(ByteArray.size (g22_0 x0)) : Int) else 0)) + ByteArray.size (g22_0 x0) ≤ 9223372036854775807) ∧ True))))
def g38_0 (x0 : Int) (x1 : Int) : ByteArray := g50_0 (ByteArray.mk #[48]) (if 0 < x1 - (↑(ByteArray.size (g22_0 x0)) : Int) then x1 - (↑(ByteArray.size (g22_0 x0)) : Int) else 0) ++ g22_0 x0
theorem p38_0 (x0 : Int) (x1 : Int) : runF tab ext38 false 16 [] 2000 [] tys38 Tryd.f38.results [] [.code b38] (entE 0 0 sig38 (x0, x1, ())) (entL sig38 (x0, x1, ())) = some ([Dyn.mk Ty.str (g50_0 (ByteArray.mk #[48]) (if 0 < x1 - (↑(ByteArray.size (g22_0 x0)) : Int) then x1 - (↑(ByteArray.size (g22_0 x0)) : Int) else 0) ++ g22_0 x0)], [], [P22 x0, InR IntKind.i64 (x1 - (↑(ByteArray.size (g22_0 x0)) : Int)), P50 (ByteArray.mk #[48]) (if 0 < x1 - (↑(ByteArray.size (g22_0 x0)) : Int) then x1 - (↑(ByteArray.size (g22_0 x0)) : Int) else 0), ByteArray.size (g50_0 (ByteArray.mk #[48]) (if 0 < x1 - (↑(ByteArray.size (g22_0 x0)) : Int) then x1 - (↑(ByteArray.size (g22_0 x0)) : Int) else 0)) + ByteArray.size (g22_0 x0) ≤ 9223372036854775807]) := by kernel_rfl
theorem at38 (x0 : Int) (x1 : Int) (h : P38 x0 x1) (w0 : World) (O : List Nat) (q : Nat → Value) : AtV Tryd.prog 38 (PostR [⟨Ty.str, g38_0 x0 x1⟩] [] [] q w0 O) 16 w0 O q [] [.code b38] (entE 0 0 sig38 (x0, x1, ())) (entL sig38 (x0, x1, ())) := by
  unfold P38 at h
  unfold g38_0
  obtain ⟨s0, h⟩ := h
  obtain ⟨s1, h⟩ := h
  obtain ⟨s2, h⟩ := h
  obtain ⟨s3, h⟩ := h
  exact AtV.fin Tryd.func38 tabOk ext38Ok mixed (p38_0 x0 x1) ⟨s0, s1, s2, s3, trivial⟩

def S38 : Am.Spec := { sig := sig38, pre := fun ⟨x0, x1, _⟩ => P38 x0 x1, res := fun ⟨x0, x1, _⟩ => [⟨Ty.str, g38_0 x0 x1⟩] }
theorem con38 : Contract Tryd.prog 38 S38 := contract_of Tryd.func38 hb38 (Nat.le_of_ble_eq_true (by kernel_rfl)) (fun ⟨x0, x1, _⟩ h _ w0 O q => at38 x0 x1 h w0 O q)


end Go.Proofs.YteaocgmbhkclcaaDoor

/- Function 19 (impl.DateText): its runs between cut points. Written by a program of this repo (gen). -/
set_option linter.unusedVariables false
set_option linter.unusedSimpArgs false
set_option maxRecDepth 100000
namespace Go.Proofs.YteaocgmbhkclcaaDoor
open Go Go.Am Go.Proofs
def ext19 : Ext := [(36, S36), (37, S37), (22, S22), (38, S38)]
theorem call19_36 : Callable Tryd.prog 36 := ⟨Tryd.f36, Tryd.func36, by kernel_rfl, by kernel_rfl⟩
theorem call19_37 : Callable Tryd.prog 37 := ⟨Tryd.f37, Tryd.func37, by kernel_rfl, by kernel_rfl⟩
theorem call19_22 : Callable Tryd.prog 22 := ⟨Tryd.f22, Tryd.func22, by kernel_rfl, by kernel_rfl⟩
theorem call19_38 : Callable Tryd.prog 38 := ⟨Tryd.f38, Tryd.func38, by kernel_rfl, by kernel_rfl⟩
theorem ext19Ok : ExtOk Tryd.prog ext19 := ⟨⟨call19_36, con36⟩, ⟨call19_37, con37⟩, ⟨call19_22, con22⟩, ⟨call19_38, con38⟩, trivial⟩
/-! Function 19. -/
noncomputable def b19 : Code := bodyOf Tryd.f19
theorem hb19 : Tryd.f19.body = some b19 := by kernel_rfl
def sig19 : List AT := [AT.v (Ty.int IntKind.i64)]
def tys19 : List Ty := [Ty.str]
def P19 (x0 : Int) : Prop := (if (!g36_0 x0) = true then True else ((P37 x0) ∧ ((P22 (g37_0 x0)) ∧ ((ByteArray.size (g22_0 (g37_0 x0)) + 1 ≤ 9223372036854775807) ∧ ((P38 (g37_1 x0) 2) ∧ ((ByteArray.size (g22_0 (g37_0 x0) ++ ByteArray.mk #[45]) + ByteArray.size (g38_0 (g37_1 x0) 2) ≤ 9223372036854775807) ∧ ((ByteArray.size (g22_0 (g37_0 x0) ++ ByteArray.mk #[45] ++ g38_0 (g37_1 x0) 2) + 1 ≤ 9223372036854775807) ∧ ((P38 (g37_2 x0) 2) ∧ ((ByteArray.size (g22_0 (g37_0 x0) ++ ByteArray.mk #[45] ++ g38_0 (g37_1 x0) 2 ++ ByteArray.mk #[45]) + ByteArray.size (g38_0 (g37_2 x0) 2) ≤ 9223372036854775807) ∧ True)))))))))
def g19_0 (x0 : Int) : ByteArray := (if (!g36_0 x0) = true then ByteArray.mk #[] else g22_0 (g37_0 x0) ++ ByteArray.mk #[45] ++ g38_0 (g37_1 x0) 2 ++ ByteArray.mk #[45] ++ g38_0 (g37_2 x0) 2)
theorem p19_0 (x0 : Int) : runF tab ext19 false 25 [] 2000 [] tys19 Tryd.f19.results [true] [.code b19] (entE 0 0 sig19 (x0, ())) (entL sig19 (x0, ())) = some ([Dyn.mk Ty.str (ByteArray.mk #[])], [], [True, (!g36_0 x0) = Bool.true]) := by kernel_rfl
theorem p19_1 (x0 : Int) : runF tab ext19 false 25 [] 2000 [] tys19 Tryd.f19.results [false] [.code b19] (entE 0 0 sig19 (x0, ())) (entL sig19 (x0, ())) = some ([Dyn.mk Ty.str (g22_0 (g37_0 x0) ++ ByteArray.mk #[45] ++ g38_0 (g37_1 x0) 2 ++ ByteArray.mk #[45] ++ g38_0 (g37_2 x0) 2)], [], [True, (!g36_0 x0) = Bool.false, P37 x0, P22 (g37_0 x0), ByteArray.size (g22_0 (g37_0 x0)) + 1 ≤ 9223372036854775807, P38 (g37_1 x0) 2, ByteArray.size (g22_0 (g37_0 x0) ++ ByteArray.mk #[45]) + ByteArray.size (g38_0 (g37_1 x0) 2) ≤ 9223372036854775807, ByteArray.size (g22_0 (g37_0 x0) ++ ByteArray.mk #[45] ++ g38_0 (g37_1 x0) 2) + 1 ≤ 9223372036854775807, P38 (g37_2 x0) 2, ByteArray.size (g22_0 (g37_0 x0) ++ ByteArray.mk #[45] ++ g38_0 (g37_1 x0) 2 ++ ByteArray.mk #[45]) + ByteArray.size (g38_0 (g37_2 x0) 2) ≤ 9223372036854775807]) := by kernel_rfl
theorem at19 (x0 : Int) (h : P19 x0) (w0 : World) (O : List Nat) (q : Nat → Value) : AtV Tryd.prog 19 (PostR [⟨Ty.str, g19_0 x0⟩] [] [] q w0 O) 25 w0 O q [] [.code b19] (entE 0 0 sig19 (x0, ())) (entL sig19 (x0, ())) := by
  unfold P19 at h
  unfold g19_0
  by_cases b0 : (!g36_0 x0) = true
  · try simp only [if_pos b0] at h ⊢
    exact AtV.fin Tryd.func19 tabOk ext19Ok mixed (p19_0 x0) ⟨trivial, b0, trivial⟩
  · try simp only [if_neg b0] at h ⊢
    replace b0 := Bool.eq_false_iff.2 b0
    obtain ⟨s0, h⟩ := h
    obtain ⟨s1, h⟩ := h
    obtain ⟨s2, h⟩ := h
    obtain ⟨s3, h⟩ := h
    obtain ⟨s4, h⟩ := h
    obtain ⟨s5, h⟩ := h
    obtain ⟨s6, h⟩ := h
    obtain ⟨s7, h⟩ := h
    exact AtV.fin Tryd.func19 tabOk ext19Ok mixed (p19_1 x0) ⟨trivial, b0, s0, s1, s2, s3, s4, s5, s6, s7, trivial⟩

def S19 : Am.Spec := { sig := sig19, pre := fun ⟨x0, _⟩ => P19 x0, res := fun ⟨x0, _⟩ => [⟨Ty.str, g19_0 x0⟩] }
theorem con19 : Contract Tryd.prog 19 S19 := contract_of Tryd.func19 hb19 (Nat.le_of_ble_eq_true (by kernel_rfl)) (fun ⟨x0, _⟩ h _ w0 O q => at19 x0 h w0 O q)


end Go.Proofs.YteaocgmbhkclcaaDoor

/- Function 11 (impl.TicketText): its runs between cut points. Written by a program of this repo (gen). -/
set_option linter.unusedVariables false
set_option linter.unusedSimpArgs false
set_option maxRecDepth 100000
namespace Go.Proofs.YteaocgmbhkclcaaDoor
open Go Go.Am Go.Proofs
def ext11 : Ext := [(23, S23), (19, S19), (22, S22)]
theorem call11_23 : Callable Tryd.prog 23 := ⟨Tryd.f23, Tryd.func23, by kernel_rfl, by kernel_rfl⟩
theorem call11_19 : Callable Tryd.prog 19 := ⟨Tryd.f19, Tryd.func19, by kernel_rfl, by kernel_rfl⟩
theorem call11_22 : Callable Tryd.prog 22 := ⟨Tryd.f22, Tryd.func22, by kernel_rfl, by kernel_rfl⟩
theorem ext11Ok : ExtOk Tryd.prog ext11 := ⟨⟨call11_23, con23⟩, ⟨call11_19, con19⟩, ⟨call11_22, con22⟩, trivial⟩
/-! Function 11. -/
noncomputable def b11 : Code := bodyOf Tryd.f11
theorem hb11 : Tryd.f11.body = some b11 := by kernel_rfl
def sig11 : List AT := [AT.v (Ty.cons Ty.str (Ty.cons (Ty.int IntKind.i64) (Ty.cons (Ty.int IntKind.i64) Ty.unit)))]
def tys11 : List Ty := [Ty.str]
def P11 (x0 : ByteArray × Int × Int × Unit) : Prop := (if (!g23_0 x0) = true then True else ((ByteArray.size (Prod.fst x0) + 1 ≤ 9223372036854775807) ∧ ((P19 (Prod.fst (Prod.snd x0))) ∧ ((ByteArray.size (Prod.fst x0 ++ ByteArray.mk #[32]) + ByteArray.size (g19_0 (Prod.fst (Prod.snd x0))) ≤ 9223372036854775807) ∧ ((ByteArray.size (Prod.fst x0 ++ ByteArray.mk #[32] ++ g19_0 (Prod.fst (Prod.snd x0))) + 1 ≤ 9223372036854775807) ∧ ((P22 (Prod.fst (Prod.snd (Prod.snd x0)))) ∧ ((ByteArray.size (Prod.fst x0 ++ ByteArray.mk #[32] ++ g19_0 (Prod.fst (Prod.snd x0)) ++ ByteArray.mk #[32]) + ByteArray.size (g22_0 (Prod.fst (Prod.snd (Prod.snd x0)))) ≤ 9223372036854775807) ∧ True)))))))
def g11_0 (x0 : ByteArray × Int × Int × Unit) : ByteArray := (if (!g23_0 x0) = true then ByteArray.mk #[] else Prod.fst x0 ++ ByteArray.mk #[32] ++ g19_0 (Prod.fst (Prod.snd x0)) ++ ByteArray.mk #[32] ++ g22_0 (Prod.fst (Prod.snd (Prod.snd x0))))
theorem p11_0 (x0 : ByteArray × Int × Int × Unit) : runF tab ext11 false 18 [] 2000 [] tys11 Tryd.f11.results [true] [.code b11] (entE 0 0 sig11 (x0, ())) (entL sig11 (x0, ())) = some ([Dyn.mk Ty.str (ByteArray.mk #[])], [], [True, (!g23_0 x0) = Bool.true]) := by kernel_rfl
theorem p11_1 (x0 : ByteArray × Int × Int × Unit) : runF tab ext11 false 18 [] 2000 [] tys11 Tryd.f11.results [false] [.code b11] (entE 0 0 sig11 (x0, ())) (entL sig11 (x0, ())) = some ([Dyn.mk Ty.str (Prod.fst x0 ++ ByteArray.mk #[32] ++ g19_0 (Prod.fst (Prod.snd x0)) ++ ByteArray.mk #[32] ++ g22_0 (Prod.fst (Prod.snd (Prod.snd x0))))], [], [True, (!g23_0 x0) = Bool.false, ByteArray.size (Prod.fst x0) + 1 ≤ 9223372036854775807, P19 (Prod.fst (Prod.snd x0)), ByteArray.size (Prod.fst x0 ++ ByteArray.mk #[32]) + ByteArray.size (g19_0 (Prod.fst (Prod.snd x0))) ≤ 9223372036854775807, ByteArray.size (Prod.fst x0 ++ ByteArray.mk #[32] ++ g19_0 (Prod.fst (Prod.snd x0))) + 1 ≤ 9223372036854775807, P22 (Prod.fst (Prod.snd (Prod.snd x0))), ByteArray.size (Prod.fst x0 ++ ByteArray.mk #[32] ++ g19_0 (Prod.fst (Prod.snd x0)) ++ ByteArray.mk #[32]) + ByteArray.size (g22_0 (Prod.fst (Prod.snd (Prod.snd x0)))) ≤ 9223372036854775807]) := by kernel_rfl
theorem at11 (x0 : ByteArray × Int × Int × Unit) (h : P11 x0) (w0 : World) (O : List Nat) (q : Nat → Value) : AtV Tryd.prog 11 (PostR [⟨Ty.str, g11_0 x0⟩] [] [] q w0 O) 18 w0 O q [] [.code b11] (entE 0 0 sig11 (x0, ())) (entL sig11 (x0, ())) := by
  unfold P11 at h
  unfold g11_0
  by_cases b0 : (!g23_0 x0) = true
  · try simp only [if_pos b0] at h ⊢
    exact AtV.fin Tryd.func11 tabOk ext11Ok mixed (p11_0 x0) ⟨trivial, b0, trivial⟩
  · try simp only [if_neg b0] at h ⊢
    replace b0 := Bool.eq_false_iff.2 b0
    obtain ⟨s0, h⟩ := h
    obtain ⟨s1, h⟩ := h
    obtain ⟨s2, h⟩ := h
    obtain ⟨s3, h⟩ := h
    obtain ⟨s4, h⟩ := h
    obtain ⟨s5, h⟩ := h
    exact AtV.fin Tryd.func11 tabOk ext11Ok mixed (p11_1 x0) ⟨trivial, b0, s0, s1, s2, s3, s4, s5, trivial⟩

def S11 : Am.Spec := { sig := sig11, pre := fun ⟨x0, _⟩ => P11 x0, res := fun ⟨x0, _⟩ => [⟨Ty.str, g11_0 x0⟩] }
theorem con11 : Contract Tryd.prog 11 S11 := contract_of Tryd.func11 hb11 (Nat.le_of_ble_eq_true (by kernel_rfl)) (fun ⟨x0, _⟩ h _ w0 O q => at11 x0 h w0 O q)


end Go.Proofs.YteaocgmbhkclcaaDoor

/- Function 12 (spec.l01Split): its runs between cut points. Written by a program of this repo (gen). -/
set_option linter.unusedVariables false
set_option linter.unusedSimpArgs false
set_option maxRecDepth 100000
namespace Go.Proofs.YteaocgmbhkclcaaDoor
open Go Go.Am Go.Proofs
def ext12 : Ext := []
theorem ext12Ok : ExtOk Tryd.prog ext12 := trivial
/-! Function 12. -/
noncomputable def b12 : Code := bodyOf Tryd.f12
theorem hb12 : Tryd.f12.body = some b12 := by kernel_rfl
def sig12 : List AT := [AT.v (Ty.str), AT.v (Ty.int IntKind.u8)]
def tys12 : List Ty := [Ty.sl Ty.str]
def E12_4 (v6 : Int) (v7 : Int) (h0 : List ByteArray) (x0 : ByteArray) (x1 : Int) : Env := [(0, PV.a (Atom.val (Value.string x0))), (1, PV.a (Atom.val (Value.int IntKind.u8 x1))), (5, PV.a (Atom.osl 0 Option.none)), (6, PV.a (Atom.val (Value.int IntKind.i64 v6))), (7, PV.a (Atom.val (Value.int IntKind.i64 v7)))]
def L12_4 (v6 : Int) (v7 : Int) (h0 : List ByteArray) (x0 : ByteArray) (x1 : Int) : Heap := [Option.some (Arr.mk Ty.str h0 Bool.false)]
mutual
def R12 : Nat → ByteArray → Int → List Dyn → Prop
  | 0, _, _, _ => False
  | n + 1, x0, x1, ds => (R12_4 n (0) (0) ([]) (x0) (x1) ds)
def R12_4 : Nat → Int → Int → List ByteArray → ByteArray → Int → List Dyn → Prop
  | 0, _, _, _, _, _, _ => False
  | n + 1, v6, v7, h0, x0, x1, ds => (if (Decidable.decide (v7 < (↑(ByteArray.size x0) : Int))) = true then ((0 ≤ v7) ∧ (v7 < (↑(ByteArray.size x0) : Int)) ∧ (if ((↑(UInt8.toNat (List.getD (Array.toList (ByteArray.data x0)) (Int.toNat v7) 0)) : Int) == x1) = true then ((0 ≤ v6) ∧ (v6 ≤ v7) ∧ (v7 ≤ (↑(ByteArray.size x0) : Int)) ∧ (((List.length h0 + 1) * 16 ≤ 140737488355328) ∧ ((InR IntKind.i64 (v7 + 1)) ∧ ((InR IntKind.i64 (v7 + 1)) ∧ (R12_4 n (v7 + 1) (v7 + 1) (h0 ++ [ByteArray.extract x0 (Int.toNat v6) (Int.toNat v7)]) (x0) (x1) ds))))) else ((InR IntKind.i64 (v7 + 1)) ∧ (R12_4 n (v6) (v7 + 1) (h0) (x0) (x1) ds)))) else ((0 ≤ v6) ∧ (v6 ≤ (↑(ByteArray.size x0) : Int)) ∧ (((List.length h0 + 1) * 16 ≤ 140737488355328) ∧ (ds = [Dyn.mk (Ty.sl Ty.str) (h0 ++ [ByteArray.extract x0 (Int.toNat v6) (Int.toNat (↑(ByteArray.size x0) : Int))])]))))
end
theorem p12_0 (x0 : ByteArray) (x1 : Int) : Am.runN tab ext12 false 35 [] 2000 [] [] [0, 1, 5, 6, 7] [0] [] [.code b12] (entE 0 0 sig12 (x0, x1, ())) (entL sig12 (x0, x1, ())) = some (cutAt b12 4, E12_4 (0) (0) ([]) (x0) (x1), L12_4 (0) (0) ([]) (x0) (x1), []) := by kernel_rfl
theorem p12_1 (v6 : Int) (v7 : Int) (h0 : List ByteArray) (x0 : ByteArray) (x1 : Int) : Am.runN tab ext12 false 35 [] 2000 [] [] [0, 1, 5, 6, 7] [0] [true, true] (cutAt b12 4) (E12_4 v6 v7 h0 x0 x1) (L12_4 v6 v7 h0 x0 x1) = some (cutAt b12 4, E12_4 (v7 + 1) (v7 + 1) (h0 ++ [ByteArray.extract x0 (Int.toNat v6) (Int.toNat v7)]) (x0) (x1), L12_4 (v7 + 1) (v7 + 1) (h0 ++ [ByteArray.extract x0 (Int.toNat v6) (Int.toNat v7)]) (x0) (x1), [Decidable.decide (v7 < (↑(ByteArray.size x0) : Int)) = Bool.true, 0 ≤ v7, v7 < (↑(ByteArray.size x0) : Int), ((↑(UInt8.toNat (List.getD (Array.toList (ByteArray.data x0)) (Int.toNat v7) 0)) : Int) == x1) = Bool.true, 0 ≤ v6, v6 ≤ v7, v7 ≤ (↑(ByteArray.size x0) : Int), (List.length h0 + 1) * 16 ≤ 140737488355328, InR IntKind.i64 (v7 + 1), InR IntKind.i64 (v7 + 1)]) := by kernel_rfl
theorem p12_2 (v6 : Int) (v7 : Int) (h0 : List ByteArray) (x0 : ByteArray) (x1 : Int) : Am.runN tab ext12 false 35 [] 2000 [] [] [0, 1, 5, 6, 7] [0] [true, false] (cutAt b12 4) (E12_4 v6 v7 h0 x0 x1) (L12_4 v6 v7 h0 x0 x1) = some (cutAt b12 4, E12_4 (v6) (v7 + 1) (h0) (x0) (x1), L12_4 (v6) (v7 + 1) (h0) (x0) (x1), [Decidable.decide (v7 < (↑(ByteArray.size x0) : Int)) = Bool.true, 0 ≤ v7, v7 < (↑(ByteArray.size x0) : Int), ((↑(UInt8.toNat (List.getD (Array.toList (ByteArray.data x0)) (Int.toNat v7) 0)) : Int) == x1) = Bool.false, InR IntKind.i64 (v7 + 1)]) := by kernel_rfl
theorem p12_3 (v6 : Int) (v7 : Int) (h0 : List ByteArray) (x0 : ByteArray) (x1 : Int) : runF tab ext12 false 35 [] 2000 [] tys12 Tryd.f12.results [false] (cutAt b12 4) (E12_4 v6 v7 h0 x0 x1) (L12_4 v6 v7 h0 x0 x1) = some ([Dyn.mk (Ty.sl Ty.str) (h0 ++ [ByteArray.extract x0 (Int.toNat v6) (Int.toNat (↑(ByteArray.size x0) : Int))])], [], [Decidable.decide (v7 < (↑(ByteArray.size x0) : Int)) = Bool.false, 0 ≤ v6, v6 ≤ (↑(ByteArray.size x0) : Int), (List.length h0 + 1) * 16 ≤ 140737488355328]) := by kernel_rfl
theorem snd12 : ∀ n, (∀ (x0 : ByteArray) (x1 : Int) ds, R12 n x0 x1 ds → ∀ w0 O q, AtV Tryd.prog 12 (PostR ds [] [] q w0 O) 35 w0 O q [] [.code b12] (entE 0 0 sig12 (x0, x1, ())) (entL sig12 (x0, x1, ()))) ∧ (∀ (v6 : Int) (v7 : Int) (h0 : List ByteArray) (x0 : ByteArray) (x1 : Int) ds, R12_4 n v6 v7 h0 x0 x1 ds → ∀ w0 O q, AtV Tryd.prog 12 (PostR ds [] [] q w0 O) 35 w0 O q [] (cutAt b12 4) (E12_4 v6 v7 h0 x0 x1) (L12_4 v6 v7 h0 x0 x1)) := by
  intro n
  induction n with
  | zero => exact ⟨fun _ _ _ h => by simp only [R12] at h, fun _ _ _ _ _ _ h => by simp only [R12_4] at h⟩
  | succ n ih =>
  obtain ⟨ih, ih4⟩ := ih
  refine ⟨?_, ?_⟩
  · intro x0 x1 ds h w0 O q
    rw [R12] at h
    exact AtV.runN tabOk ext12Ok mixed (p12_0 x0 x1) trivial (ih4 _ _ _ _ _ _ h w0 O q)

  · intro v6 v7 h0 x0 x1 ds h w0 O q
    rw [R12_4] at h
    by_cases b0 : (Decidable.decide (v7 < (↑(ByteArray.size x0) : Int))) = true
    · rw [if_pos b0] at h
      obtain ⟨s0, s1, h⟩ := h
      by_cases b1 : ((↑(UInt8.toNat (List.getD (Array.toList (ByteArray.data x0)) (Int.toNat v7) 0)) : Int) == x1) = true
      · rw [if_pos b1] at h
        obtain ⟨s2, s3, s4, h⟩ := h
        obtain ⟨s5, h⟩ := h
        obtain ⟨s6, h⟩ := h
        obtain ⟨s7, h⟩ := h
        exact AtV.runN tabOk ext12Ok mixed (p12_1 v6 v7 h0 x0 x1) ⟨b0, s0, s1, b1, s2, s3, s4, s5, s6, s7, trivial⟩ (ih4 _ _ _ _ _ _ h w0 O q)
      · rw [if_neg b1] at h
        replace b1 := Bool.eq_false_iff.2 b1
        obtain ⟨s2, h⟩ := h
        exact AtV.runN tabOk ext12Ok mixed (p12_2 v6 v7 h0 x0 x1) ⟨b0, s0, s1, b1, s2, trivial⟩ (ih4 _ _ _ _ _ _ h w0 O q)
    · rw [if_neg b0] at h
      replace b0 := Bool.eq_false_iff.2 b0
      obtain ⟨s0, s1, h⟩ := h
      obtain ⟨s2, h⟩ := h
      subst h
      exact AtV.fin Tryd.func12 tabOk ext12Ok mixed (p12_3 v6 v7 h0 x0 x1) ⟨b0, s0, s1, s2, trivial⟩



def c12 (x1 : Int) : UInt8 := UInt8.ofNat x1.toNat
def g12_0 (x0 : ByteArray) (x1 : Int) : List ByteArray := bss (splitC (c12 x1) x0.data.toList)
def P12 (x0 : ByteArray) (x1 : Int) : Prop := x0.size < 4294967281 ∧ 0 ≤ x1 ∧ x1 ≤ 255

theorem run12 (x0 : ByteArray) (x1 : Int) (hs : x0.size < 4294967281) (h0 : 0 ≤ x1) (h1 : x1 ≤ 255) : ∀ (k i frm : Nat) (h : List ByteArray), i + k = x0.size → frm ≤ i → c12 x1 ∉ (x0.data.toList.drop frm).take (i - frm) → h.length ≤ i →
    R12_4 (k + 1) (frm : Int) (i : Int) h x0 x1 [⟨.sl .str, h ++ bss (splitC (c12 x1) (x0.data.toList.drop frm))⟩] := by
  intro k
  have hll : x0.data.toList.length = x0.size := rfl
  induction k with
  | zero =>
    intro i frm h hi hf hc hl
    rw [R12_4, if_neg (by simp; omega)]
    refine ⟨by omega, by omega, by omega, ?_⟩
    have e : (x0.data.toList.drop frm).take (i - frm) = x0.data.toList.drop frm := List.take_of_length_le (by rw [List.length_drop]; omega)
    rw [e] at hc
    rw [splitC_free _ hc, Int.toNat_natCast, Int.toNat_natCast, Lib.extract_from]
    rfl
  | succ k ih =>
    intro i frm h hi hf hc hl
    have hup : InR .i64 ((i : Int) + 1) := by rw [i64_iff]; omega
    have hlt : i < x0.data.toList.length := by rw [hll]; omega
    have hcons : x0.data.toList.drop i = x0.data.toList.getD i 0 :: x0.data.toList.drop (i + 1) := drop_get _ i 0 hlt
    have hsplit : x0.data.toList.drop frm = (x0.data.toList.drop frm).take (i - frm) ++ x0.data.toList.drop i := by
      conv => lhs; rw [← List.take_append_drop (i - frm) (x0.data.toList.drop frm)]
      rw [List.drop_drop, show frm + (i - frm) = i by omega]
    rw [R12_4, if_pos (by simp; omega)]
    simp only [Int.toNat_natCast]
    refine ⟨by omega, by omega, ?_⟩
    have hb : (((x0.data.toList.getD i 0).toNat : Int) == x1) = true ↔ x0.data.toList.getD i 0 = c12 x1 := by
      have hlt' := (x0.data.toList.getD i 0).toNat_lt
      rw [beq_iff_eq, ← UInt8.toNat_inj]
      unfold c12
      have : (UInt8.ofNat x1.toNat).toNat = x1.toNat := by rw [UInt8.toNat_ofNat']; omega
      rw [this]
      omega
    by_cases he : x0.data.toList.getD i 0 = c12 x1
    · rw [if_pos (hb.2 he)]
      refine ⟨by omega, by omega, by omega, by omega, hup, hup, ?_⟩
      have := ih (i + 1) (i + 1) (h ++ [x0.extract frm i]) (by omega) (Nat.le_refl _) (by simp) (by simp; omega)
      have e2 : x0.extract frm i = ⟨((x0.data.toList.drop frm).take (i - frm)).toArray⟩ := Lib.extract_mk x0.data.toList frm i
      have e3 : splitC (c12 x1) (x0.data.toList.drop frm) = (x0.data.toList.drop frm).take (i - frm) :: splitC (c12 x1) (x0.data.toList.drop (i + 1)) := by
        conv => lhs; rw [hsplit, hcons, he]
        exact splitC_hit _ _ hc
      rw [e3, e2]
      rw [List.append_assoc, e2] at this
      exact this
    · rw [if_neg (fun hh => he (hb.1 hh))]
      refine ⟨hup, ?_⟩
      refine ih (i + 1) frm h (by omega) (by omega) (fun hm => ?_) (by omega)
      have e4 : (x0.data.toList.drop frm).take (i + 1 - frm) = (x0.data.toList.drop frm).take (i - frm) ++ [x0.data.toList.getD i 0] := by
        conv => lhs; rw [hsplit, hcons]
        rw [List.take_append, List.take_of_length_le (by rw [List.length_take, List.length_drop]; omega)]
        have : i + 1 - frm - ((x0.data.toList.drop frm).take (i - frm)).length = 1 := by rw [List.length_take, List.length_drop]; omega
        rw [this]
        rfl
      rw [e4] at hm
      rcases List.mem_append.1 hm with hm | hm
      · exact hc hm
      · exact he (List.mem_singleton.1 hm).symm

theorem top12 (x0 : ByteArray) (x1 : Int) (h : P12 x0 x1) : R12 (x0.size + 1 + 1) x0 x1 [⟨.sl .str, g12_0 x0 x1⟩] := by
  rw [R12]
  have := run12 x0 x1 h.1 h.2.1 h.2.2 x0.size 0 0 [] (by omega) (Nat.le_refl _) (by simp) (by simp)
  simpa [g12_0] using this

def S12 : Am.Spec := { sig := sig12, pre := fun ⟨x0, x1, _⟩ => P12 x0 x1, res := fun ⟨x0, x1, _⟩ => [⟨.sl .str, g12_0 x0 x1⟩] }
theorem con12 : Contract Tryd.prog 12 S12 := contract_of Tryd.func12 hb12 (Nat.le_of_ble_eq_true (by kernel_rfl)) (fun ⟨x0, x1, _⟩ h hwf w0 O q =>
  (snd12 _).1 x0 x1 _ (top12 x0 x1 h) w0 O q)

end Go.Proofs.YteaocgmbhkclcaaDoor

/- Function 24 (spec.l02Digits): its runs between cut points. Written by a program of this repo (gen). -/
set_option linter.unusedVariables false
set_option linter.unusedSimpArgs false
set_option maxRecDepth 100000
namespace Go.Proofs.YteaocgmbhkclcaaDoor
open Go Go.Am Go.Proofs
def ext24 : Ext := [(26, S26)]
theorem call24_26 : Callable Tryd.prog 26 := ⟨Tryd.f26, Tryd.func26, by kernel_rfl, by kernel_rfl⟩
theorem ext24Ok : ExtOk Tryd.prog ext24 := ⟨⟨call24_26, con26⟩, trivial⟩
/-! Function 24. -/
noncomputable def b24 : Code := bodyOf Tryd.f24
theorem hb24 : Tryd.f24.body = some b24 := by kernel_rfl
def sig24 : List AT := [AT.v (Ty.str)]
def tys24 : List Ty := [Ty.int IntKind.i64, Ty.bool]
def E24_3 (v4 : Int) (v5 : Int) (x0 : ByteArray) : Env := [(0, PV.a (Atom.val (Value.string x0))), (4, PV.a (Atom.val (Value.int IntKind.i64 v4))), (5, PV.a (Atom.val (Value.int IntKind.i64 v5)))]
def L24_3 (v4 : Int) (v5 : Int) (x0 : ByteArray) : Heap := []
mutual
def R24 : Nat → ByteArray → List Dyn → Prop
  | 0, _, _ => False
  | n + 1, x0, ds => (R24_3 n (0) (0) (x0) ds)
def R24_3 : Nat → Int → Int → ByteArray → List Dyn → Prop
  | 0, _, _, _, _ => False
  | n + 1, v4, v5, x0, ds => (if (Decidable.decide (v5 < (↑(ByteArray.size x0) : Int))) = true then ((0 ≤ v5) ∧ (v5 < (↑(ByteArray.size x0) : Int)) ∧ (if (!g26_0 (↑(UInt8.toNat (List.getD (Array.toList (ByteArray.data x0)) (Int.toNat v5) 0)) : Int)) = true then (ds = [Dyn.mk (Ty.int IntKind.i64) 0, Dyn.mk Ty.bool Bool.false]) else ((InR IntKind.i64 (10 * v4)) ∧ ((0 ≤ v5) ∧ (v5 < (↑(ByteArray.size x0) : Int)) ∧ ((InR IntKind.u8 ((↑(UInt8.toNat (List.getD (Array.toList (ByteArray.data x0)) (Int.toNat v5) 0)) : Int) - 48)) ∧ ((InR IntKind.i64 ((↑(UInt8.toNat (List.getD (Array.toList (ByteArray.data x0)) (Int.toNat v5) 0)) : Int) - 48)) ∧ ((InR IntKind.i64 (10 * v4 + ((↑(UInt8.toNat (List.getD (Array.toList (ByteArray.data x0)) (Int.toNat v5) 0)) : Int) - 48))) ∧ ((InR IntKind.i64 (v5 + 1)) ∧ (R24_3 n (10 * v4 + ((↑(UInt8.toNat (List.getD (Array.toList (ByteArray.data x0)) (Int.toNat v5) 0)) : Int) - 48)) (v5 + 1) (x0) ds))))))))) else (ds = [Dyn.mk (Ty.int IntKind.i64) v4, Dyn.mk Ty.bool Bool.true]))
end
theorem p24_0 (x0 : ByteArray) : Am.runN tab ext24 false 26 [] 2000 [] [] [0, 4, 5] [] [] [.code b24] (entE 0 0 sig24 (x0, ())) (entL sig24 (x0, ())) = some (cutAt b24 3, E24_3 (0) (0) (x0), L24_3 (0) (0) (x0), []) := by kernel_rfl
theorem p24_1 (v4 : Int) (v5 : Int) (x0 : ByteArray) : runF tab ext24 false 26 [] 2000 [] tys24 Tryd.f24.results [true, true] (cutAt b24 3) (E24_3 v4 v5 x0) (L24_3 v4 v5 x0) = some ([Dyn.mk (Ty.int IntKind.i64) 0, Dyn.mk Ty.bool Bool.false], [], [Decidable.decide (v5 < (↑(ByteArray.size x0) : Int)) = Bool.true, 0 ≤ v5, v5 < (↑(ByteArray.size x0) : Int), True, (!g26_0 (↑(UInt8.toNat (List.getD (Array.toList (ByteArray.data x0)) (Int.toNat v5) 0)) : Int)) = Bool.true]) := by kernel_rfl
theorem p24_2 (v4 : Int) (v5 : Int) (x0 : ByteArray) : Am.runN tab ext24 false 26 [] 2000 [] [] [0, 4, 5] [] [true, false] (cutAt b24 3) (E24_3 v4 v5 x0) (L24_3 v4 v5 x0) = some (cutAt b24 3, E24_3 (10 * v4 + ((↑(UInt8.toNat (List.getD (Array.toList (ByteArray.data x0)) (Int.toNat v5) 0)) : Int) - 48)) (v5 + 1) (x0), L24_3 (10 * v4 + ((↑(UInt8.toNat (List.getD (Array.toList (ByteArray.data x0)) (Int.toNat v5) 0)) : Int) - 48)) (v5 + 1) (x0), [Decidable.decide (v5 < (↑(ByteArray.size x0) : Int)) = Bool.true, 0 ≤ v5, v5 < (↑(ByteArray.size x0) : Int), True, (!g26_0 (↑(UInt8.toNat (List.getD (Array.toList (ByteArray.data x0)) (Int.toNat v5) 0)) : Int)) = Bool.false, InR IntKind.i64 (10 * v4), 0 ≤ v5, v5 < (↑(ByteArray.size x0) : Int), InR IntKind.u8 ((↑(UInt8.toNat (List.getD (Array.toList (ByteArray.data x0)) (Int.toNat v5) 0)) : Int) - 48), InR IntKind.i64 ((↑(UInt8.toNat (List.getD (Array.toList (ByteArray.data x0)) (Int.toNat v5) 0)) : Int) - 48), InR IntKind.i64 (10 * v4 + ((↑(UInt8.toNat (List.getD (Array.toList (ByteArray.data x0)) (Int.toNat v5) 0)) : Int) - 48)), InR IntKind.i64 (v5 + 1)]) := by kernel_rfl
theorem p24_3 (v4 : Int) (v5 : Int) (x0 : ByteArray) : runF tab ext24 false 26 [] 2000 [] tys24 Tryd.f24.results [false] (cutAt b24 3) (E24_3 v4 v5 x0) (L24_3 v4 v5 x0) = some ([Dyn.mk (Ty.int IntKind.i64) v4, Dyn.mk Ty.bool Bool.true], [], [Decidable.decide (v5 < (↑(ByteArray.size x0) : Int)) = Bool.false]) := by kernel_rfl
theorem snd24 : ∀ n, (∀ (x0 : ByteArray) ds, R24 n x0 ds → ∀ w0 O q, AtV Tryd.prog 24 (PostR ds [] [] q w0 O) 26 w0 O q [] [.code b24] (entE 0 0 sig24 (x0, ())) (entL sig24 (x0, ()))) ∧ (∀ (v4 : Int) (v5 : Int) (x0 : ByteArray) ds, R24_3 n v4 v5 x0 ds → ∀ w0 O q, AtV Tryd.prog 24 (PostR ds [] [] q w0 O) 26 w0 O q [] (cutAt b24 3) (E24_3 v4 v5 x0) (L24_3 v4 v5 x0)) := by
  intro n
  induction n with
  | zero => exact ⟨fun _ _ h => by simp only [R24] at h, fun _ _ _ _ h => by simp only [R24_3] at h⟩
  | succ n ih =>
  obtain ⟨ih, ih3⟩ := ih
  refine ⟨?_, ?_⟩
  · intro x0 ds h w0 O q
    rw [R24] at h
    exact AtV.runN tabOk ext24Ok mixed (p24_0 x0) trivial (ih3 _ _ _ _ h w0 O q)

  · intro v4 v5 x0 ds h w0 O q
    rw [R24_3] at h
    by_cases b0 : (Decidable.decide (v5 < (↑(ByteArray.size x0) : Int))) = true
    · rw [if_pos b0] at h
      obtain ⟨s0, s1, h⟩ := h
      by_cases b1 : (!g26_0 (↑(UInt8.toNat (List.getD (Array.toList (ByteArray.data x0)) (Int.toNat v5) 0)) : Int)) = true
      · rw [if_pos b1] at h
        subst h
        exact AtV.fin Tryd.func24 tabOk ext24Ok mixed (p24_1 v4 v5 x0) ⟨b0, s0, s1, trivial, b1, trivial⟩
      · rw [if_neg b1] at h
        replace b1 := Bool.eq_false_iff.2 b1
        obtain ⟨s2, h⟩ := h
        obtain ⟨s3, s4, h⟩ := h
        obtain ⟨s5, h⟩ := h
        obtain ⟨s6, h⟩ := h
        obtain ⟨s7, h⟩ := h
        obtain ⟨s8, h⟩ := h
        exact AtV.runN tabOk ext24Ok mixed (p24_2 v4 v5 x0) ⟨b0, s0, s1, trivial, b1, s2, s3, s4, s5, s6, s7, s8, trivial⟩ (ih3 _ _ _ _ h w0 O q)
    · rw [if_neg b0] at h
      replace b0 := Bool.eq_false_iff.2 b0
      subst h
      exact AtV.fin Tryd.func24 tabOk ext24Ok mixed (p24_3 v4 v5 x0) ⟨b0, trivial⟩



def d24 (b : UInt8) : Bool := decide (48 ≤ b.toNat) && decide (b.toNat ≤ 57)
def dig24 : List UInt8 → Int → Int × Bool
  | [], n => (n, true)
  | b :: r, n => if d24 b then dig24 r (10 * n + ((b.toNat : Int) - 48)) else (0, false)
def g24_0 (x0 : ByteArray) : Int := (dig24 x0.data.toList 0).1
def g24_1 (x0 : ByteArray) : Bool := (dig24 x0.data.toList 0).2
def P24 (x0 : ByteArray) : Prop := x0.size ≤ 18

theorem run24 (x0 : ByteArray) (hs : x0.size ≤ 18) : ∀ (k i m : Nat), i + k = x0.size → m < 10 ^ i →
    R24_3 (k + 1) (m : Int) (i : Int) x0 [⟨.int .i64, (dig24 (x0.data.toList.drop i) (m : Int)).1⟩, ⟨.bool, (dig24 (x0.data.toList.drop i) (m : Int)).2⟩] := by
  intro k
  have hll : x0.data.toList.length = x0.size := rfl
  induction k with
  | zero =>
    intro i m hi hm
    rw [R24_3, if_neg (by simp; omega), List.drop_of_length_le (by omega)]
    rfl
  | succ k ih =>
    intro i m hi hm
    have hlt : i < x0.data.toList.length := by rw [hll]; omega
    have hcons : x0.data.toList.drop i = x0.data.toList.getD i 0 :: x0.data.toList.drop (i + 1) := drop_get _ i 0 hlt
    rw [R24_3, if_pos (by simp; omega), hcons]
    simp only [Int.toNat_natCast]
    generalize x0.data.toList.getD i 0 = b at *
    refine ⟨by omega, by omega, ?_⟩
    have hg : g26_0 (b.toNat : Int) = d24 b := by
      unfold g26_0 d24
      by_cases h1 : 48 ≤ b.toNat
      · have h1' : (b.toNat : Int) ≥ 48 := by omega
        by_cases h2 : b.toNat ≤ 57
        · have h2' : (b.toNat : Int) ≤ 57 := by omega
          simp [h1, h2, h1', h2']
        · have h2' : ¬ (b.toNat : Int) ≤ 57 := by omega
          simp [h1, h2, h1', h2']
      · have h1' : ¬ (b.toNat : Int) ≥ 48 := by omega
        simp [h1, h1']
    rw [hg]
    unfold dig24
    cases hd : d24 b with
    | false => rfl
    | true =>
      have hd' : 48 ≤ b.toNat ∧ b.toNat ≤ 57 := by unfold d24 at hd; simpa using hd
      have hp : 10 ^ i ≤ 10 ^ 17 := Nat.pow_le_pow_right (by decide) (by omega)
      have hm2 : m < 100000000000000000 := Nat.lt_of_lt_of_le hm hp
      simp only [Bool.not_true, Bool.false_eq_true, if_false, if_true]
      refine ⟨by rw [i64_iff]; omega, by omega, by omega, ?_, by rw [i64_iff]; omega, by rw [i64_iff]; omega, by rw [i64_iff]; omega, ?_⟩
      · rw [u8_iff]; omega
      · have e1 : 10 * (m : Int) + ((b.toNat : Int) - 48) = ((10 * m + (b.toNat - 48) : Nat) : Int) := by omega
        have e2 : (i : Int) + 1 = ((i + 1 : Nat) : Int) := by omega
        rw [e1, e2]
        exact ih (i + 1) (10 * m + (b.toNat - 48)) (by omega) (by rw [Nat.pow_succ]; omega)

theorem top24 (x0 : ByteArray) (h : P24 x0) : R24 (x0.size + 1 + 1) x0 [⟨.int .i64, g24_0 x0⟩, ⟨.bool, g24_1 x0⟩] := by
  rw [R24]
  exact run24 x0 h x0.size 0 0 (by omega) (by decide)

def S24 : Am.Spec := { sig := sig24, pre := fun ⟨x0, _⟩ => P24 x0, res := fun ⟨x0, _⟩ => [⟨.int .i64, g24_0 x0⟩, ⟨.bool, g24_1 x0⟩] }
theorem con24 : Contract Tryd.prog 24 S24 := contract_of Tryd.func24 hb24 (Nat.le_of_ble_eq_true (by kernel_rfl)) (fun ⟨x0, _⟩ h hwf w0 O q =>
  (snd24 _).1 x0 _ (top24 x0 h) w0 O q)

end Go.Proofs.YteaocgmbhkclcaaDoor

/- Function 44 (spec.l02Length): its runs between cut points. Written by a program of this repo (gen). -/
set_option linter.unusedVariables false
set_option linter.unusedSimpArgs false
set_option maxRecDepth 100000
namespace Go.Proofs.YteaocgmbhkclcaaDoor
open Go Go.Am Go.Proofs
def ext44 : Ext := []
theorem ext44Ok : ExtOk Tryd.prog ext44 := trivial
/-! Function 44. -/
noncomputable def b44 : Code := bodyOf Tryd.f44
theorem hb44 : Tryd.f44.body = some b44 := by kernel_rfl
def sig44 : List AT := [AT.v (Ty.int IntKind.i64), AT.v (Ty.int IntKind.i64)]
def tys44 : List Ty := [Ty.int IntKind.i64]
def P44 (x0 : Int) (x1 : Int) : Prop := (if (x1 == 2) = true then ((InR IntKind.i64 (Int.tmod x0 4)) ∧ (if (Int.tmod x0 4 == 0) = true then True else ((InR IntKind.i64 (x1 - 1)) ∧ ((0 ≤ x1 - 1) ∧ (x1 - 1 < 12) ∧ True)))) else ((InR IntKind.i64 (x1 - 1)) ∧ ((0 ≤ x1 - 1) ∧ (x1 - 1 < 12) ∧ True)))
def g44_0 (x0 : Int) (x1 : Int) : Int := (if (x1 == 2) = true then (if (Int.tmod x0 4 == 0) = true then 29 else List.getD [31, 28, 31, 30, 31, 30, 31, 31, 30, 31, 30, 31] (Int.toNat (x1 - 1)) 0) else List.getD [31, 28, 31, 30, 31, 30, 31, 31, 30, 31, 30, 31] (Int.toNat (x1 - 1)) 0)
theorem p44_0 (x0 : Int) (x1 : Int) : runF tab ext44 false 19 [] 2000 [] tys44 Tryd.f44.results [true, true] [.code b44] (entE 0 0 sig44 (x0, x1, ())) (entL sig44 (x0, x1, ())) = some ([Dyn.mk (Ty.int IntKind.i64) 29], [], [(x1 == 2) = Bool.true, (4 : Int) ≠ (0 : Int), InR IntKind.i64 (Int.tmod x0 4), (Int.tmod x0 4 == 0) = Bool.true]) := by kernel_rfl
theorem p44_1 (x0 : Int) (x1 : Int) : runF tab ext44 false 19 [] 2000 [] tys44 Tryd.f44.results [true, false] [.code b44] (entE 0 0 sig44 (x0, x1, ())) (entL sig44 (x0, x1, ())) = some ([Dyn.mk (Ty.int IntKind.i64) (List.getD [31, 28, 31, 30, 31, 30, 31, 31, 30, 31, 30, 31] (Int.toNat (x1 - 1)) 0)], [], [(x1 == 2) = Bool.true, (4 : Int) ≠ (0 : Int), InR IntKind.i64 (Int.tmod x0 4), (Int.tmod x0 4 == 0) = Bool.false, InR IntKind.i64 (x1 - 1), 0 ≤ x1 - 1, x1 - 1 < 12]) := by kernel_rfl
theorem p44_2 (x0 : Int) (x1 : Int) : runF tab ext44 false 19 [] 2000 [] tys44 Tryd.f44.results [false, false] [.code b44] (entE 0 0 sig44 (x0, x1, ())) (entL sig44 (x0, x1, ())) = some ([Dyn.mk (Ty.int IntKind.i64) (List.getD [31, 28, 31, 30, 31, 30, 31, 31, 30, 31, 30, 31] (Int.toNat (x1 - 1)) 0)], [], [(x1 == 2) = Bool.false, Bool.false = Bool.false, InR IntKind.i64 (x1 - 1), 0 ≤ x1 - 1, x1 - 1 < 12]) := by kernel_rfl
theorem at44 (x0 : Int) (x1 : Int) (h : P44 x0 x1) (w0 : World) (O : List Nat) (q : Nat → Value) : AtV Tryd.prog 44 (PostR [⟨Ty.int IntKind.i64, g44_0 x0 x1⟩] [] [] q w0 O) 19 w0 O q [] [.code b44] (entE 0 0 sig44 (x0, x1, ())) (entL sig44 (x0, x1, ())) := by
  unfold P44 at h
  unfold g44_0
  by_cases b0 : (x1 == 2) = true
  · try simp only [if_pos b0] at h ⊢
    obtain ⟨s0, h⟩ := h
    by_cases b1 : (Int.tmod x0 4 == 0) = true
    · try simp only [if_pos b1] at h ⊢
      exact AtV.fin Tryd.func44 tabOk ext44Ok mixed (p44_0 x0 x1) ⟨b0, (by decide), s0, b1, trivial⟩
    · try simp only [if_neg b1] at h ⊢
      replace b1 := Bool.eq_false_iff.2 b1
      obtain ⟨s1, h⟩ := h
      obtain ⟨s2, s3, h⟩ := h
      exact AtV.fin Tryd.func44 tabOk ext44Ok mixed (p44_1 x0 x1) ⟨b0, (by decide), s0, b1, s1, s2, s3, trivial⟩
  · try simp only [if_neg b0] at h ⊢
    replace b0 := Bool.eq_false_iff.2 b0
    obtain ⟨s0, h⟩ := h
    obtain ⟨s1, s2, h⟩ := h
    exact AtV.fin Tryd.func44 tabOk ext44Ok mixed (p44_2 x0 x1) ⟨b0, rfl, s0, s1, s2, trivial⟩

def S44 : Am.Spec := { sig := sig44, pre := fun ⟨x0, x1, _⟩ => P44 x0 x1, res := fun ⟨x0, x1, _⟩ => [⟨Ty.int IntKind.i64, g44_0 x0 x1⟩] }
theorem con44 : Contract Tryd.prog 44 S44 := contract_of Tryd.func44 hb44 (Nat.le_of_ble_eq_true (by kernel_rfl)) (fun ⟨x0, x1, _⟩ h _ w0 O q => at44 x0 x1 h w0 O q)


end Go.Proofs.YteaocgmbhkclcaaDoor

/- Function 25 (spec.l02Number): its runs between cut points. Written by a program of this repo (gen). -/
set_option linter.unusedVariables false
set_option linter.unusedSimpArgs false
set_option maxRecDepth 100000
namespace Go.Proofs.YteaocgmbhkclcaaDoor
open Go Go.Am Go.Proofs
def ext25 : Ext := [(29, S29), (44, S44)]
theorem call25_29 : Callable Tryd.prog 29 := ⟨Tryd.f29, Tryd.func29, by kernel_rfl, by kernel_rfl⟩
theorem call25_44 : Callable Tryd.prog 44 := ⟨Tryd.f44, Tryd.func44, by kernel_rfl, by kernel_rfl⟩
theorem ext25Ok : ExtOk Tryd.prog ext25 := ⟨⟨call25_29, con29⟩, ⟨call25_44, con44⟩, trivial⟩
/-! Function 25. -/
noncomputable def b25 : Code := bodyOf Tryd.f25
theorem hb25 : Tryd.f25.body = some b25 := by kernel_rfl
def sig25 : List AT := [AT.v (Ty.int IntKind.i64), AT.v (Ty.int IntKind.i64), AT.v (Ty.int IntKind.i64)]
def tys25 : List Ty := [Ty.int IntKind.i64, Ty.bool]
def E25_5 (v8 : Int) (v9 : Int) (x0 : Int) (x1 : Int) : Env := [(0, PV.a (Atom.val (Value.int IntKind.i64 x0))), (1, PV.a (Atom.val (Value.int IntKind.i64 x1))), (8, PV.a (Atom.val (Value.int IntKind.i64 v8))), (9, PV.a (Atom.val (Value.int IntKind.i64 v9)))]
def L25_5 (v8 : Int) (v9 : Int) (x0 : Int) (x1 : Int) : Heap := []
def E25_11 (v8 : Int) (v10 : Int) (x0 : Int) (x1 : Int) : Env := [(0, PV.a (Atom.val (Value.int IntKind.i64 x0))), (1, PV.a (Atom.val (Value.int IntKind.i64 x1))), (8, PV.a (Atom.val (Value.int IntKind.i64 v8))), (10, PV.a (Atom.val (Value.int IntKind.i64 v10)))]
def L25_11 (v8 : Int) (v10 : Int) (x0 : Int) (x1 : Int) : Heap := []
mutual
def R25 : Nat → Int → Int → Int → List Dyn → Prop
  | 0, _, _, _, _ => False
  | n + 1, x0, x1, x2, ds => (if (!g29_0 x0 2000 2099) = true then (ds = [Dyn.mk (Ty.int IntKind.i64) 0, Dyn.mk Ty.bool Bool.false]) else (if (!g29_0 x1 1 12) = true then (ds = [Dyn.mk (Ty.int IntKind.i64) 0, Dyn.mk Ty.bool Bool.false]) else ((P44 x0 x1) ∧ (if (!g29_0 x2 1 (g44_0 x0 x1)) = true then (ds = [Dyn.mk (Ty.int IntKind.i64) 0, Dyn.mk Ty.bool Bool.false]) else ((InR IntKind.i64 (x2 - 1)) ∧ (R25_5 n (x2 - 1) (2000) (x0) (x1) ds))))))
def R25_5 : Nat → Int → Int → Int → Int → List Dyn → Prop
  | 0, _, _, _, _, _ => False
  | n + 1, v8, v9, x0, x1, ds => (if (Decidable.decide (v9 < x0)) = true then ((InR IntKind.i64 (v8 + 365)) ∧ ((InR IntKind.i64 (Int.tmod v9 4)) ∧ (if (Int.tmod v9 4 == 0) = true then ((InR IntKind.i64 (v8 + 365 + 1)) ∧ ((InR IntKind.i64 (v9 + 1)) ∧ (R25_5 n (v8 + 365 + 1) (v9 + 1) (x0) (x1) ds))) else ((InR IntKind.i64 (v9 + 1)) ∧ (R25_5 n (v8 + 365) (v9 + 1) (x0) (x1) ds))))) else (R25_11 n (v8) (1) (x0) (x1) ds))
def R25_11 : Nat → Int → Int → Int → Int → List Dyn → Prop
  | 0, _, _, _, _, _ => False
  | n + 1, v8, v10, x0, x1, ds => (if (Decidable.decide (v10 < x1)) = true then ((P44 x0 v10) ∧ ((InR IntKind.i64 (v8 + g44_0 x0 v10)) ∧ ((InR IntKind.i64 (v10 + 1)) ∧ (R25_11 n (v8 + g44_0 x0 v10) (v10 + 1) (x0) (x1) ds)))) else (ds = [Dyn.mk (Ty.int IntKind.i64) v8, Dyn.mk Ty.bool Bool.true]))
end
theorem p25_0 (x0 : Int) (x1 : Int) (x2 : Int) : runF tab ext25 false 52 [] 2000 [] tys25 Tryd.f25.results [true, true, true] [.code b25] (entE 0 0 sig25 (x0, x1, x2, ())) (entL sig25 (x0, x1, x2, ())) = some ([Dyn.mk (Ty.int IntKind.i64) 0, Dyn.mk Ty.bool Bool.false], [], [True, (!g29_0 x0 2000 2099) = Bool.true, Bool.true = Bool.true, Bool.true = Bool.true]) := by kernel_rfl
theorem p25_1 (x0 : Int) (x1 : Int) (x2 : Int) : runF tab ext25 false 52 [] 2000 [] tys25 Tryd.f25.results [false, true, true] [.code b25] (entE 0 0 sig25 (x0, x1, x2, ())) (entL sig25 (x0, x1, x2, ())) = some ([Dyn.mk (Ty.int IntKind.i64) 0, Dyn.mk Ty.bool Bool.false], [], [True, (!g29_0 x0 2000 2099) = Bool.false, True, (!g29_0 x1 1 12) = Bool.true, Bool.true = Bool.true]) := by kernel_rfl
theorem p25_2 (x0 : Int) (x1 : Int) (x2 : Int) : runF tab ext25 false 52 [] 2000 [] tys25 Tryd.f25.results [false, false, true] [.code b25] (entE 0 0 sig25 (x0, x1, x2, ())) (entL sig25 (x0, x1, x2, ())) = some ([Dyn.mk (Ty.int IntKind.i64) 0, Dyn.mk Ty.bool Bool.false], [], [True, (!g29_0 x0 2000 2099) = Bool.false, True, (!g29_0 x1 1 12) = Bool.false, P44 x0 x1, True, (!g29_0 x2 1 (g44_0 x0 x1)) = Bool.true]) := by kernel_rfl
theorem p25_3 (x0 : Int) (x1 : Int) (x2 : Int) : Am.runN tab ext25 false 52 [] 2000 [] [] [0, 1, 8, 9] [] [false, false, false] [.code b25] (entE 0 0 sig25 (x0, x1, x2, ())) (entL sig25 (x0, x1, x2, ())) = some (cutAt b25 5, E25_5 (x2 - 1) (2000) (x0) (x1), L25_5 (x2 - 1) (2000) (x0) (x1), [True, (!g29_0 x0 2000 2099) = Bool.false, True, (!g29_0 x1 1 12) = Bool.false, P44 x0 x1, True, (!g29_0 x2 1 (g44_0 x0 x1)) = Bool.false, InR IntKind.i64 (x2 - 1)]) := by kernel_rfl
theorem p25_4 (v8 : Int) (v9 : Int) (x0 : Int) (x1 : Int) : Am.runN tab ext25 false 52 [] 2000 [] [] [0, 1, 8, 9] [] [true, true] (cutAt b25 5) (E25_5 v8 v9 x0 x1) (L25_5 v8 v9 x0 x1) = some (cutAt b25 5, E25_5 (v8 + 365 + 1) (v9 + 1) (x0) (x1), L25_5 (v8 + 365 + 1) (v9 + 1) (x0) (x1), [Decidable.decide (v9 < x0) = Bool.true, InR IntKind.i64 (v8 + 365), (4 : Int) ≠ (0 : Int), InR IntKind.i64 (Int.tmod v9 4), (Int.tmod v9 4 == 0) = Bool.true, InR IntKind.i64 (v8 + 365 + 1), InR IntKind.i64 (v9 + 1)]) := by kernel_rfl
theorem p25_5 (v8 : Int) (v9 : Int) (x0 : Int) (x1 : Int) : Am.runN tab ext25 false 52 [] 2000 [] [] [0, 1, 8, 9] [] [true, false] (cutAt b25 5) (E25_5 v8 v9 x0 x1) (L25_5 v8 v9 x0 x1) = some (cutAt b25 5, E25_5 (v8 + 365) (v9 + 1) (x0) (x1), L25_5 (v8 + 365) (v9 + 1) (x0) (x1), [Decidable.decide (v9 < x0) = Bool.true, InR IntKind.i64 (v8 + 365), (4 : Int) ≠ (0 : Int), InR IntKind.i64 (Int.tmod v9 4), (Int.tmod v9 4 == 0) = Bool.false, InR IntKind.i64 (v9 + 1)]) := by kernel_rfl
theorem p25_6 (v8 : Int) (v9 : Int) (x0 : Int) (x1 : Int) : Am.runN tab ext25 false 52 [] 2000 [] [] [0, 1, 8, 10] [] [false] (cutAt b25 5) (E25_5 v8 v9 x0 x1) (L25_5 v8 v9 x0 x1) = some (cutAt b25 11, E25_11 (v8) (1) (x0) (x1), L25_11 (v8) (1) (x0) (x1), [Decidable.decide (v9 < x0) = Bool.false]) := by kernel_rfl
theorem p25_7 (v8 : Int) (v10 : Int) (x0 : Int) (x1 : Int) : Am.runN tab ext25 false 52 [] 2000 [] [] [0, 1, 8, 10] [] [true] (cutAt b25 11) (E25_11 v8 v10 x0 x1) (L25_11 v8 v10 x0 x1) = some (cutAt b25 11, E25_11 (v8 + g44_0 x0 v10) (v10 + 1) (x0) (x1), L25_11 (v8 + g44_0 x0 v10) (v10 + 1) (x0) (x1), [Decidable.decide (v10 < x1) = Bool.true, P44 x0 v10, InR IntKind.i64 (v8 + g44_0 x0 v10), InR IntKind.i64 (v10 + 1)]) := by kernel_rfl
theorem p25_8 (v8 : Int) (v10 : Int) (x0 : Int) (x1 : Int) : runF tab ext25 false 52 [] 2000 [] tys25 Tryd.f25.results [false] (cutAt b25 11) (E25_11 v8 v10 x0 x1) (L25_11 v8 v10 x0 x1) = some ([Dyn.mk (Ty.int IntKind.i64) v8, Dyn.mk Ty.bool Bool.true], [], [Decidable.decide (v10 < x1) = Bool.false]) := by kernel_rfl
theorem snd25 : ∀ n, (∀ (x0 : Int) (x1 : Int) (x2 : Int) ds, R25 n x0 x1 x2 ds → ∀ w0 O q, AtV Tryd.prog 25 (PostR ds [] [] q w0 O) 52 w0 O q [] [.code b25] (entE 0 0 sig25 (x0, x1, x2, ())) (entL sig25 (x0, x1, x2, ()))) ∧ (∀ (v8 : Int) (v9 : Int) (x0 : Int) (x1 : Int) ds, R25_5 n v8 v9 x0 x1 ds → ∀ w0 O q, AtV Tryd.prog 25 (PostR ds [] [] q w0 O) 52 w0 O q [] (cutAt b25 5) (E25_5 v8 v9 x0 x1) (L25_5 v8 v9 x0 x1)) ∧ (∀ (v8 : Int) (v10 : Int) (x0 : Int) (x1 : Int) ds, R25_11 n v8 v10 x0 x1 ds → ∀ w0 O q, AtV Tryd.prog 25 (PostR ds [] [] q w0 O) 52 w0 O q [] (cutAt b25 11) (E25_11 v8 v10 x0 x1) (L25_11 v8 v10 x0 x1)) := by
  intro n
  induction n with
  | zero => exact ⟨fun _ _ _ _ h => by simp only [R25] at h, fun _ _ _ _ _ h => by simp only [R25_5] at h, fun _ _ _ _ _ h => by simp only [R25_11] at h⟩
  | succ n ih =>
  obtain ⟨ih, ih5, ih11⟩ := ih
  refine ⟨?_, ?_, ?_⟩
  · intro x0 x1 x2 ds h w0 O q
    rw [R25] at h
    by_cases b0 : (!g29_0 x0 2000 2099) = true
    · rw [if_pos b0] at h
      subst h
      exact AtV.fin Tryd.func25 tabOk ext25Ok mixed (p25_0 x0 x1 x2) ⟨trivial, b0, rfl, rfl, trivial⟩
    · rw [if_neg b0] at h
      replace b0 := Bool.eq_false_iff.2 b0
      by_cases b1 : (!g29_0 x1 1 12) = true
      · rw [if_pos b1] at h
        subst h
        exact AtV.fin Tryd.func25 tabOk ext25Ok mixed (p25_1 x0 x1 x2) ⟨trivial, b0, trivial, b1, rfl, trivial⟩
      · rw [if_neg b1] at h
        replace b1 := Bool.eq_false_iff.2 b1
        obtain ⟨s0, h⟩ := h
        by_cases b2 : (!g29_0 x2 1 (g44_0 x0 x1)) = true
        · rw [if_pos b2] at h
          subst h
          exact AtV.fin Tryd.func25 tabOk ext25Ok mixed (p25_2 x0 x1 x2) ⟨trivial, b0, trivial, b1, s0, trivial, b2, trivial⟩
        · rw [if_neg b2] at h
          replace b2 := Bool.eq_false_iff.2 b2
          obtain ⟨s1, h⟩ := h
          exact AtV.runN tabOk ext25Ok mixed (p25_3 x0 x1 x2) ⟨trivial, b0, trivial, b1, s0, trivial, b2, s1, trivial⟩ (ih5 _ _ _ _ _ h w0 O q)

  · intro v8 v9 x0 x1 ds h w0 O q
    rw [R25_5] at h
    by_cases b0 : (Decidable.decide (v9 < x0)) = true
    · rw [if_pos b0] at h
      obtain ⟨s0, h⟩ := h
      obtain ⟨s1, h⟩ := h
      by_cases b1 : (Int.tmod v9 4 == 0) = true
      · rw [if_pos b1] at h
        obtain ⟨s2, h⟩ := h
        obtain ⟨s3, h⟩ := h
        exact AtV.runN tabOk ext25Ok mixed (p25_4 v8 v9 x0 x1) ⟨b0, s0, (by decide), s1, b1, s2, s3, trivial⟩ (ih5 _ _ _ _ _ h w0 O q)
      · rw [if_neg b1] at h
        replace b1 := Bool.eq_false_iff.2 b1
        obtain ⟨s2, h⟩ := h
        exact AtV.runN tabOk ext25Ok mixed (p25_5 v8 v9 x0 x1) ⟨b0, s0, (by decide), s1, b1, s2, trivial⟩ (ih5 _ _ _ _ _ h w0 O q)
    · rw [if_neg b0] at h
      replace b0 := Bool.eq_false_iff.2 b0
      exact AtV.runN tabOk ext25Ok mixed (p25_6 v8 v9 x0 x1) ⟨b0, trivial⟩ (ih11 _ _ _ _ _ h w0 O q)

  · intro v8 v10 x0 x1 ds h w0 O q
    rw [R25_11] at h
    by_cases b0 : (Decidable.decide (v10 < x1)) = true
    · rw [if_pos b0] at h
      obtain ⟨s0, h⟩ := h
      obtain ⟨s1, h⟩ := h
      obtain ⟨s2, h⟩ := h
      exact AtV.runN tabOk ext25Ok mixed (p25_7 v8 v10 x0 x1) ⟨b0, s0, s1, s2, trivial⟩ (ih11 _ _ _ _ _ h w0 O q)
    · rw [if_neg b0] at h
      replace b0 := Bool.eq_false_iff.2 b0
      subst h
      exact AtV.fin Tryd.func25 tabOk ext25Ok mixed (p25_8 v8 v10 x0 x1) ⟨b0, trivial⟩



def ms25 (y : Int) : Nat → Int
  | 0 => 0
  | k + 1 => ms25 y k + g44_0 y ((k : Int) + 1)
def yd25 : Nat → Int
  | 0 => 0
  | k + 1 => yd25 k + 365 + (if (Int.tmod (2000 + (k : Int)) 4 == 0) = true then 1 else 0)
def ok25 (x0 x1 x2 : Int) : Bool := g29_0 x0 2000 2099 && (g29_0 x1 1 12 && g29_0 x2 1 (g44_0 x0 x1))
def g25_0 (x0 x1 x2 : Int) : Int := if ok25 x0 x1 x2 = true then x2 - 1 + yd25 (x0 - 2000).toNat + ms25 x0 (x1 - 1).toNat else 0
def g25_1 (x0 x1 x2 : Int) : Bool := ok25 x0 x1 x2
def P25 (x0 x1 x2 : Int) : Prop := True

theorem in25 {x a b : Int} : g29_0 x a b = true ↔ a ≤ x ∧ x ≤ b := by
  unfold g29_0
  by_cases c1 : x ≥ a
  · by_cases c2 : x ≤ b
    · simp [c1, c2]
    · simp [c1, c2]
  · have : ¬ a ≤ x := c1
    simp [c1, this]

theorem len25 {y m : Int} (hy : 2000 ≤ y ∧ y ≤ 2099) (h : 1 ≤ m ∧ m ≤ 12) : P44 y m ∧ 28 ≤ g44_0 y m ∧ g44_0 y m ≤ 31 := by
  have e : Int.tmod y 4 = y % 4 := Int.tmod_eq_emod_of_nonneg (by omega)
  have hm : m = 1 ∨ m = 2 ∨ m = 3 ∨ m = 4 ∨ m = 5 ∨ m = 6 ∨ m = 7 ∨ m = 8 ∨ m = 9 ∨ m = 10 ∨ m = 11 ∨ m = 12 := by omega
  unfold P44 g44_0
  rw [e]
  have hi : InR .i64 (y % 4) := by rw [i64_iff]; omega
  by_cases hz : (y % 4 == 0) = true
  · rcases hm with rfl | rfl | rfl | rfl | rfl | rfl | rfl | rfl | rfl | rfl | rfl | rfl <;> simp [hz, hi] <;> decide
  · rcases hm with rfl | rfl | rfl | rfl | rfl | rfl | rfl | rfl | rfl | rfl | rfl | rfl <;> simp [hz, hi] <;> decide

theorem msb25 {y : Int} (hy : 2000 ≤ y ∧ y ≤ 2099) : ∀ k, k ≤ 12 → 0 ≤ ms25 y k ∧ ms25 y k ≤ 31 * k
  | 0, _ => by simp [ms25]
  | k + 1, h => by
    have := msb25 hy k (by omega)
    have := len25 hy (m := (k : Int) + 1) (by omega)
    simp only [ms25]
    omega

theorem ydb25 : ∀ k, 0 ≤ yd25 k ∧ yd25 k ≤ 366 * k
  | 0 => by simp [yd25]
  | k + 1 => by
    have := ydb25 k
    simp only [yd25]
    split <;> omega

theorem runM25 {y m : Int} (hy : 2000 ≤ y ∧ y ≤ 2099) (hm : 1 ≤ m ∧ m ≤ 12) (v : Int) (hv : 0 ≤ v ∧ v ≤ 1000000) : ∀ (k i : Nat), (i : Int) + k = m - 1 →
    R25_11 (k + 1) (v + ms25 y i) ((i : Int) + 1) y m [⟨.int .i64, v + ms25 y (m - 1).toNat⟩, ⟨.bool, true⟩] := by
  intro k
  induction k with
  | zero =>
    intro i hi
    rw [R25_11, if_neg (by simp; omega), show (m - 1).toNat = i by omega]
  | succ k ih =>
    intro i hi
    obtain ⟨p, l1, l2⟩ := len25 hy (m := (i : Int) + 1) (by omega)
    obtain ⟨b1, b2⟩ := msb25 hy i (by omega)
    rw [R25_11, if_pos (by simp; omega)]
    have e1 : v + ms25 y i + g44_0 y ((i : Int) + 1) = v + ms25 y (i + 1) := by simp only [ms25]; omega
    have e2 : (i : Int) + 1 + 1 = ((i + 1 : Nat) : Int) + 1 := by omega
    refine ⟨p, by rw [i64_iff]; omega, by rw [i64_iff]; omega, ?_⟩
    rw [e1, e2]
    exact ih (i + 1) (by omega)

theorem runY25 {y m : Int} (hy : 2000 ≤ y ∧ y ≤ 2099) (hm : 1 ≤ m ∧ m ≤ 12) (v : Int) (hv : 0 ≤ v ∧ v ≤ 30) : ∀ (k i : Nat), (i : Int) + k = y - 2000 →
    R25_5 (k + 1 + ((m - 1).toNat + 1)) (v + yd25 i) (2000 + (i : Int)) y m [⟨.int .i64, v + yd25 (y - 2000).toNat + ms25 y (m - 1).toNat⟩, ⟨.bool, true⟩] := by
  intro k
  induction k with
  | zero =>
    intro i hi
    obtain ⟨b1, b2⟩ := ydb25 i
    rw [show 0 + 1 + ((m - 1).toNat + 1) = ((m - 1).toNat + 1) + 1 by omega, R25_5, if_neg (by simp; omega), show (y - 2000).toNat = i by omega]
    have := runM25 hy hm (v + yd25 i) (by omega) (m - 1).toNat 0 (by omega)
    simpa [ms25] using this
  | succ k ih =>
    intro i hi
    obtain ⟨b1, b2⟩ := ydb25 i
    have et : Int.tmod (2000 + (i : Int)) 4 = (2000 + (i : Int)) % 4 := Int.tmod_eq_emod_of_nonneg (by omega)
    have hin := ih (i + 1) (by omega)
    have e2 : 2000 + (i : Int) + 1 = 2000 + ((i + 1 : Nat) : Int) := by omega
    simp only [yd25] at hin
    rw [show k + 1 + 1 + ((m - 1).toNat + 1) = (k + 1 + ((m - 1).toNat + 1)) + 1 by omega, R25_5, if_pos (by simp; omega)]
    refine ⟨by rw [i64_iff]; omega, by rw [i64_iff, et]; omega, ?_⟩
    by_cases hz : (Int.tmod (2000 + (i : Int)) 4 == 0) = true
    · rw [if_pos hz] at hin ⊢
      rw [e2, show v + yd25 i + 365 + 1 = v + (yd25 i + 365 + 1) by omega]
      exact ⟨by rw [i64_iff]; omega, by rw [i64_iff]; omega, hin⟩
    · rw [if_neg hz] at hin ⊢
      rw [e2, show v + yd25 i + 365 = v + (yd25 i + 365 + 0) by omega]
      exact ⟨by rw [i64_iff]; omega, hin⟩

theorem top25 (x0 x1 x2 : Int) (hx : InR .i64 x2) : ∃ n, R25 n x0 x1 x2 [⟨.int .i64, g25_0 x0 x1 x2⟩, ⟨.bool, g25_1 x0 x1 x2⟩] := by
  unfold g25_0 g25_1 ok25
  cases h0 : g29_0 x0 2000 2099 with
  | false => exact ⟨1, by rw [R25, if_pos (by rw [h0]; rfl)]; simp⟩
  | true =>
    have h0' := in25.1 h0
    cases h1 : g29_0 x1 1 12 with
    | false => exact ⟨1, by rw [R25, if_neg (by rw [h0]; decide), if_pos (by rw [h1]; rfl)]; simp⟩
    | true =>
      have h1' := in25.1 h1
      obtain ⟨p, l1, l2⟩ := len25 h0' h1'
      cases h2 : g29_0 x2 1 (g44_0 x0 x1) with
      | false => exact ⟨1, by rw [R25, if_neg (by rw [h0]; decide), if_neg (by rw [h1]; decide)]; exact ⟨p, by rw [if_pos (by rw [h2]; rfl)]; simp⟩⟩
      | true =>
        have h2' := in25.1 h2
        refine ⟨((x0 - 2000).toNat + 1 + ((x1 - 1).toNat + 1)) + 1, ?_⟩
        rw [R25, if_neg (by rw [h0]; decide), if_neg (by rw [h1]; decide)]
        refine ⟨p, ?_⟩
        rw [if_neg (by rw [h2]; decide)]
        refine ⟨by rw [i64_iff]; omega, ?_⟩
        have := runY25 h0' h1' (x2 - 1) (by omega) (x0 - 2000).toNat 0 (by omega)
        simpa [yd25] using this

def S25 : Am.Spec := { sig := sig25, pre := fun ⟨x0, x1, x2, _⟩ => P25 x0 x1 x2, res := fun ⟨x0, x1, x2, _⟩ => [⟨.int .i64, g25_0 x0 x1 x2⟩, ⟨.bool, g25_1 x0 x1 x2⟩] }
theorem con25 : Contract Tryd.prog 25 S25 := contract_of Tryd.func25 hb25 (Nat.le_of_ble_eq_true (by kernel_rfl)) (fun ⟨x0, x1, x2, _⟩ h hwf w0 O q =>
  let ⟨n, hn⟩ := top25 x0 x1 x2 hwf.2.2.1
  (snd25 n).1 x0 x1 x2 _ hn w0 O q)

end Go.Proofs.YteaocgmbhkclcaaDoor

/- Function 13 (spec.l02Read): its runs between cut points. Written by a program of this repo (gen). -/
set_option linter.unusedVariables false
set_option linter.unusedSimpArgs false
set_option maxRecDepth 100000
namespace Go.Proofs.YteaocgmbhkclcaaDoor
open Go Go.Am Go.Proofs
def ext13 : Ext := [(24, S24), (25, S25)]
theorem call13_24 : Callable Tryd.prog 24 := ⟨Tryd.f24, Tryd.func24, by kernel_rfl, by kernel_rfl⟩
theorem call13_25 : Callable Tryd.prog 25 := ⟨Tryd.f25, Tryd.func25, by kernel_rfl, by kernel_rfl⟩
theorem ext13Ok : ExtOk Tryd.prog ext13 := ⟨⟨call13_24, con24⟩, ⟨call13_25, con25⟩, trivial⟩
/-! Function 13. -/
noncomputable def b13 : Code := bodyOf Tryd.f13
theorem hb13 : Tryd.f13.body = some b13 := by kernel_rfl
def sig13 : List AT := [AT.v (Ty.str)]
def tys13 : List Ty := [Ty.int IntKind.i64, Ty.bool]
def P13 (x0 : ByteArray) : Prop := (if ((↑(ByteArray.size x0) : Int) != 10) = true then True else ((4 < (↑(ByteArray.size x0) : Int)) ∧ (if ((↑(UInt8.toNat (List.getD (Array.toList (ByteArray.data x0)) 4 0)) : Int) != 45) = true then True else ((7 < (↑(ByteArray.size x0) : Int)) ∧ (if ((↑(UInt8.toNat (List.getD (Array.toList (ByteArray.data x0)) 7 0)) : Int) != 45) = true then True else ((4 ≤ (↑(ByteArray.size x0) : Int)) ∧ ((P24 (ByteArray.extract x0 0 4)) ∧ ((7 ≤ (↑(ByteArray.size x0) : Int)) ∧ ((P24 (ByteArray.extract x0 5 7)) ∧ ((8 ≤ (↑(ByteArray.size x0) : Int)) ∧ ((P24 (ByteArray.extract x0 8 (Int.toNat (↑(ByteArray.size x0) : Int)))) ∧ True)))))))))))
def g13_0 (x0 : ByteArray) : Int := (if ((↑(ByteArray.size x0) : Int) != 10) = true then 0 else (if ((↑(UInt8.toNat (List.getD (Array.toList (ByteArray.data x0)) 4 0)) : Int) != 45) = true then 0 else (if ((↑(UInt8.toNat (List.getD (Array.toList (ByteArray.data x0)) 7 0)) : Int) != 45) = true then 0 else (if (!g24_1 (ByteArray.extract x0 0 4)) = true then 0 else (if (!g24_1 (ByteArray.extract x0 5 7)) = true then 0 else (if (!g24_1 (ByteArray.extract x0 8 (Int.toNat (↑(ByteArray.size x0) : Int)))) = true then 0 else g25_0 (g24_0 (ByteArray.extract x0 0 4)) (g24_0 (ByteArray.extract x0 5 7)) (g24_0 (ByteArray.extract x0 8 (Int.toNat (↑(ByteArray.size x0) : Int))))))))))
def g13_1 (x0 : ByteArray) : Bool := (if ((↑(ByteArray.size x0) : Int) != 10) = true then Bool.false else (if ((↑(UInt8.toNat (List.getD (Array.toList (ByteArray.data x0)) 4 0)) : Int) != 45) = true then Bool.false else (if ((↑(UInt8.toNat (List.getD (Array.toList (ByteArray.data x0)) 7 0)) : Int) != 45) = true then Bool.false else (if (!g24_1 (ByteArray.extract x0 0 4)) = true then Bool.false else (if (!g24_1 (ByteArray.extract x0 5 7)) = true then Bool.false else (if (!g24_1 (ByteArray.extract x0 8 (Int.toNat (↑(ByteArray.size x0) : Int)))) = true then Bool.false else g25_1 (g24_0 (ByteArray.extract x0 0 4)) (g24_0 (ByteArray.extract x0 5 7)) (g24_0 (ByteArray.extract x0 8 (Int.toNat (↑(ByteArray.size x0) : Int))))))))))
theorem p13_0 (x0 : ByteArray) : runF tab ext13 false 57 [] 2000 [] tys13 Tryd.f13.results [true, true, true] [.code b13] (entE 0 0 sig13 (x0, ())) (entL sig13 (x0, ())) = some ([Dyn.mk (Ty.int IntKind.i64) 0, Dyn.mk Ty.bool Bool.false], [], [((↑(ByteArray.size x0) : Int) != 10) = Bool.true, Bool.true = Bool.true, Bool.true = Bool.true]) := by kernel_rfl
theorem p13_1 (x0 : ByteArray) : runF tab ext13 false 57 [] 2000 [] tys13 Tryd.f13.results [false, true, true] [.code b13] (entE 0 0 sig13 (x0, ())) (entL sig13 (x0, ())) = some ([Dyn.mk (Ty.int IntKind.i64) 0, Dyn.mk Ty.bool Bool.false], [], [((↑(ByteArray.size x0) : Int) != 10) = Bool.false, (0 : Int) ≤ (4 : Int), 4 < (↑(ByteArray.size x0) : Int), ((↑(UInt8.toNat (List.getD (Array.toList (ByteArray.data x0)) 4 0)) : Int) != 45) = Bool.true, Bool.true = Bool.true]) := by kernel_rfl
theorem p13_2 (x0 : ByteArray) : runF tab ext13 false 57 [] 2000 [] tys13 Tryd.f13.results [false, false, true] [.code b13] (entE 0 0 sig13 (x0, ())) (entL sig13 (x0, ())) = some ([Dyn.mk (Ty.int IntKind.i64) 0, Dyn.mk Ty.bool Bool.false], [], [((↑(ByteArray.size x0) : Int) != 10) = Bool.false, (0 : Int) ≤ (4 : Int), 4 < (↑(ByteArray.size x0) : Int), ((↑(UInt8.toNat (List.getD (Array.toList (ByteArray.data x0)) 4 0)) : Int) != 45) = Bool.false, (0 : Int) ≤ (7 : Int), 7 < (↑(ByteArray.size x0) : Int), ((↑(UInt8.toNat (List.getD (Array.toList (ByteArray.data x0)) 7 0)) : Int) != 45) = Bool.true]) := by kernel_rfl
theorem p13_3 (x0 : ByteArray) : runF tab ext13 false 57 [] 2000 [] tys13 Tryd.f13.results [false, false, false, true, true, true] [.code b13] (entE 0 0 sig13 (x0, ())) (entL sig13 (x0, ())) = some ([Dyn.mk (Ty.int IntKind.i64) 0, Dyn.mk Ty.bool Bool.false], [], [((↑(ByteArray.size x0) : Int) != 10) = Bool.false, (0 : Int) ≤ (4 : Int), 4 < (↑(ByteArray.size x0) : Int), ((↑(UInt8.toNat (List.getD (Array.toList (ByteArray.data x0)) 4 0)) : Int) != 45) = Bool.false, (0 : Int) ≤ (7 : Int), 7 < (↑(ByteArray.size x0) : Int), ((↑(UInt8.toNat (List.getD (Array.toList (ByteArray.data x0)) 7 0)) : Int) != 45) = Bool.false, (0 : Int) ≤ (4 : Int), 4 ≤ (↑(ByteArray.size x0) : Int), P24 (ByteArray.extract x0 0 4), (0 : Int) ≤ (5 : Int), (5 : Int) ≤ (7 : Int), 7 ≤ (↑(ByteArray.size x0) : Int), P24 (ByteArray.extract x0 5 7), (0 : Int) ≤ (8 : Int), 8 ≤ (↑(ByteArray.size x0) : Int), P24 (ByteArray.extract x0 8 (Int.toNat (↑(ByteArray.size x0) : Int))), (!g24_1 (ByteArray.extract x0 0 4)) = Bool.true, Bool.true = Bool.true, Bool.true = Bool.true]) := by kernel_rfl
theorem p13_4 (x0 : ByteArray) : runF tab ext13 false 57 [] 2000 [] tys13 Tryd.f13.results [false, false, false, false, true, true] [.code b13] (entE 0 0 sig13 (x0, ())) (entL sig13 (x0, ())) = some ([Dyn.mk (Ty.int IntKind.i64) 0, Dyn.mk Ty.bool Bool.false], [], [((↑(ByteArray.size x0) : Int) != 10) = Bool.false, (0 : Int) ≤ (4 : Int), 4 < (↑(ByteArray.size x0) : Int), ((↑(UInt8.toNat (List.getD (Array.toList (ByteArray.data x0)) 4 0)) : Int) != 45) = Bool.false, (0 : Int) ≤ (7 : Int), 7 < (↑(ByteArray.size x0) : Int), ((↑(UInt8.toNat (List.getD (Array.toList (ByteArray.data x0)) 7 0)) : Int) != 45) = Bool.false, (0 : Int) ≤ (4 : Int), 4 ≤ (↑(ByteArray.size x0) : Int), P24 (ByteArray.extract x0 0 4), (0 : Int) ≤ (5 : Int), (5 : Int) ≤ (7 : Int), 7 ≤ (↑(ByteArray.size x0) : Int), P24 (ByteArray.extract x0 5 7), (0 : Int) ≤ (8 : Int), 8 ≤ (↑(ByteArray.size x0) : Int), P24 (ByteArray.extract x0 8 (Int.toNat (↑(ByteArray.size x0) : Int))), (!g24_1 (ByteArray.extract x0 0 4)) = Bool.false, (!g24_1 (ByteArray.extract x0 5 7)) = Bool.true, Bool.true = Bool.true]) := by kernel_rfl
theorem p13_5 (x0 : ByteArray) : runF tab ext13 false 57 [] 2000 [] tys13 Tryd.f13.results [false, false, false, false, false, true] [.code b13] (entE 0 0 sig13 (x0, ())) (entL sig13 (x0, ())) = some ([Dyn.mk (Ty.int IntKind.i64) 0, Dyn.mk Ty.bool Bool.false], [], [((↑(ByteArray.size x0) : Int) != 10) = Bool.false, (0 : Int) ≤ (4 : Int), 4 < (↑(ByteArray.size x0) : Int), ((↑(UInt8.toNat (List.getD (Array.toList (ByteArray.data x0)) 4 0)) : Int) != 45) = Bool.false, (0 : Int) ≤ (7 : Int), 7 < (↑(ByteArray.size x0) : Int), ((↑(UInt8.toNat (List.getD (Array.toList (ByteArray.data x0)) 7 0)) : Int) != 45) = Bool.false, (0 : Int) ≤ (4 : Int), 4 ≤ (↑(ByteArray.size x0) : Int), P24 (ByteArray.extract x0 0 4), (0 : Int) ≤ (5 : Int), (5 : Int) ≤ (7 : Int), 7 ≤ (↑(ByteArray.size x0) : Int), P24 (ByteArray.extract x0 5 7), (0 : Int) ≤ (8 : Int), 8 ≤ (↑(ByteArray.size x0) : Int), P24 (ByteArray.extract x0 8 (Int.toNat (↑(ByteArray.size x0) : Int))), (!g24_1 (ByteArray.extract x0 0 4)) = Bool.false, (!g24_1 (ByteArray.extract x0 5 7)) = Bool.false, (!g24_1 (ByteArray.extract x0 8 (Int.toNat (↑(ByteArray.size x0) : Int)))) = Bool.true]) := by kernel_rfl
theorem p13_6 (x0 : ByteArray) : runF tab ext13 false 57 [] 2000 [] tys13 Tryd.f13.results [false, false, false, false, false, false] [.code b13] (entE 0 0 sig13 (x0, ())) (entL sig13 (x0, ())) = some ([Dyn.mk (Ty.int IntKind.i64) (g25_0 (g24_0 (ByteArray.extract x0 0 4)) (g24_0 (ByteArray.extract x0 5 7)) (g24_0 (ByteArray.extract x0 8 (Int.toNat (↑(ByteArray.size x0) : Int))))), Dyn.mk Ty.bool (g25_1 (g24_0 (ByteArray.extract x0 0 4)) (g24_0 (ByteArray.extract x0 5 7)) (g24_0 (ByteArray.extract x0 8 (Int.toNat (↑(ByteArray.size x0) : Int)))))], [], [((↑(ByteArray.size x0) : Int) != 10) = Bool.false, (0 : Int) ≤ (4 : Int), 4 < (↑(ByteArray.size x0) : Int), ((↑(UInt8.toNat (List.getD (Array.toList (ByteArray.data x0)) 4 0)) : Int) != 45) = Bool.false, (0 : Int) ≤ (7 : Int), 7 < (↑(ByteArray.size x0) : Int), ((↑(UInt8.toNat (List.getD (Array.toList (ByteArray.data x0)) 7 0)) : Int) != 45) = Bool.false, (0 : Int) ≤ (4 : Int), 4 ≤ (↑(ByteArray.size x0) : Int), P24 (ByteArray.extract x0 0 4), (0 : Int) ≤ (5 : Int), (5 : Int) ≤ (7 : Int), 7 ≤ (↑(ByteArray.size x0) : Int), P24 (ByteArray.extract x0 5 7), (0 : Int) ≤ (8 : Int), 8 ≤ (↑(ByteArray.size x0) : Int), P24 (ByteArray.extract x0 8 (Int.toNat (↑(ByteArray.size x0) : Int))), (!g24_1 (ByteArray.extract x0 0 4)) = Bool.false, (!g24_1 (ByteArray.extract x0 5 7)) = Bool.false, (!g24_1 (ByteArray.extract x0 8 (Int.toNat (↑(ByteArray.size x0) : Int)))) = Bool.false, True]) := by kernel_rfl
theorem at13 (x0 : ByteArray) (h : P13 x0) (w0 : World) (O : List Nat) (q : Nat → Value) : AtV Tryd.prog 13 (PostR [⟨Ty.int IntKind.i64, g13_0 x0⟩, ⟨Ty.bool, g13_1 x0⟩] [] [] q w0 O) 57 w0 O q [] [.code b13] (entE 0 0 sig13 (x0, ())) (entL sig13 (x0, ())) := by
  unfold P13 at h
  unfold g13_0 g13_1
  by_cases b0 : ((↑(ByteArray.size x0) : Int) != 10) = true
  · try simp only [if_pos b0] at h ⊢
    exact AtV.fin Tryd.func13 tabOk ext13Ok mixed (p13_0 x0) ⟨b0, rfl, rfl, trivial⟩
  · try simp only [if_neg b0] at h ⊢
    replace b0 := Bool.eq_false_iff.2 b0
    obtain ⟨s0, h⟩ := h
    by_cases b1 : ((↑(UInt8.toNat (List.getD (Array.toList (ByteArray.data x0)) 4 0)) : Int) != 45) = true
    · try simp only [if_pos b1] at h ⊢
      exact AtV.fin Tryd.func13 tabOk ext13Ok mixed (p13_1 x0) ⟨b0, (by decide), s0, b1, rfl, trivial⟩
    · try simp only [if_neg b1] at h ⊢
      replace b1 := Bool.eq_false_iff.2 b1
      obtain ⟨s1, h⟩ := h
      by_cases b2 : ((↑(UInt8.toNat (List.getD (Array.toList (ByteArray.data x0)) 7 0)) : Int) != 45) = true
      · try simp only [if_pos b2] at h ⊢
        exact AtV.fin Tryd.func13 tabOk ext13Ok mixed (p13_2 x0) ⟨b0, (by decide), s0, b1, (by decide), s1, b2, trivial⟩
      · try simp only [if_neg b2] at h ⊢
        replace b2 := Bool.eq_false_iff.2 b2
        obtain ⟨s2, h⟩ := h
        obtain ⟨s3, h⟩ := h
        obtain ⟨s4, h⟩ := h
        obtain ⟨s5, h⟩ := h
        obtain ⟨s6, h⟩ := h
        obtain ⟨s7, h⟩ := h
        by_cases b3 : (!g24_1 (ByteArray.extract x0 0 4)) = true
        · try simp only [if_pos b3] at h ⊢
          exact AtV.fin Tryd.func13 tabOk ext13Ok mixed (p13_3 x0) ⟨b0, (by decide), s0, b1, (by decide), s1, b2, (by decide), s2, s3, (by decide), (by decide), s4, s5, (by decide), s6, s7, b3, rfl, rfl, trivial⟩
        · try simp only [if_neg b3] at h ⊢
          replace b3 := Bool.eq_false_iff.2 b3
          by_cases b4 : (!g24_1 (ByteArray.extract x0 5 7)) = true
          · try simp only [if_pos b4] at h ⊢
            exact AtV.fin Tryd.func13 tabOk ext13Ok mixed (p13_4 x0) ⟨b0, (by decide), s0, b1, (by decide), s1, b2, (by decide), s2, s3, (by decide), (by decide), s4, s5, (by decide), s6, s7, b3, b4, rfl, trivial⟩
          · try simp only [if_neg b4] at h ⊢
            replace b4 := Bool.eq_false_iff.2 b4
            by_cases b5 : (!g24_1 (ByteArray.extract x0 8 (Int.toNat (↑(ByteArray.size x0) : Int)))) = true
            · try simp only [if_pos b5] at h ⊢
              exact AtV.fin Tryd.func13 tabOk ext13Ok mixed (p13_5 x0) ⟨b0, (by decide), s0, b1, (by decide), s1, b2, (by decide), s2, s3, (by decide), (by decide), s4, s5, (by decide), s6, s7, b3, b4, b5, trivial⟩
            · try simp only [if_neg b5] at h ⊢
              replace b5 := Bool.eq_false_iff.2 b5
              exact AtV.fin Tryd.func13 tabOk ext13Ok mixed (p13_6 x0) ⟨b0, (by decide), s0, b1, (by decide), s1, b2, (by decide), s2, s3, (by decide), (by decide), s4, s5, (by decide), s6, s7, b3, b4, b5, trivial, trivial⟩

def S13 : Am.Spec := { sig := sig13, pre := fun ⟨x0, _⟩ => P13 x0, res := fun ⟨x0, _⟩ => [⟨Ty.int IntKind.i64, g13_0 x0⟩, ⟨Ty.bool, g13_1 x0⟩] }
theorem con13 : Contract Tryd.prog 13 S13 := contract_of Tryd.func13 hb13 (Nat.le_of_ble_eq_true (by kernel_rfl)) (fun ⟨x0, _⟩ h _ w0 O q => at13 x0 h w0 O q)


end Go.Proofs.YteaocgmbhkclcaaDoor

/- Function 14 (spec.l01Number): its runs between cut points. Written by a program of this repo (gen). -/
set_option linter.unusedVariables false
set_option linter.unusedSimpArgs false
set_option maxRecDepth 100000
namespace Go.Proofs.YteaocgmbhkclcaaDoor
open Go Go.Am Go.Proofs
def ext14 : Ext := [(26, S26)]
theorem call14_26 : Callable Tryd.prog 26 := ⟨Tryd.f26, Tryd.func26, by kernel_rfl, by kernel_rfl⟩
theorem ext14Ok : ExtOk Tryd.prog ext14 := ⟨⟨call14_26, con26⟩, trivial⟩
/-! Function 14. -/
noncomputable def b14 : Code := bodyOf Tryd.f14
theorem hb14 : Tryd.f14.body = some b14 := by kernel_rfl
def sig14 : List AT := [AT.v (Ty.str)]
def tys14 : List Ty := [Ty.int IntKind.i64, Ty.bool]
def E14_8 (v4 : Int) (v5 : Int) (v6 : Int) (x0 : ByteArray) : Env := [(0, PV.a (Atom.val (Value.string x0))), (4, PV.a (Atom.val (Value.int IntKind.i64 v4))), (5, PV.a (Atom.val (Value.int IntKind.i64 v5))), (6, PV.a (Atom.val (Value.int IntKind.i64 v6)))]
def L14_8 (v4 : Int) (v5 : Int) (v6 : Int) (x0 : ByteArray) : Heap := []
mutual
def R14 : Nat → ByteArray → List Dyn → Prop
  | 0, _, _ => False
  | n + 1, x0, ds => (if (Decidable.decide ((↑(ByteArray.size x0) : Int) > 0)) = true then ((0 < (↑(ByteArray.size x0) : Int)) ∧ (if ((↑(UInt8.toNat (List.getD (Array.toList (ByteArray.data x0)) 0 0)) : Int) == 45) = true then (if ((↑(ByteArray.size x0) : Int) == 1) = true then (ds = [Dyn.mk (Ty.int IntKind.i64) 0, Dyn.mk Ty.bool Bool.false]) else ((InR IntKind.i64 ((↑(ByteArray.size x0) : Int) - 1)) ∧ (if (Decidable.decide ((↑(ByteArray.size x0) : Int) - 1 > 18)) = true then (ds = [Dyn.mk (Ty.int IntKind.i64) 0, Dyn.mk Ty.bool Bool.false]) else ((1 < (↑(ByteArray.size x0) : Int)) ∧ (if ((↑(UInt8.toNat (List.getD (Array.toList (ByteArray.data x0)) 1 0)) : Int) == 48) = true then (if (Decidable.decide ((↑(ByteArray.size x0) : Int) > 1)) = true then (ds = [Dyn.mk (Ty.int IntKind.i64) 0, Dyn.mk Ty.bool Bool.false]) else (R14_8 n (1) (0) (1) (x0) ds)) else (R14_8 n (1) (0) (1) (x0) ds)))))) else (if ((↑(ByteArray.size x0) : Int) == 0) = true then (ds = [Dyn.mk (Ty.int IntKind.i64) 0, Dyn.mk Ty.bool Bool.false]) else ((InR IntKind.i64 ((↑(ByteArray.size x0) : Int) - 0)) ∧ (if (Decidable.decide ((↑(ByteArray.size x0) : Int) - 0 > 18)) = true then (ds = [Dyn.mk (Ty.int IntKind.i64) 0, Dyn.mk Ty.bool Bool.false]) else ((0 < (↑(ByteArray.size x0) : Int)) ∧ (if ((↑(UInt8.toNat (List.getD (Array.toList (ByteArray.data x0)) 0 0)) : Int) == 48) = true then (if (Decidable.decide ((↑(ByteArray.size x0) : Int) > 1)) = true then (ds = [Dyn.mk (Ty.int IntKind.i64) 0, Dyn.mk Ty.bool Bool.false]) else (R14_8 n (0) (0) (0) (x0) ds)) else (R14_8 n (0) (0) (0) (x0) ds)))))))) else (if ((↑(ByteArray.size x0) : Int) == 0) = true then (ds = [Dyn.mk (Ty.int IntKind.i64) 0, Dyn.mk Ty.bool Bool.false]) else ((InR IntKind.i64 ((↑(ByteArray.size x0) : Int) - 0)) ∧ (if (Decidable.decide ((↑(ByteArray.size x0) : Int) - 0 > 18)) = true then (ds = [Dyn.mk (Ty.int IntKind.i64) 0, Dyn.mk Ty.bool Bool.false]) else ((0 < (↑(ByteArray.size x0) : Int)) ∧ (if ((↑(UInt8.toNat (List.getD (Array.toList (ByteArray.data x0)) 0 0)) : Int) == 48) = true then (if (Decidable.decide ((↑(ByteArray.size x0) : Int) > 1)) = true then (ds = [Dyn.mk (Ty.int IntKind.i64) 0, Dyn.mk Ty.bool Bool.false]) else (R14_8 n (0) (0) (0) (x0) ds)) else (R14_8 n (0) (0) (0) (x0) ds)))))))
def R14_8 : Nat → Int → Int → Int → ByteArray → List Dyn → Prop
  | 0, _, _, _, _, _ => False
  | n + 1, v4, v5, v6, x0, ds => (if (Decidable.decide (v6 < (↑(ByteArray.size x0) : Int))) = true then ((0 ≤ v6) ∧ (v6 < (↑(ByteArray.size x0) : Int)) ∧ (if (!g26_0 (↑(UInt8.toNat (List.getD (Array.toList (ByteArray.data x0)) (Int.toNat v6) 0)) : Int)) = true then (ds = [Dyn.mk (Ty.int IntKind.i64) 0, Dyn.mk Ty.bool Bool.false]) else ((InR IntKind.i64 (10 * v5)) ∧ ((0 ≤ v6) ∧ (v6 < (↑(ByteArray.size x0) : Int)) ∧ ((InR IntKind.u8 ((↑(UInt8.toNat (List.getD (Array.toList (ByteArray.data x0)) (Int.toNat v6) 0)) : Int) - 48)) ∧ ((InR IntKind.i64 ((↑(UInt8.toNat (List.getD (Array.toList (ByteArray.data x0)) (Int.toNat v6) 0)) : Int) - 48)) ∧ ((InR IntKind.i64 (10 * v5 + ((↑(UInt8.toNat (List.getD (Array.toList (ByteArray.data x0)) (Int.toNat v6) 0)) : Int) - 48))) ∧ ((InR IntKind.i64 (v6 + 1)) ∧ (R14_8 n (v4) (10 * v5 + ((↑(UInt8.toNat (List.getD (Array.toList (ByteArray.data x0)) (Int.toNat v6) 0)) : Int) - 48)) (v6 + 1) (x0) ds))))))))) else (if (v4 == 1) = true then ((InR IntKind.i64 (0 - v5)) ∧ (ds = [Dyn.mk (Ty.int IntKind.i64) (0 - v5), Dyn.mk Ty.bool Bool.true])) else (ds = [Dyn.mk (Ty.int IntKind.i64) v5, Dyn.mk Ty.bool Bool.true])))
end
theorem p14_0 (x0 : ByteArray) : runF tab ext14 false 62 [] 2000 [] tys14 Tryd.f14.results [true, true, true, true, true] [.code b14] (entE 0 0 sig14 (x0, ())) (entL sig14 (x0, ())) = some ([Dyn.mk (Ty.int IntKind.i64) 0, Dyn.mk Ty.bool Bool.false], [], [Decidable.decide ((↑(ByteArray.size x0) : Int) > 0) = Bool.true, (0 : Int) ≤ (0 : Int), 0 < (↑(ByteArray.size x0) : Int), ((↑(UInt8.toNat (List.getD (Array.toList (ByteArray.data x0)) 0 0)) : Int) == 45) = Bool.true, ((↑(ByteArray.size x0) : Int) == 1) = Bool.true, Bool.true = Bool.true, Bool.true = Bool.true]) := by kernel_rfl
theorem p14_1 (x0 : ByteArray) : runF tab ext14 false 62 [] 2000 [] tys14 Tryd.f14.results [true, true, false, true, true] [.code b14] (entE 0 0 sig14 (x0, ())) (entL sig14 (x0, ())) = some ([Dyn.mk (Ty.int IntKind.i64) 0, Dyn.mk Ty.bool Bool.false], [], [Decidable.decide ((↑(ByteArray.size x0) : Int) > 0) = Bool.true, (0 : Int) ≤ (0 : Int), 0 < (↑(ByteArray.size x0) : Int), ((↑(UInt8.toNat (List.getD (Array.toList (ByteArray.data x0)) 0 0)) : Int) == 45) = Bool.true, ((↑(ByteArray.size x0) : Int) == 1) = Bool.false, InR IntKind.i64 ((↑(ByteArray.size x0) : Int) - 1), Decidable.decide ((↑(ByteArray.size x0) : Int) - 1 > 18) = Bool.true, Bool.true = Bool.true]) := by kernel_rfl
theorem p14_2 (x0 : ByteArray) : runF tab ext14 false 62 [] 2000 [] tys14 Tryd.f14.results [true, true, false, false, true, true] [.code b14] (entE 0 0 sig14 (x0, ())) (entL sig14 (x0, ())) = some ([Dyn.mk (Ty.int IntKind.i64) 0, Dyn.mk Ty.bool Bool.false], [], [Decidable.decide ((↑(ByteArray.size x0) : Int) > 0) = Bool.true, (0 : Int) ≤ (0 : Int), 0 < (↑(ByteArray.size x0) : Int), ((↑(UInt8.toNat (List.getD (Array.toList (ByteArray.data x0)) 0 0)) : Int) == 45) = Bool.true, ((↑(ByteArray.size x0) : Int) == 1) = Bool.false, InR IntKind.i64 ((↑(ByteArray.size x0) : Int) - 1), Decidable.decide ((↑(ByteArray.size x0) : Int) - 1 > 18) = Bool.false, (0 : Int) ≤ (1 : Int), 1 < (↑(ByteArray.size x0) : Int), ((↑(UInt8.toNat (List.getD (Array.toList (ByteArray.data x0)) 1 0)) : Int) == 48) = Bool.true, Decidable.decide ((↑(ByteArray.size x0) : Int) > 1) = Bool.true]) := by kernel_rfl
theorem p14_3 (x0 : ByteArray) : Am.runN tab ext14 false 62 [] 2000 [] [] [0, 4, 5, 6] [] [true, true, false, false, true, false] [.code b14] (entE 0 0 sig14 (x0, ())) (entL sig14 (x0, ())) = some (cutAt b14 8, E14_8 (1) (0) (1) (x0), L14_8 (1) (0) (1) (x0), [Decidable.decide ((↑(ByteArray.size x0) : Int) > 0) = Bool.true, (0 : Int) ≤ (0 : Int), 0 < (↑(ByteArray.size x0) : Int), ((↑(UInt8.toNat (List.getD (Array.toList (ByteArray.data x0)) 0 0)) : Int) == 45) = Bool.true, ((↑(ByteArray.size x0) : Int) == 1) = Bool.false, InR IntKind.i64 ((↑(ByteArray.size x0) : Int) - 1), Decidable.decide ((↑(ByteArray.size x0) : Int) - 1 > 18) = Bool.false, (0 : Int) ≤ (1 : Int), 1 < (↑(ByteArray.size x0) : Int), ((↑(UInt8.toNat (List.getD (Array.toList (ByteArray.data x0)) 1 0)) : Int) == 48) = Bool.true, Decidable.decide ((↑(ByteArray.size x0) : Int) > 1) = Bool.false]) := by kernel_rfl
theorem p14_4 (x0 : ByteArray) : Am.runN tab ext14 false 62 [] 2000 [] [] [0, 4, 5, 6] [] [true, true, false, false, false, false] [.code b14] (entE 0 0 sig14 (x0, ())) (entL sig14 (x0, ())) = some (cutAt b14 8, E14_8 (1) (0) (1) (x0), L14_8 (1) (0) (1) (x0), [Decidable.decide ((↑(ByteArray.size x0) : Int) > 0) = Bool.true, (0 : Int) ≤ (0 : Int), 0 < (↑(ByteArray.size x0) : Int), ((↑(UInt8.toNat (List.getD (Array.toList (ByteArray.data x0)) 0 0)) : Int) == 45) = Bool.true, ((↑(ByteArray.size x0) : Int) == 1) = Bool.false, InR IntKind.i64 ((↑(ByteArray.size x0) : Int) - 1), Decidable.decide ((↑(ByteArray.size x0) : Int) - 1 > 18) = Bool.false, (0 : Int) ≤ (1 : Int), 1 < (↑(ByteArray.size x0) : Int), ((↑(UInt8.toNat (List.getD (Array.toList (ByteArray.data x0)) 1 0)) : Int) == 48) = Bool.false, Bool.false = Bool.false]) := by kernel_rfl
theorem p14_5 (x0 : ByteArray) : runF tab ext14 false 62 [] 2000 [] tys14 Tryd.f14.results [true, false, true, true, true] [.code b14] (entE 0 0 sig14 (x0, ())) (entL sig14 (x0, ())) = some ([Dyn.mk (Ty.int IntKind.i64) 0, Dyn.mk Ty.bool Bool.false], [], [Decidable.decide ((↑(ByteArray.size x0) : Int) > 0) = Bool.true, (0 : Int) ≤ (0 : Int), 0 < (↑(ByteArray.size x0) : Int), ((↑(UInt8.toNat (List.getD (Array.toList (ByteArray.data x0)) 0 0)) : Int) == 45) = Bool.false, ((↑(ByteArray.size x0) : Int) == 0) = Bool.true, Bool.true = Bool.true, Bool.true = Bool.true]) := by kernel_rfl
theorem p14_6 (x0 : ByteArray) : runF tab ext14 false 62 [] 2000 [] tys14 Tryd.f14.results [true, false, false, true, true] [.code b14] (entE 0 0 sig14 (x0, ())) (entL sig14 (x0, ())) = some ([Dyn.mk (Ty.int IntKind.i64) 0, Dyn.mk Ty.bool Bool.false], [], [Decidable.decide ((↑(ByteArray.size x0) : Int) > 0) = Bool.true, (0 : Int) ≤ (0 : Int), 0 < (↑(ByteArray.size x0) : Int), ((↑(UInt8.toNat (List.getD (Array.toList (ByteArray.data x0)) 0 0)) : Int) == 45) = Bool.false, ((↑(ByteArray.size x0) : Int) == 0) = Bool.false, InR IntKind.i64 ((↑(ByteArray.size x0) : Int) - 0), Decidable.decide ((↑(ByteArray.size x0) : Int) - 0 > 18) = Bool.true, Bool.true = Bool.true]) := by kernel_rfl
theorem p14_7 (x0 : ByteArray) : runF tab ext14 false 62 [] 2000 [] tys14 Tryd.f14.results [true, false, false, false, true, true] [.code b14] (entE 0 0 sig14 (x0, ())) (entL sig14 (x0, ())) = some ([Dyn.mk (Ty.int IntKind.i64) 0, Dyn.mk Ty.bool Bool.false], [], [Decidable.decide ((↑(ByteArray.size x0) : Int) > 0) = Bool.true, (0 : Int) ≤ (0 : Int), 0 < (↑(ByteArray.size x0) : Int), ((↑(UInt8.toNat (List.getD (Array.toList (ByteArray.data x0)) 0 0)) : Int) == 45) = Bool.false, ((↑(ByteArray.size x0) : Int) == 0) = Bool.false, InR IntKind.i64 ((↑(ByteArray.size x0) : Int) - 0), Decidable.decide ((↑(ByteArray.size x0) : Int) - 0 > 18) = Bool.false, (0 : Int) ≤ (0 : Int), 0 < (↑(ByteArray.size x0) : Int), ((↑(UInt8.toNat (List.getD (Array.toList (ByteArray.data x0)) 0 0)) : Int) == 48) = Bool.true, Decidable.decide ((↑(ByteArray.size x0) : Int) > 1) = Bool.true]) := by kernel_rfl
theorem p14_8 (x0 : ByteArray) : Am.runN tab ext14 false 62 [] 2000 [] [] [0, 4, 5, 6] [] [true, false, false, false, true, false] [.code b14] (entE 0 0 sig14 (x0, ())) (entL sig14 (x0, ())) = some (cutAt b14 8, E14_8 (0) (0) (0) (x0), L14_8 (0) (0) (0) (x0), [Decidable.decide ((↑(ByteArray.size x0) : Int) > 0) = Bool.true, (0 : Int) ≤ (0 : Int), 0 < (↑(ByteArray.size x0) : Int), ((↑(UInt8.toNat (List.getD (Array.toList (ByteArray.data x0)) 0 0)) : Int) == 45) = Bool.false, ((↑(ByteArray.size x0) : Int) == 0) = Bool.false, InR IntKind.i64 ((↑(ByteArray.size x0) : Int) - 0), Decidable.decide ((↑(ByteArray.size x0) : Int) - 0 > 18) = Bool.false, (0 : Int) ≤ (0 : Int), 0 < (↑(ByteArray.size x0) : Int), ((↑(UInt8.toNat (List.getD (Array.toList (ByteArray.data x0)) 0 0)) : Int) == 48) = Bool.true, Decidable.decide ((↑(ByteArray.size x0) : Int) > 1) = Bool.false]) := by kernel_rfl
theorem p14_9 (x0 : ByteArray) : Am.runN tab ext14 false 62 [] 2000 [] [] [0, 4, 5, 6] [] [true, false, false, false, false, false] [.code b14] (entE 0 0 sig14 (x0, ())) (entL sig14 (x0, ())) = some (cutAt b14 8, E14_8 (0) (0) (0) (x0), L14_8 (0) (0) (0) (x0), [Decidable.decide ((↑(ByteArray.size x0) : Int) > 0) = Bool.true, (0 : Int) ≤ (0 : Int), 0 < (↑(ByteArray.size x0) : Int), ((↑(UInt8.toNat (List.getD (Array.toList (ByteArray.data x0)) 0 0)) : Int) == 45) = Bool.false, ((↑(ByteArray.size x0) : Int) == 0) = Bool.false, InR IntKind.i64 ((↑(ByteArray.size x0) : Int) - 0), Decidable.decide ((↑(ByteArray.size x0) : Int) - 0 > 18) = Bool.false, (0 : Int) ≤ (0 : Int), 0 < (↑(ByteArray.size x0) : Int), ((↑(UInt8.toNat (List.getD (Array.toList (ByteArray.data x0)) 0 0)) : Int) == 48) = Bool.false, Bool.false = Bool.false]) := by kernel_rfl
theorem p14_10 (x0 : ByteArray) : runF tab ext14 false 62 [] 2000 [] tys14 Tryd.f14.results [false, false, true, true, true] [.code b14] (entE 0 0 sig14 (x0, ())) (entL sig14 (x0, ())) = some ([Dyn.mk (Ty.int IntKind.i64) 0, Dyn.mk Ty.bool Bool.false], [], [Decidable.decide ((↑(ByteArray.size x0) : Int) > 0) = Bool.false, Bool.false = Bool.false, ((↑(ByteArray.size x0) : Int) == 0) = Bool.true, Bool.true = Bool.true, Bool.true = Bool.true]) := by kernel_rfl
theorem p14_11 (x0 : ByteArray) : runF tab ext14 false 62 [] 2000 [] tys14 Tryd.f14.results [false, false, false, true, true] [.code b14] (entE 0 0 sig14 (x0, ())) (entL sig14 (x0, ())) = some ([Dyn.mk (Ty.int IntKind.i64) 0, Dyn.mk Ty.bool Bool.false], [], [Decidable.decide ((↑(ByteArray.size x0) : Int) > 0) = Bool.false, Bool.false = Bool.false, ((↑(ByteArray.size x0) : Int) == 0) = Bool.false, InR IntKind.i64 ((↑(ByteArray.size x0) : Int) - 0), Decidable.decide ((↑(ByteArray.size x0) : Int) - 0 > 18) = Bool.true, Bool.true = Bool.true]) := by kernel_rfl
theorem p14_12 (x0 : ByteArray) : runF tab ext14 false 62 [] 2000 [] tys14 Tryd.f14.results [false, false, false, false, true, true] [.code b14] (entE 0 0 sig14 (x0, ())) (entL sig14 (x0, ())) = some ([Dyn.mk (Ty.int IntKind.i64) 0, Dyn.mk Ty.bool Bool.false], [], [Decidable.decide ((↑(ByteArray.size x0) : Int) > 0) = Bool.false, Bool.false = Bool.false, ((↑(ByteArray.size x0) : Int) == 0) = Bool.false, InR IntKind.i64 ((↑(ByteArray.size x0) : Int) - 0), Decidable.decide ((↑(ByteArray.size x0) : Int) - 0 > 18) = Bool.false, (0 : Int) ≤ (0 : Int), 0 < (↑(ByteArray.size x0) : Int), ((↑(UInt8.toNat (List.getD (Array.toList (ByteArray.data x0)) 0 0)) : Int) == 48) = Bool.true, Decidable.decide ((↑(ByteArray.size x0) : Int) > 1) = Bool.true]) := by kernel_rfl
theorem p14_13 (x0 : ByteArray) : Am.runN tab ext14 false 62 [] 2000 [] [] [0, 4, 5, 6] [] [false, false, false, false, true, false] [.code b14] (entE 0 0 sig14 (x0, ())) (entL sig14 (x0, ())) = some (cutAt b14 8, E14_8 (0) (0) (0) (x0), L14_8 (0) (0) (0) (x0), [Decidable.decide ((↑(ByteArray.size x0) : Int) > 0) = Bool.false, Bool.false = Bool.false, ((↑(ByteArray.size x0) : Int) == 0) = Bool.false, InR IntKind.i64 ((↑(ByteArray.size x0) : Int) - 0), Decidable.decide ((↑(ByteArray.size x0) : Int) - 0 > 18) = Bool.false, (0 : Int) ≤ (0 : Int), 0 < (↑(ByteArray.size x0) : Int), ((↑(UInt8.toNat (List.getD (Array.toList (ByteArray.data x0)) 0 0)) : Int) == 48) = Bool.true, Decidable.decide ((↑(ByteArray.size x0) : Int) > 1) = Bool.false]) := by kernel_rfl
theorem p14_14 (x0 : ByteArray) : Am.runN tab ext14 false 62 [] 2000 [] [] [0, 4, 5, 6] [] [false, false, false, false, false, false] [.code b14] (entE 0 0 sig14 (x0, ())) (entL sig14 (x0, ())) = some (cutAt b14 8, E14_8 (0) (0) (0) (x0), L14_8 (0) (0) (0) (x0), [Decidable.decide ((↑(ByteArray.size x0) : Int) > 0) = Bool.false, Bool.false = Bool.false, ((↑(ByteArray.size x0) : Int) == 0) = Bool.false, InR IntKind.i64 ((↑(ByteArray.size x0) : Int) - 0), Decidable.decide ((↑(ByteArray.size x0) : Int) - 0 > 18) = Bool.false, (0 : Int) ≤ (0 : Int), 0 < (↑(ByteArray.size x0) : Int), ((↑(UInt8.toNat (List.getD (Array.toList (ByteArray.data x0)) 0 0)) : Int) == 48) = Bool.false, Bool.false = Bool.false]) := by kernel_rfl
theorem p14_15 (v4 : Int) (v5 : Int) (v6 : Int) (x0 : ByteArray) : runF tab ext14 false 62 [] 2000 [] tys14 Tryd.f14.results [true, true] (cutAt b14 8) (E14_8 v4 v5 v6 x0) (L14_8 v4 v5 v6 x0) = some ([Dyn.mk (Ty.int IntKind.i64) 0, Dyn.mk Ty.bool Bool.false], [], [Decidable.decide (v6 < (↑(ByteArray.size x0) : Int)) = Bool.true, 0 ≤ v6, v6 < (↑(ByteArray.size x0) : Int), True, (!g26_0 (↑(UInt8.toNat (List.getD (Array.toList (ByteArray.data x0)) (Int.toNat v6) 0)) : Int)) = Bool.true]) := by kernel_rfl
theorem p14_16 (v4 : Int) (v5 : Int) (v6 : Int) (x0 : ByteArray) : Am.runN tab ext14 false 62 [] 2000 [] [] [0, 4, 5, 6] [] [true, false] (cutAt b14 8) (E14_8 v4 v5 v6 x0) (L14_8 v4 v5 v6 x0) = some (cutAt b14 8, E14_8 (v4) (10 * v5 + ((↑(UInt8.toNat (List.getD (Array.toList (ByteArray.data x0)) (Int.toNat v6) 0)) : Int) - 48)) (v6 + 1) (x0), L14_8 (v4) (10 * v5 + ((↑(UInt8.toNat (List.getD (Array.toList (ByteArray.data x0)) (Int.toNat v6) 0)) : Int) - 48)) (v6 + 1) (x0), [Decidable.decide (v6 < (↑(ByteArray.size x0) : Int)) = Bool.true, 0 ≤ v6, v6 < (↑(ByteArray.size x0) : Int), True, (!g26_0 (↑(UInt8.toNat (List.getD (Array.toList (ByteArray.data x0)) (Int.toNat v6) 0)) : Int)) = Bool.false, InR IntKind.i64 (10 * v5), 0 ≤ v6, v6 < (↑(ByteArray.size x0) : Int), InR IntKind.u8 ((↑(UInt8.toNat (List.getD (Array.toList (ByteArray.data x0)) (Int.toNat v6) 0)) : Int) - 48), InR IntKind.i64 ((↑(UInt8.toNat (List.getD (Array.toList (ByteArray.data x0)) (Int.toNat v6) 0)) : Int) - 48), InR IntKind.i64 (10 * v5 + ((↑(UInt8.toNat (List.getD (Array.toList (ByteArray.data x0)) (Int.toNat v6) 0)) : Int) - 48)), InR IntKind.i64 (v6 + 1)]) := by kernel_rfl
theorem p14_17 (v4 : Int) (v5 : Int) (v6 : Int) (x0 : ByteArray) : runF tab ext14 false 62 [] 2000 [] tys14 Tryd.f14.results [false, true] (cutAt b14 8) (E14_8 v4 v5 v6 x0) (L14_8 v4 v5 v6 x0) = some ([Dyn.mk (Ty.int IntKind.i64) (0 - v5), Dyn.mk Ty.bool Bool.true], [], [Decidable.decide (v6 < (↑(ByteArray.size x0) : Int)) = Bool.false, (v4 == 1) = Bool.true, InR IntKind.i64 (0 - v5)]) := by kernel_rfl
theorem p14_18 (v4 : Int) (v5 : Int) (v6 : Int) (x0 : ByteArray) : runF tab ext14 false 62 [] 2000 [] tys14 Tryd.f14.results [false, false] (cutAt b14 8) (E14_8 v4 v5 v6 x0) (L14_8 v4 v5 v6 x0) = some ([Dyn.mk (Ty.int IntKind.i64) v5, Dyn.mk Ty.bool Bool.true], [], [Decidable.decide (v6 < (↑(ByteArray.size x0) : Int)) = Bool.false, (v4 == 1) = Bool.false]) := by kernel_rfl
theorem snd14 : ∀ n, (∀ (x0 : ByteArray) ds, R14 n x0 ds → ∀ w0 O q, AtV Tryd.prog 14 (PostR ds [] [] q w0 O) 62 w0 O q [] [.code b14] (entE 0 0 sig14 (x0, ())) (entL sig14 (x0, ()))) ∧ (∀ (v4 : Int) (v5 : Int) (v6 : Int) (x0 : ByteArray) ds, R14_8 n v4 v5 v6 x0 ds → ∀ w0 O q, AtV Tryd.prog 14 (PostR ds [] [] q w0 O) 62 w0 O q [] (cutAt b14 8) (E14_8 v4 v5 v6 x0) (L14_8 v4 v5 v6 x0)) := by
  intro n
  induction n with
  | zero => exact ⟨fun _ _ h => by simp only [R14] at h, fun _ _ _ _ _ h => by simp only [R14_8] at h⟩
  | succ n ih =>
  obtain ⟨ih, ih8⟩ := ih
  refine ⟨?_, ?_⟩
  · intro x0 ds h w0 O q
    rw [R14] at h
    by_cases b0 : (Decidable.decide ((↑(ByteArray.size x0) : Int) > 0)) = true
    · rw [if_pos b0] at h
      obtain ⟨s0, h⟩ := h
      by_cases b1 : ((↑(UInt8.toNat (List.getD (Array.toList (ByteArray.data x0)) 0 0)) : Int) == 45) = true
      · rw [if_pos b1] at h
        by_cases b2 : ((↑(ByteArray.size x0) : Int) == 1) = true
        · rw [if_pos b2] at h
          subst h
          exact AtV.fin Tryd.func14 tabOk ext14Ok mixed (p14_0 x0) ⟨b0, (by decide), s0, b1, b2, rfl, rfl, trivial⟩
        · rw [if_neg b2] at h
          replace b2 := Bool.eq_false_iff.2 b2
          obtain ⟨s1, h⟩ := h
          by_cases b3 : (Decidable.decide ((↑(ByteArray.size x0) : Int) - 1 > 18)) = true
          · rw [if_pos b3] at h
            subst h
            exact AtV.fin Tryd.func14 tabOk ext14Ok mixed (p14_1 x0) ⟨b0, (by decide), s0, b1, b2, s1, b3, rfl, trivial⟩
          · rw [if_neg b3] at h
            replace b3 := Bool.eq_false_iff.2 b3
            obtain ⟨s2, h⟩ := h
            by_cases b4 : ((↑(UInt8.toNat (List.getD (Array.toList (ByteArray.data x0)) 1 0)) : Int) == 48) = true
            · rw [if_pos b4] at h
              by_cases b5 : (Decidable.decide ((↑(ByteArray.size x0) : Int) > 1)) = true
              · rw [if_pos b5] at h
                subst h
                exact AtV.fin Tryd.func14 tabOk ext14Ok mixed (p14_2 x0) ⟨b0, (by decide), s0, b1, b2, s1, b3, (by decide), s2, b4, b5, trivial⟩
              · rw [if_neg b5] at h
                replace b5 := Bool.eq_false_iff.2 b5
                exact AtV.runN tabOk ext14Ok mixed (p14_3 x0) ⟨b0, (by decide), s0, b1, b2, s1, b3, (by decide), s2, b4, b5, trivial⟩ (ih8 _ _ _ _ _ h w0 O q)
            · rw [if_neg b4] at h
              replace b4 := Bool.eq_false_iff.2 b4
              exact AtV.runN tabOk ext14Ok mixed (p14_4 x0) ⟨b0, (by decide), s0, b1, b2, s1, b3, (by decide), s2, b4, rfl, trivial⟩ (ih8 _ _ _ _ _ h w0 O q)
      · rw [if_neg b1] at h
        replace b1 := Bool.eq_false_iff.2 b1
        by_cases b2 : ((↑(ByteArray.size x0) : Int) == 0) = true
        · rw [if_pos b2] at h
          subst h
          exact AtV.fin Tryd.func14 tabOk ext14Ok mixed (p14_5 x0) ⟨b0, (by decide), s0, b1, b2, rfl, rfl, trivial⟩
        · rw [if_neg b2] at h
          replace b2 := Bool.eq_false_iff.2 b2
          obtain ⟨s1, h⟩ := h
          by_cases b3 : (Decidable.decide ((↑(ByteArray.size x0) : Int) - 0 > 18)) = true
          · rw [if_pos b3] at h
            subst h
            exact AtV.fin Tryd.func14 tabOk ext14Ok mixed (p14_6 x0) ⟨b0, (by decide), s0, b1, b2, s1, b3, rfl, trivial⟩
          · rw [if_neg b3] at h
            replace b3 := Bool.eq_false_iff.2 b3
            obtain ⟨s2, h⟩ := h
            by_cases b4 : ((↑(UInt8.toNat (List.getD (Array.toList (ByteArray.data x0)) 0 0)) : Int) == 48) = true
            · rw [if_pos b4] at h
              by_cases b5 : (Decidable.decide ((↑(ByteArray.size x0) : Int) > 1)) = true
              · rw [if_pos b5] at h
                subst h
                exact AtV.fin Tryd.func14 tabOk ext14Ok mixed (p14_7 x0) ⟨b0, (by decide), s0, b1, b2, s1, b3, (by decide), s2, b4, b5, trivial⟩
              · rw [if_neg b5] at h
                replace b5 := Bool.eq_false_iff.2 b5
                exact AtV.runN tabOk ext14Ok mixed (p14_8 x0) ⟨b0, (by decide), s0, b1, b2, s1, b3, (by decide), s2, b4, b5, trivial⟩ (ih8 _ _ _ _ _ h w0 O q)
            · rw [if_neg b4] at h
              replace b4 := Bool.eq_false_iff.2 b4
              exact AtV.runN tabOk ext14Ok mixed (p14_9 x0) ⟨b0, (by decide), s0, b1, b2, s1, b3, (by decide), s2, b4, rfl, trivial⟩ (ih8 _ _ _ _ _ h w0 O q)
    · rw [if_neg b0] at h
      replace b0 := Bool.eq_false_iff.2 b0
      by_cases b1 : ((↑(ByteArray.size x0) : Int) == 0) = true
      · rw [if_pos b1] at h
        subst h
        exact AtV.fin Tryd.func14 tabOk ext14Ok mixed (p14_10 x0) ⟨b0, rfl, b1, rfl, rfl, trivial⟩
      · rw [if_neg b1] at h
        replace b1 := Bool.eq_false_iff.2 b1
        obtain ⟨s0, h⟩ := h
        by_cases b2 : (Decidable.decide ((↑(ByteArray.size x0) : Int) - 0 > 18)) = true
        · rw [if_pos b2] at h
          subst h
          exact AtV.fin Tryd.func14 tabOk ext14Ok mixed (p14_11 x0) ⟨b0, rfl, b1, s0, b2, rfl, trivial⟩
        · rw [if_neg b2] at h
          replace b2 := Bool.eq_false_iff.2 b2
          obtain ⟨s1, h⟩ := h
          by_cases b3 : ((↑(UInt8.toNat (List.getD (Array.toList (ByteArray.data x0)) 0 0)) : Int) == 48) = true
          · rw [if_pos b3] at h
            by_cases b4 : (Decidable.decide ((↑(ByteArray.size x0) : Int) > 1)) = true
            · rw [if_pos b4] at h
              subst h
              exact AtV.fin Tryd.func14 tabOk ext14Ok mixed (p14_12 x0) ⟨b0, rfl, b1, s0, b2, (by decide), s1, b3, b4, trivial⟩
            · rw [if_neg b4] at h
              replace b4 := Bool.eq_false_iff.2 b4
              exact AtV.runN tabOk ext14Ok mixed (p14_13 x0) ⟨b0, rfl, b1, s0, b2, (by decide), s1, b3, b4, trivial⟩ (ih8 _ _ _ _ _ h w0 O q)
          · rw [if_neg b3] at h
            replace b3 := Bool.eq_false_iff.2 b3
            exact AtV.runN tabOk ext14Ok mixed (p14_14 x0) ⟨b0, rfl, b1, s0, b2, (by decide), s1, b3, rfl, trivial⟩ (ih8 _ _ _ _ _ h w0 O q)

  · intro v4 v5 v6 x0 ds h w0 O q
    rw [R14_8] at h
    by_cases b0 : (Decidable.decide (v6 < (↑(ByteArray.size x0) : Int))) = true
    · rw [if_pos b0] at h
      obtain ⟨s0, s1, h⟩ := h
      by_cases b1 : (!g26_0 (↑(UInt8.toNat (List.getD (Array.toList (ByteArray.data x0)) (Int.toNat v6) 0)) : Int)) = true
      · rw [if_pos b1] at h
        subst h
        exact AtV.fin Tryd.func14 tabOk ext14Ok mixed (p14_15 v4 v5 v6 x0) ⟨b0, s0, s1, trivial, b1, trivial⟩
      · rw [if_neg b1] at h
        replace b1 := Bool.eq_false_iff.2 b1
        obtain ⟨s2, h⟩ := h
        obtain ⟨s3, s4, h⟩ := h
        obtain ⟨s5, h⟩ := h
        obtain ⟨s6, h⟩ := h
        obtain ⟨s7, h⟩ := h
        obtain ⟨s8, h⟩ := h
        exact AtV.runN tabOk ext14Ok mixed (p14_16 v4 v5 v6 x0) ⟨b0, s0, s1, trivial, b1, s2, s3, s4, s5, s6, s7, s8, trivial⟩ (ih8 _ _ _ _ _ h w0 O q)
    · rw [if_neg b0] at h
      replace b0 := Bool.eq_false_iff.2 b0
      by_cases b1 : (v4 == 1) = true
      · rw [if_pos b1] at h
        obtain ⟨s0, h⟩ := h
        subst h
        exact AtV.fin Tryd.func14 tabOk ext14Ok mixed (p14_17 v4 v5 v6 x0) ⟨b0, b1, s0, trivial⟩
      · rw [if_neg b1] at h
        replace b1 := Bool.eq_false_iff.2 b1
        subst h
        exact AtV.fin Tryd.func14 tabOk ext14Ok mixed (p14_18 v4 v5 v6 x0) ⟨b0, b1, trivial⟩



def d14 (b : UInt8) : Bool := decide (48 ≤ b.toNat) && decide (b.toNat ≤ 57)
def dig14 : List UInt8 → Int → Int × Bool
  | [], n => (n, true)
  | b :: r, n => if d14 b then dig14 r (10 * n + ((b.toNat : Int) - 48)) else (0, false)
def fin14 (off : Nat) (p : Int × Bool) : Int × Bool := if off = 1 then (0 - p.1, p.2) else p
def num14 : List UInt8 → Int × Bool
  | [] => (0, false)
  | b :: r => if b.toNat = 45 then (if r.length = 0 ∨ 18 < r.length ∨ (r.getD 0 0).toNat = 48 then (0, false) else fin14 1 (dig14 r 0))
    else if 18 < r.length + 1 ∨ (b.toNat = 48 ∧ 0 < r.length) then (0, false) else fin14 0 (dig14 (b :: r) 0)
def g14_0 (x0 : ByteArray) : Int := (num14 x0.data.toList).1
def g14_1 (x0 : ByteArray) : Bool := (num14 x0.data.toList).2
def P14 (x0 : ByteArray) : Prop := True

theorem run14 (x0 : ByteArray) (off : Nat) (hs : x0.size ≤ off + 18) (ho : off ≤ 1) : ∀ (k j m : Nat), off + j + k = x0.size → m < 10 ^ j →
    R14_8 (k + 1) (off : Int) (m : Int) ((off + j : Nat) : Int) x0 [⟨.int .i64, (fin14 off (dig14 (x0.data.toList.drop (off + j)) (m : Int))).1⟩, ⟨.bool, (fin14 off (dig14 (x0.data.toList.drop (off + j)) (m : Int))).2⟩] := by
  intro k
  have hll : x0.data.toList.length = x0.size := rfl
  induction k with
  | zero =>
    intro j m hi hm
    have hp : 10 ^ j ≤ 10 ^ 18 := Nat.pow_le_pow_right (by decide) (by omega)
    have hm2 : m < 1000000000000000000 := Nat.lt_of_lt_of_le hm hp
    rw [R14_8, if_neg (by simp; omega), List.drop_of_length_le (by omega)]
    unfold fin14 dig14
    by_cases h1 : off = 1
    · subst h1
      rw [if_pos (by rfl)]
      exact ⟨by rw [i64_iff]; omega, rfl⟩
    · obtain rfl : off = 0 := by omega
      rw [if_neg (by decide)]
      rfl
  | succ k ih =>
    intro j m hi hm
    have hlt : off + j < x0.data.toList.length := by rw [hll]; omega
    have hcons : x0.data.toList.drop (off + j) = x0.data.toList.getD (off + j) 0 :: x0.data.toList.drop (off + j + 1) := drop_get _ _ 0 hlt
    rw [R14_8, if_pos (by simp only [decide_eq_true_eq]; omega), hcons]
    simp only [Int.toNat_natCast]
    generalize x0.data.toList.getD (off + j) 0 = b at *
    refine ⟨by omega, by omega, ?_⟩
    have hg : g26_0 (b.toNat : Int) = d14 b := by
      unfold g26_0 d14
      by_cases h1 : 48 ≤ b.toNat
      · have h1' : (b.toNat : Int) ≥ 48 := by omega
        by_cases h2 : b.toNat ≤ 57
        · have h2' : (b.toNat : Int) ≤ 57 := by omega
          simp [h1, h2, h1', h2']
        · have h2' : ¬ (b.toNat : Int) ≤ 57 := by omega
          simp [h1, h2, h1', h2']
      · have h1' : ¬ (b.toNat : Int) ≥ 48 := by omega
        simp [h1, h1']
    rw [hg]
    unfold dig14
    cases hd : d14 b with
    | false => simp [fin14]
    | true =>
      have hd' : 48 ≤ b.toNat ∧ b.toNat ≤ 57 := by unfold d14 at hd; simpa using hd
      have hp : 10 ^ j ≤ 10 ^ 17 := Nat.pow_le_pow_right (by decide) (by omega)
      have hm2 : m < 100000000000000000 := Nat.lt_of_lt_of_le hm hp
      simp only [Bool.not_true, Bool.false_eq_true, if_false, if_true]
      refine ⟨by rw [i64_iff]; omega, by omega, by omega, ?_, by rw [i64_iff]; omega, by rw [i64_iff]; omega, by rw [i64_iff]; omega, ?_⟩
      · rw [u8_iff]; omega
      · have e1 : 10 * (m : Int) + ((b.toNat : Int) - 48) = ((10 * m + (b.toNat - 48) : Nat) : Int) := by omega
        have e2 : ((off + j : Nat) : Int) + 1 = ((off + (j + 1) : Nat) : Int) := by omega
        rw [e1, e2]
        exact ih (j + 1) (10 * m + (b.toNat - 48)) (by omega) (by rw [Nat.pow_succ]; omega)

theorem top14 (x0 : ByteArray) (hm : x0.size ≤ 9223372036854775807) : ∃ n, R14 n x0 [⟨.int .i64, g14_0 x0⟩, ⟨.bool, g14_1 x0⟩] := by
  obtain ⟨⟨l⟩⟩ := x0
  unfold g14_0 g14_1
  cases l with
  | nil => exact ⟨1, by
      rw [R14, if_neg (by decide), if_pos (by decide)]
      rfl⟩
  | cons b r =>
    have hsz : (ByteArray.mk ⟨b :: r⟩).size = r.length + 1 := rfl
    rw [hsz] at hm
    have g0 : List.getD (Array.toList (ByteArray.data (ByteArray.mk ⟨b :: r⟩))) 0 0 = b := rfl
    have g1 : List.getD (Array.toList (ByteArray.data (ByteArray.mk ⟨b :: r⟩))) 1 0 = r.getD 0 0 := rfl
    by_cases hb : b.toNat = 45
    · refine ⟨(r.length - 0 + 1) + 1, ?_⟩
      rw [R14, hsz, g0, g1, if_pos (by simp only [decide_eq_true_eq]; omega)]
      refine ⟨by omega, ?_⟩
      rw [if_pos (by rw [hb]; rfl)]
      show _
      unfold num14
      simp only [if_pos hb]
      by_cases h0 : r.length = 0
      · rw [if_pos (by rw [h0]; rfl), if_pos (.inl h0)]
      · rw [if_neg (by simp; omega)]
        refine ⟨by rw [i64_iff]; omega, ?_⟩
        by_cases h18 : 18 < r.length
        · rw [if_pos (by simp only [decide_eq_true_eq]; omega), if_pos (.inr (.inl h18))]
        · rw [if_neg (by simp only [decide_eq_true_eq]; omega)]
          refine ⟨by omega, ?_⟩
          by_cases h48 : (r.getD 0 0).toNat = 48
          · rw [if_pos (by rw [h48]; rfl), if_pos (by simp only [decide_eq_true_eq]; omega), if_pos (.inr (.inr h48))]
          · rw [if_neg (by rw [beq_iff_eq]; omega), if_neg (by omega)]
            exact run14 ⟨⟨b :: r⟩⟩ 1 (by rw [hsz]; omega) (by omega) r.length 0 0 (by rw [hsz]; omega) (by decide)
    · refine ⟨(r.length + 1 + 1) + 1, ?_⟩
      rw [R14, hsz, g0, if_pos (by simp only [decide_eq_true_eq]; omega)]
      refine ⟨by omega, ?_⟩
      rw [if_neg (by simp; omega)]
      unfold num14
      simp only [if_neg hb]
      rw [if_neg (by simp; omega)]
      refine ⟨by rw [i64_iff]; omega, ?_⟩
      by_cases h18 : 18 < r.length + 1
      · rw [if_pos (by simp only [decide_eq_true_eq]; omega), if_pos (.inl h18)]
      · rw [if_neg (by simp only [decide_eq_true_eq]; omega)]
        refine ⟨by omega, ?_⟩
        by_cases h48 : b.toNat = 48
        · rw [if_pos (by rw [h48]; rfl)]
          by_cases hr : 0 < r.length
          · rw [if_pos (by simp only [decide_eq_true_eq]; omega), if_pos (.inr ⟨h48, hr⟩)]
          · rw [if_neg (by simp only [decide_eq_true_eq]; omega), if_neg (by omega)]
            exact run14 ⟨⟨b :: r⟩⟩ 0 (by rw [hsz]; omega) (by omega) (r.length + 1) 0 0 (by rw [hsz]; omega) (by decide)
        · rw [if_neg (by simp; omega), if_neg (by omega)]
          exact run14 ⟨⟨b :: r⟩⟩ 0 (by rw [hsz]; omega) (by omega) (r.length + 1) 0 0 (by rw [hsz]; omega) (by decide)

def S14 : Am.Spec := { sig := sig14, pre := fun ⟨x0, _⟩ => P14 x0, res := fun ⟨x0, _⟩ => [⟨.int .i64, g14_0 x0⟩, ⟨.bool, g14_1 x0⟩] }
theorem con14 : Contract Tryd.prog 14 S14 := contract_of Tryd.func14 hb14 (Nat.le_of_ble_eq_true (by kernel_rfl)) (fun ⟨x0, _⟩ h hwf w0 O q => by
  obtain ⟨n, hn⟩ := top14 x0 hwf.1
  exact (snd14 n).1 x0 _ hn w0 O q)

end Go.Proofs.YteaocgmbhkclcaaDoor

/- Function 7 (spec.l18ReadTicket): its runs between cut points. Written by a program of this repo (gen). -/
set_option linter.unusedVariables false
set_option linter.unusedSimpArgs false
set_option maxRecDepth 100000
namespace Go.Proofs.YteaocgmbhkclcaaDoor
open Go Go.Am Go.Proofs
def ext7 : Ext := [(12, S12), (13, S13), (14, S14), (15, S15)]
theorem call7_12 : Callable Tryd.prog 12 := ⟨Tryd.f12, Tryd.func12, by kernel_rfl, by kernel_rfl⟩
theorem call7_13 : Callable Tryd.prog 13 := ⟨Tryd.f13, Tryd.func13, by kernel_rfl, by kernel_rfl⟩
theorem call7_14 : Callable Tryd.prog 14 := ⟨Tryd.f14, Tryd.func14, by kernel_rfl, by kernel_rfl⟩
theorem call7_15 : Callable Tryd.prog 15 := ⟨Tryd.f15, Tryd.func15, by kernel_rfl, by kernel_rfl⟩
theorem ext7Ok : ExtOk Tryd.prog ext7 := ⟨⟨call7_12, con12⟩, ⟨call7_13, con13⟩, ⟨call7_14, con14⟩, ⟨call7_15, con15⟩, trivial⟩
/-! Function 7. -/
noncomputable def b7 : Code := bodyOf Tryd.f7
theorem hb7 : Tryd.f7.body = some b7 := by kernel_rfl
def sig7 : List AT := [AT.v (Ty.str)]
def tys7 : List Ty := [Ty.cons Ty.str (Ty.cons (Ty.int IntKind.i64) (Ty.cons (Ty.int IntKind.i64) Ty.unit)), Ty.bool]
def P7 (x0 : ByteArray) : Prop := ((P12 x0 32) ∧ (if ((↑(List.length (g12_0 x0 32)) : Int) != 3) = true then True else ((1 < (↑(List.length (g12_0 x0 32)) : Int)) ∧ ((P13 (List.getD (g12_0 x0 32) 1 ByteArray.empty)) ∧ ((2 < (↑(List.length (g12_0 x0 32)) : Int)) ∧ ((0 < (↑(List.length (g12_0 x0 32)) : Int)) ∧ True))))))
def g7_0 (x0 : ByteArray) : ByteArray × Int × Int × Unit := (if ((↑(List.length (g12_0 x0 32)) : Int) != 3) = true then (ByteArray.empty, 0, 0, ()) else (if (!g13_1 (List.getD (g12_0 x0 32) 1 ByteArray.empty)) = true then (ByteArray.empty, 0, 0, ()) else (if (!g14_1 (List.getD (g12_0 x0 32) 2 ByteArray.empty)) = true then (ByteArray.empty, 0, 0, ()) else (if (!g15_0 (List.getD (g12_0 x0 32) 0 ByteArray.empty, g13_0 (List.getD (g12_0 x0 32) 1 ByteArray.empty), g14_0 (List.getD (g12_0 x0 32) 2 ByteArray.empty), ())) = true then (ByteArray.empty, 0, 0, ()) else (List.getD (g12_0 x0 32) 0 ByteArray.empty, g13_0 (List.getD (g12_0 x0 32) 1 ByteArray.empty), g14_0 (List.getD (g12_0 x0 32) 2 ByteArray.empty), ())))))
def g7_1 (x0 : ByteArray) : Bool := (if ((↑(List.length (g12_0 x0 32)) : Int) != 3) = true then Bool.false else (if (!g13_1 (List.getD (g12_0 x0 32) 1 ByteArray.empty)) = true then Bool.false else (if (!g14_1 (List.getD (g12_0 x0 32) 2 ByteArray.empty)) = true then Bool.false else (if (!g15_0 (List.getD (g12_0 x0 32) 0 ByteArray.empty, g13_0 (List.getD (g12_0 x0 32) 1 ByteArray.empty), g14_0 (List.getD (g12_0 x0 32) 2 ByteArray.empty), ())) = true then Bool.false else Bool.true))))
theorem p7_0 (x0 : ByteArray) : runF tab ext7 false 48 [] 2000 [] tys7 Tryd.f7.results [true] [.code b7] (entE 0 0 sig7 (x0, ())) (entL sig7 (x0, ())) = some ([Dyn.mk (Ty.cons Ty.str (Ty.cons (Ty.int IntKind.i64) (Ty.cons (Ty.int IntKind.i64) Ty.unit))) (ByteArray.empty, 0, 0, ()), Dyn.mk Ty.bool Bool.false], [], [P12 x0 32, ((↑(List.length (g12_0 x0 32)) : Int) != 3) = Bool.true]) := by kernel_rfl
theorem p7_1 (x0 : ByteArray) : runF tab ext7 false 48 [] 2000 [] tys7 Tryd.f7.results [false, true, true, true] [.code b7] (entE 0 0 sig7 (x0, ())) (entL sig7 (x0, ())) = some ([Dyn.mk (Ty.cons Ty.str (Ty.cons (Ty.int IntKind.i64) (Ty.cons (Ty.int IntKind.i64) Ty.unit))) (ByteArray.empty, 0, 0, ()), Dyn.mk Ty.bool Bool.false], [], [P12 x0 32, ((↑(List.length (g12_0 x0 32)) : Int) != 3) = Bool.false, (0 : Int) ≤ (1 : Int), 1 < (↑(List.length (g12_0 x0 32)) : Int), P13 (List.getD (g12_0 x0 32) 1 ByteArray.empty), (0 : Int) ≤ (2 : Int), 2 < (↑(List.length (g12_0 x0 32)) : Int), True, (0 : Int) ≤ (0 : Int), 0 < (↑(List.length (g12_0 x0 32)) : Int), (!g13_1 (List.getD (g12_0 x0 32) 1 ByteArray.empty)) = Bool.true, Bool.true = Bool.true, Bool.true = Bool.true]) := by kernel_rfl
theorem p7_2 (x0 : ByteArray) : runF tab ext7 false 48 [] 2000 [] tys7 Tryd.f7.results [false, false, true, true] [.code b7] (entE 0 0 sig7 (x0, ())) (entL sig7 (x0, ())) = some ([Dyn.mk (Ty.cons Ty.str (Ty.cons (Ty.int IntKind.i64) (Ty.cons (Ty.int IntKind.i64) Ty.unit))) (ByteArray.empty, 0, 0, ()), Dyn.mk Ty.bool Bool.false], [], [P12 x0 32, ((↑(List.length (g12_0 x0 32)) : Int) != 3) = Bool.false, (0 : Int) ≤ (1 : Int), 1 < (↑(List.length (g12_0 x0 32)) : Int), P13 (List.getD (g12_0 x0 32) 1 ByteArray.empty), (0 : Int) ≤ (2 : Int), 2 < (↑(List.length (g12_0 x0 32)) : Int), True, (0 : Int) ≤ (0 : Int), 0 < (↑(List.length (g12_0 x0 32)) : Int), (!g13_1 (List.getD (g12_0 x0 32) 1 ByteArray.empty)) = Bool.false, (!g14_1 (List.getD (g12_0 x0 32) 2 ByteArray.empty)) = Bool.true, Bool.true = Bool.true]) := by kernel_rfl
theorem p7_3 (x0 : ByteArray) : runF tab ext7 false 48 [] 2000 [] tys7 Tryd.f7.results [false, false, false, true] [.code b7] (entE 0 0 sig7 (x0, ())) (entL sig7 (x0, ())) = some ([Dyn.mk (Ty.cons Ty.str (Ty.cons (Ty.int IntKind.i64) (Ty.cons (Ty.int IntKind.i64) Ty.unit))) (ByteArray.empty, 0, 0, ()), Dyn.mk Ty.bool Bool.false], [], [P12 x0 32, ((↑(List.length (g12_0 x0 32)) : Int) != 3) = Bool.false, (0 : Int) ≤ (1 : Int), 1 < (↑(List.length (g12_0 x0 32)) : Int), P13 (List.getD (g12_0 x0 32) 1 ByteArray.empty), (0 : Int) ≤ (2 : Int), 2 < (↑(List.length (g12_0 x0 32)) : Int), True, (0 : Int) ≤ (0 : Int), 0 < (↑(List.length (g12_0 x0 32)) : Int), (!g13_1 (List.getD (g12_0 x0 32) 1 ByteArray.empty)) = Bool.false, (!g14_1 (List.getD (g12_0 x0 32) 2 ByteArray.empty)) = Bool.false, True, (!g15_0 (List.getD (g12_0 x0 32) 0 ByteArray.empty, g13_0 (List.getD (g12_0 x0 32) 1 ByteArray.empty), g14_0 (List.getD (g12_0 x0 32) 2 ByteArray.empty), ())) = Bool.true]) := by kernel_rfl
theorem p7_4 (x0 : ByteArray) : runF tab ext7 false 48 [] 2000 [] tys7 Tryd.f7.results [false, false, false, false] [.code b7] (entE 0 0 sig7 (x0, ())) (entL sig7 (x0, ())) = some ([Dyn.mk (Ty.cons Ty.str (Ty.cons (Ty.int IntKind.i64) (Ty.cons (Ty.int IntKind.i64) Ty.unit))) (List.getD (g12_0 x0 32) 0 ByteArray.empty, g13_0 (List.getD (g12_0 x0 32) 1 ByteArray.empty), g14_0 (List.getD (g12_0 x0 32) 2 ByteArray.empty), ()), Dyn.mk Ty.bool Bool.true], [], [P12 x0 32, ((↑(List.length (g12_0 x0 32)) : Int) != 3) = Bool.false, (0 : Int) ≤ (1 : Int), 1 < (↑(List.length (g12_0 x0 32)) : Int), P13 (List.getD (g12_0 x0 32) 1 ByteArray.empty), (0 : Int) ≤ (2 : Int), 2 < (↑(List.length (g12_0 x0 32)) : Int), True, (0 : Int) ≤ (0 : Int), 0 < (↑(List.length (g12_0 x0 32)) : Int), (!g13_1 (List.getD (g12_0 x0 32) 1 ByteArray.empty)) = Bool.false, (!g14_1 (List.getD (g12_0 x0 32) 2 ByteArray.empty)) = Bool.false, True, (!g15_0 (List.getD (g12_0 x0 32) 0 ByteArray.empty, g13_0 (List.getD (g12_0 x0 32) 1 ByteArray.empty), g14_0 (List.getD (g12_0 x0 32) 2 ByteArray.empty), ())) = Bool.false]) := by kernel_rfl
theorem at7 (x0 : ByteArray) (h : P7 x0) (w0 : World) (O : List Nat) (q : Nat → Value) : AtV Tryd.prog 7 (PostR [⟨Ty.cons Ty.str (Ty.cons (Ty.int IntKind.i64) (Ty.cons (Ty.int IntKind.i64) Ty.unit)), g7_0 x0⟩, ⟨Ty.bool, g7_1 x0⟩] [] [] q w0 O) 48 w0 O q [] [.code b7] (entE 0 0 sig7 (x0, ())) (entL sig7 (x0, ())) := by
  unfold P7 at h
  unfold g7_0 g7_1
  obtain ⟨s0, h⟩ := h
  by_cases b0 : ((↑(List.length (g12_0 x0 32)) : Int) != 3) = true
  · try simp only [if_pos b0] at h ⊢
    exact AtV.fin Tryd.func7 tabOk ext7Ok mixed (p7_0 x0) ⟨s0, b0, trivial⟩
  · try simp only [if_neg b0] at h ⊢
    replace b0 := Bool.eq_false_iff.2 b0
    obtain ⟨s1, h⟩ := h
    obtain ⟨s2, h⟩ := h
    obtain ⟨s3, h⟩ := h
    obtain ⟨s4, h⟩ := h
    by_cases b1 : (!g13_1 (List.getD (g12_0 x0 32) 1 ByteArray.empty)) = true
    · try simp only [if_pos b1] at h ⊢
      exact AtV.fin Tryd.func7 tabOk ext7Ok mixed (p7_1 x0) ⟨s0, b0, (by decide), s1, s2, (by decide), s3, trivial, (by decide), s4, b1, rfl, rfl, trivial⟩
    · try simp only [if_neg b1] at h ⊢
      replace b1 := Bool.eq_false_iff.2 b1
      by_cases b2 : (!g14_1 (List.getD (g12_0 x0 32) 2 ByteArray.empty)) = true
      · try simp only [if_pos b2] at h ⊢
        exact AtV.fin Tryd.func7 tabOk ext7Ok mixed (p7_2 x0) ⟨s0, b0, (by decide), s1, s2, (by decide), s3, trivial, (by decide), s4, b1, b2, rfl, trivial⟩
      · try simp only [if_neg b2] at h ⊢
        replace b2 := Bool.eq_false_iff.2 b2
        by_cases b3 : (!g15_0 (List.getD (g12_0 x0 32) 0 ByteArray.empty, g13_0 (List.getD (g12_0 x0 32) 1 ByteArray.empty), g14_0 (List.getD (g12_0 x0 32) 2 ByteArray.empty), ())) = true
        · try simp only [if_pos b3] at h ⊢
          exact AtV.fin Tryd.func7 tabOk ext7Ok mixed (p7_3 x0) ⟨s0, b0, (by decide), s1, s2, (by decide), s3, trivial, (by decide), s4, b1, b2, trivial, b3, trivial⟩
        · try simp only [if_neg b3] at h ⊢
          replace b3 := Bool.eq_false_iff.2 b3
          exact AtV.fin Tryd.func7 tabOk ext7Ok mixed (p7_4 x0) ⟨s0, b0, (by decide), s1, s2, (by decide), s3, trivial, (by decide), s4, b1, b2, trivial, b3, trivial⟩

def S7 : Am.Spec := { sig := sig7, pre := fun ⟨x0, _⟩ => P7 x0, res := fun ⟨x0, _⟩ => [⟨Ty.cons Ty.str (Ty.cons (Ty.int IntKind.i64) (Ty.cons (Ty.int IntKind.i64) Ty.unit)), g7_0 x0⟩, ⟨Ty.bool, g7_1 x0⟩] }
theorem con7 : Contract Tryd.prog 7 S7 := contract_of Tryd.func7 hb7 (Nat.le_of_ble_eq_true (by kernel_rfl)) (fun ⟨x0, _⟩ h _ w0 O q => at7 x0 h w0 O q)


end Go.Proofs.YteaocgmbhkclcaaDoor

/- Function 4 (spec.ReadTicket): its runs between cut points. Written by a program of this repo (gen). -/
set_option linter.unusedVariables false
set_option linter.unusedSimpArgs false
set_option maxRecDepth 100000
namespace Go.Proofs.YteaocgmbhkclcaaDoor
open Go Go.Am Go.Proofs
def ext4 : Ext := [(7, S7)]
theorem call4_7 : Callable Tryd.prog 7 := ⟨Tryd.f7, Tryd.func7, by kernel_rfl, by kernel_rfl⟩
theorem ext4Ok : ExtOk Tryd.prog ext4 := ⟨⟨call4_7, con7⟩, trivial⟩
/-! Function 4. -/
noncomputable def b4 : Code := bodyOf Tryd.f4
theorem hb4 : Tryd.f4.body = some b4 := by kernel_rfl
def sig4 : List AT := [AT.v (Ty.str)]
def tys4 : List Ty := [Ty.cons Ty.str (Ty.cons (Ty.int IntKind.i64) (Ty.cons (Ty.int IntKind.i64) Ty.unit)), Ty.bool]
def P4 (x0 : ByteArray) : Prop := ((P7 x0) ∧ True)
def g4_0 (x0 : ByteArray) : ByteArray × Int × Int × Unit := g7_0 x0
def g4_1 (x0 : ByteArray) : Bool := g7_1 x0
theorem p4_0 (x0 : ByteArray) : runF tab ext4 false 8 [] 2000 [] tys4 Tryd.f4.results [] [.code b4] (entE 0 0 sig4 (x0, ())) (entL sig4 (x0, ())) = some ([Dyn.mk (Ty.cons Ty.str (Ty.cons (Ty.int IntKind.i64) (Ty.cons (Ty.int IntKind.i64) Ty.unit))) (g7_0 x0), Dyn.mk Ty.bool (g7_1 x0)], [], [P7 x0]) := by kernel_rfl
theorem at4 (x0 : ByteArray) (h : P4 x0) (w0 : World) (O : List Nat) (q : Nat → Value) : AtV Tryd.prog 4 (PostR [⟨Ty.cons Ty.str (Ty.cons (Ty.int IntKind.i64) (Ty.cons (Ty.int IntKind.i64) Ty.unit)), g4_0 x0⟩, ⟨Ty.bool, g4_1 x0⟩] [] [] q w0 O) 8 w0 O q [] [.code b4] (entE 0 0 sig4 (x0, ())) (entL sig4 (x0, ())) := by
  unfold P4 at h
  unfold g4_0 g4_1
  obtain ⟨s0, h⟩ := h
  exact AtV.fin Tryd.func4 tabOk ext4Ok mixed (p4_0 x0) ⟨s0, trivial⟩

def S4 : Am.Spec := { sig := sig4, pre := fun ⟨x0, _⟩ => P4 x0, res := fun ⟨x0, _⟩ => [⟨Ty.cons Ty.str (Ty.cons (Ty.int IntKind.i64) (Ty.cons (Ty.int IntKind.i64) Ty.unit)), g4_0 x0⟩, ⟨Ty.bool, g4_1 x0⟩] }
theorem con4 : Contract Tryd.prog 4 S4 := contract_of Tryd.func4 hb4 (Nat.le_of_ble_eq_true (by kernel_rfl)) (fun ⟨x0, _⟩ h _ w0 O q => at4 x0 h w0 O q)


end Go.Proofs.YteaocgmbhkclcaaDoor

/- Function 8 (strings.Split): its contract, off what is known of the library. -/
set_option linter.unusedVariables false
set_option linter.unusedSimpArgs false
set_option maxRecDepth 100000
namespace Go.Proofs.YteaocgmbhkclcaaDoor
open Go Go.Am Go.Proofs

def sig8 : List AT := [AT.v Ty.str, AT.v Ty.str]
def g8_0 (x0 x1 : ByteArray) : List ByteArray := Lib.splitB x1 0 (Lib.countB x0 x1) x0
def P8 (x0 x1 : ByteArray) : Prop := x0.size < 4294967281 ∧ 1 ≤ x1.size
def S8 : Am.Spec := { sig := sig8, pre := fun ⟨x0, x1, _⟩ => P8 x0 x1, res := fun ⟨x0, x1, _⟩ => [⟨Ty.sl Ty.str, g8_0 x0 x1⟩] }

theorem con8 : Contract Tryd.prog 8 S8 := by
  rintro w ⟨x0, x1, u⟩ vs bss hgo hp ⟨v0, s0, b0, bs0, rfl, rfl, ⟨rfl, rfl, _⟩, v1, s1, b1, bs1, rfl, rfl, ⟨rfl, rfl, _⟩, rfl, rfl⟩ hn
  obtain ⟨hs, h1⟩ : x0.size < 4294967281 ∧ 1 ≤ x1.size := hp
  obtain ⟨m, hm⟩ := maxLenG hgo.inv
  refine (Tryd.strings_Split x0 x1 m w hs hm h1).mono ?_
  rintro e w' ⟨rfl, rfl⟩
  have hlen : (g8_0 x0 x1).length = Lib.countB x0 x1 + 1 := Lib.splitB_all x1 h1 0 _ _ rfl
  have hle := Lib.countB_le x1 h1 x0.size x0 (Nat.le_refl _)
  have hparts : ∀ y ∈ g8_0 x0 x1, y.size ≤ maxLen := fun y hy => by
    have := splitB_part x1 0 _ _ y hy
    unfold maxLen; omega
  have e1 : ∀ xs : List ByteArray, fcs .str xs = xs.map Value.string := by
    intro xs
    induction xs with
    | nil => rfl
    | cons a r ih => unfold fcs at ih ⊢; rw [List.map_cons, List.flatten_cons, ih]; rfl
  have ho : OwnC (w.alloc (.cells ((g8_0 x0 x1).map Value.string).toArray 9)) (.sl .str) (g8_0 x0 x1) [.slice (some ⟨w.heap.size, 0, none⟩) (Lib.countB x0 x1 + 1) (Lib.countB x0 x1 + 1)] [w.heap.size] :=
    own_flat_mk rfl hparts hlen.symm (Nat.le_of_eq hlen) (by unfold maxLen; omega) (by rw [List.size_toArray, List.length_map, hlen]; simp [Ty.size]) (heap_new w _) (freeS_zero _ _) (fun j u hj => by
      rw [e1] at hj
      rw [Nat.zero_add, ← Array.getElem?_toList]
      exact hj)
  refine ⟨[_], [], [[w.heap.size]], rfl, (Kept.refl _ _).alloc _, ⟨_, _, _, _, _, rfl, rfl, ho, rfl, rfl, rfl⟩, ⟨rfl, rfl⟩, by simp, fun b hb hg => ?_⟩
  simp at hb
  have := hg.1
  omega

end Go.Proofs.YteaocgmbhkclcaaDoor

/- Function 18 (impl.number): its runs between cut points. Written by a program of this repo (gen). -/
set_option linter.unusedVariables false
set_option linter.unusedSimpArgs false
set_option maxRecDepth 100000
namespace Go.Proofs.YteaocgmbhkclcaaDoor
open Go Go.Am Go.Proofs
def ext18 : Ext := []
theorem ext18Ok : ExtOk Tryd.prog ext18 := trivial
/-! Function 18. -/
noncomputable def b18 : Code := bodyOf Tryd.f18
theorem hb18 : Tryd.f18.body = some b18 := by kernel_rfl
def sig18 : List AT := [AT.v (Ty.str)]
def tys18 : List Ty := [Ty.int IntKind.i64]
def E18_5 (v3 : Int) (v17 : Int) (x0 : ByteArray) : Env := [(3, PV.a (Atom.val (Value.int IntKind.i64 v3))), (15, PV.a (Atom.osl 0 Option.none)), (16, PV.a (Atom.val (Value.int IntKind.i64 (↑(List.length (bytesOf x0)) : Int)))), (17, PV.a (Atom.val (Value.int IntKind.i64 v17)))]
def L18_5 (v3 : Int) (v17 : Int) (x0 : ByteArray) : Heap := [Option.some (Arr.mk (Ty.int IntKind.u8) (bytesOf x0) Bool.false)]
mutual
def R18 : Nat → ByteArray → List Dyn → Prop
  | 0, _, _ => False
  | n + 1, x0, ds => (if (Decidable.decide ((↑(ByteArray.size x0) : Int) < 1)) = true then (ds = [Dyn.mk (Ty.int IntKind.i64) (-1)]) else (if (Decidable.decide ((↑(ByteArray.size x0) : Int) > 12)) = true then (ds = [Dyn.mk (Ty.int IntKind.i64) (-1)]) else (R18_5 n (0) (0) (x0) ds)))
def R18_5 : Nat → Int → Int → ByteArray → List Dyn → Prop
  | 0, _, _, _, _ => False
  | n + 1, v3, v17, x0, ds => (if (Decidable.decide (v17 < (↑(List.length (bytesOf x0)) : Int))) = true then ((0 ≤ v17) ∧ (v17 < (↑(List.length (bytesOf x0)) : Int)) ∧ (if (Decidable.decide (List.getD (bytesOf x0) (Int.toNat v17) 0 < 48)) = true then (ds = [Dyn.mk (Ty.int IntKind.i64) (-1)]) else (if (Decidable.decide (List.getD (bytesOf x0) (Int.toNat v17) 0 > 57)) = true then (ds = [Dyn.mk (Ty.int IntKind.i64) (-1)]) else ((InR IntKind.i64 (10 * v3)) ∧ ((InR IntKind.u8 (List.getD (bytesOf x0) (Int.toNat v17) 0 - 48)) ∧ ((InR IntKind.i64 (List.getD (bytesOf x0) (Int.toNat v17) 0 - 48)) ∧ ((InR IntKind.i64 (10 * v3 + (List.getD (bytesOf x0) (Int.toNat v17) 0 - 48))) ∧ ((InR IntKind.i64 (v17 + 1)) ∧ (R18_5 n (10 * v3 + (List.getD (bytesOf x0) (Int.toNat v17) 0 - 48)) (v17 + 1) (x0) ds))))))))) else (ds = [Dyn.mk (Ty.int IntKind.i64) v3]))
end
theorem p18_0 (x0 : ByteArray) : runF tab ext18 false 35 [] 2000 [] tys18 Tryd.f18.results [true, true] [.code b18] (entE 0 0 sig18 (x0, ())) (entL sig18 (x0, ())) = some ([Dyn.mk (Ty.int IntKind.i64) (-1)], [], [Decidable.decide ((↑(ByteArray.size x0) : Int) < 1) = Bool.true, Bool.true = Bool.true]) := by kernel_rfl
theorem p18_1 (x0 : ByteArray) : runF tab ext18 false 35 [] 2000 [] tys18 Tryd.f18.results [false, true] [.code b18] (entE 0 0 sig18 (x0, ())) (entL sig18 (x0, ())) = some ([Dyn.mk (Ty.int IntKind.i64) (-1)], [], [Decidable.decide ((↑(ByteArray.size x0) : Int) < 1) = Bool.false, Decidable.decide ((↑(ByteArray.size x0) : Int) > 12) = Bool.true]) := by kernel_rfl
theorem p18_2 (x0 : ByteArray) : Am.runN tab ext18 false 35 [] 2000 [] [] [3, 15, 16, 17] [0] [false, false] [.code b18] (entE 0 0 sig18 (x0, ())) (entL sig18 (x0, ())) = some (cutAt b18 5, E18_5 (0) (0) (x0), L18_5 (0) (0) (x0), [Decidable.decide ((↑(ByteArray.size x0) : Int) < 1) = Bool.false, Decidable.decide ((↑(ByteArray.size x0) : Int) > 12) = Bool.false]) := by kernel_rfl
theorem p18_3 (v3 : Int) (v17 : Int) (x0 : ByteArray) : runF tab ext18 false 35 [] 2000 [] tys18 Tryd.f18.results [true, true, true] (cutAt b18 5) (E18_5 v3 v17 x0) (L18_5 v3 v17 x0) = some ([Dyn.mk (Ty.int IntKind.i64) (-1)], [], [Decidable.decide (v17 < (↑(List.length (bytesOf x0)) : Int)) = Bool.true, 0 ≤ v17, v17 < (↑(List.length (bytesOf x0)) : Int), Decidable.decide (List.getD (bytesOf x0) (Int.toNat v17) 0 < 48) = Bool.true, Bool.true = Bool.true]) := by kernel_rfl
theorem p18_4 (v3 : Int) (v17 : Int) (x0 : ByteArray) : runF tab ext18 false 35 [] 2000 [] tys18 Tryd.f18.results [true, false, true] (cutAt b18 5) (E18_5 v3 v17 x0) (L18_5 v3 v17 x0) = some ([Dyn.mk (Ty.int IntKind.i64) (-1)], [], [Decidable.decide (v17 < (↑(List.length (bytesOf x0)) : Int)) = Bool.true, 0 ≤ v17, v17 < (↑(List.length (bytesOf x0)) : Int), Decidable.decide (List.getD (bytesOf x0) (Int.toNat v17) 0 < 48) = Bool.false, Decidable.decide (List.getD (bytesOf x0) (Int.toNat v17) 0 > 57) = Bool.true]) := by kernel_rfl
theorem p18_5 (v3 : Int) (v17 : Int) (x0 : ByteArray) : Am.runN tab ext18 false 35 [] 2000 [] [] [3, 15, 16, 17] [0] [true, false, false] (cutAt b18 5) (E18_5 v3 v17 x0) (L18_5 v3 v17 x0) = some (cutAt b18 5, E18_5 (10 * v3 + (List.getD (bytesOf x0) (Int.toNat v17) 0 - 48)) (v17 + 1) (x0), L18_5 (10 * v3 + (List.getD (bytesOf x0) (Int.toNat v17) 0 - 48)) (v17 + 1) (x0), [Decidable.decide (v17 < (↑(List.length (bytesOf x0)) : Int)) = Bool.true, 0 ≤ v17, v17 < (↑(List.length (bytesOf x0)) : Int), Decidable.decide (List.getD (bytesOf x0) (Int.toNat v17) 0 < 48) = Bool.false, Decidable.decide (List.getD (bytesOf x0) (Int.toNat v17) 0 > 57) = Bool.false, InR IntKind.i64 (10 * v3), InR IntKind.u8 (List.getD (bytesOf x0) (Int.toNat v17) 0 - 48), InR IntKind.i64 (List.getD (bytesOf x0) (Int.toNat v17) 0 - 48), InR IntKind.i64 (10 * v3 + (List.getD (bytesOf x0) (Int.toNat v17) 0 - 48)), InR IntKind.i64 (v17 + 1)]) := by kernel_rfl
theorem p18_6 (v3 : Int) (v17 : Int) (x0 : ByteArray) : runF tab ext18 false 35 [] 2000 [] tys18 Tryd.f18.results [false] (cutAt b18 5) (E18_5 v3 v17 x0) (L18_5 v3 v17 x0) = some ([Dyn.mk (Ty.int IntKind.i64) v3], [], [Decidable.decide (v17 < (↑(List.length (bytesOf x0)) : Int)) = Bool.false]) := by kernel_rfl
theorem snd18 : ∀ n, (∀ (x0 : ByteArray) ds, R18 n x0 ds → ∀ w0 O q, AtV Tryd.prog 18 (PostR ds [] [] q w0 O) 35 w0 O q [] [.code b18] (entE 0 0 sig18 (x0, ())) (entL sig18 (x0, ()))) ∧ (∀ (v3 : Int) (v17 : Int) (x0 : ByteArray) ds, R18_5 n v3 v17 x0 ds → ∀ w0 O q, AtV Tryd.prog 18 (PostR ds [] [] q w0 O) 35 w0 O q [] (cutAt b18 5) (E18_5 v3 v17 x0) (L18_5 v3 v17 x0)) := by
  intro n
  induction n with
  | zero => exact ⟨fun _ _ h => by simp only [R18] at h, fun _ _ _ _ h => by simp only [R18_5] at h⟩
  | succ n ih =>
  obtain ⟨ih, ih5⟩ := ih
  refine ⟨?_, ?_⟩
  · intro x0 ds h w0 O q
    rw [R18] at h
    by_cases b0 : (Decidable.decide ((↑(ByteArray.size x0) : Int) < 1)) = true
    · rw [if_pos b0] at h
      subst h
      exact AtV.fin Tryd.func18 tabOk ext18Ok mixed (p18_0 x0) ⟨b0, rfl, trivial⟩
    · rw [if_neg b0] at h
      replace b0 := Bool.eq_false_iff.2 b0
      by_cases b1 : (Decidable.decide ((↑(ByteArray.size x0) : Int) > 12)) = true
      · rw [if_pos b1] at h
        subst h
        exact AtV.fin Tryd.func18 tabOk ext18Ok mixed (p18_1 x0) ⟨b0, b1, trivial⟩
      · rw [if_neg b1] at h
        replace b1 := Bool.eq_false_iff.2 b1
        exact AtV.runN tabOk ext18Ok mixed (p18_2 x0) ⟨b0, b1, trivial⟩ (ih5 _ _ _ _ h w0 O q)

  · intro v3 v17 x0 ds h w0 O q
    rw [R18_5] at h
    by_cases b0 : (Decidable.decide (v17 < (↑(List.length (bytesOf x0)) : Int))) = true
    · rw [if_pos b0] at h
      obtain ⟨s0, s1, h⟩ := h
      by_cases b1 : (Decidable.decide (List.getD (bytesOf x0) (Int.toNat v17) 0 < 48)) = true
      · rw [if_pos b1] at h
        subst h
        exact AtV.fin Tryd.func18 tabOk ext18Ok mixed (p18_3 v3 v17 x0) ⟨b0, s0, s1, b1, rfl, trivial⟩
      · rw [if_neg b1] at h
        replace b1 := Bool.eq_false_iff.2 b1
        by_cases b2 : (Decidable.decide (List.getD (bytesOf x0) (Int.toNat v17) 0 > 57)) = true
        · rw [if_pos b2] at h
          subst h
          exact AtV.fin Tryd.func18 tabOk ext18Ok mixed (p18_4 v3 v17 x0) ⟨b0, s0, s1, b1, b2, trivial⟩
        · rw [if_neg b2] at h
          replace b2 := Bool.eq_false_iff.2 b2
          obtain ⟨s2, h⟩ := h
          obtain ⟨s3, h⟩ := h
          obtain ⟨s4, h⟩ := h
          obtain ⟨s5, h⟩ := h
          obtain ⟨s6, h⟩ := h
          exact AtV.runN tabOk ext18Ok mixed (p18_5 v3 v17 x0) ⟨b0, s0, s1, b1, b2, s2, s3, s4, s5, s6, trivial⟩ (ih5 _ _ _ _ h w0 O q)
    · rw [if_neg b0] at h
      replace b0 := Bool.eq_false_iff.2 b0
      subst h
      exact AtV.fin Tryd.func18 tabOk ext18Ok mixed (p18_6 v3 v17 x0) ⟨b0, trivial⟩



def num18 : List UInt8 → Int → Int
  | [], n => n
  | b :: r, n => if decide (48 ≤ b.toNat) && decide (b.toNat ≤ 57) then num18 r (10 * n + ((b.toNat : Int) - 48)) else -1
def g18_0 (x0 : ByteArray) : Int := if x0.size < 1 ∨ 12 < x0.size then -1 else num18 x0.data.toList 0
def P18 (x0 : ByteArray) : Prop := True

theorem run18 (x0 : ByteArray) (hs : x0.size ≤ 12) : ∀ (k i m : Nat), i + k = x0.size → m < 10 ^ i →
    R18_5 (k + 1) (m : Int) (i : Int) x0 [⟨.int .i64, num18 (x0.data.toList.drop i) (m : Int)⟩] := by
  intro k
  have hll : x0.data.toList.length = x0.size := rfl
  have hbl : (bytesOf x0).length = x0.size := by unfold bytesOf; rw [List.length_map]; rfl
  induction k with
  | zero =>
    intro i m hi hm
    rw [R18_5, if_neg (by rw [hbl]; simp; omega), List.drop_of_length_le (by omega)]
    rfl
  | succ k ih =>
    intro i m hi hm
    have hlt : i < x0.data.toList.length := by rw [hll]; omega
    have hcons : x0.data.toList.drop i = x0.data.toList.getD i 0 :: x0.data.toList.drop (i + 1) := drop_get _ i 0 hlt
    have hbyte : (bytesOf x0).getD i 0 = ((x0.data.toList.getD i 0).toNat : Int) := by
      unfold bytesOf
      rw [List.getD_eq_getElem?_getD, List.getD_eq_getElem?_getD, List.getElem?_map, List.getElem?_eq_getElem hlt]
      rfl
    rw [R18_5, if_pos (by rw [hbl]; simp; omega), hcons]
    simp only [Int.toNat_natCast, hbyte, hbl]
    generalize x0.data.toList.getD i 0 = b at *
    refine ⟨by omega, by omega, ?_⟩
    unfold num18
    by_cases h1 : b.toNat < 48
    · have h1' : (b.toNat : Int) < 48 := by omega
      have h1'' : ¬ 48 ≤ b.toNat := by omega
      simp [h1', h1'']
    · have h1' : ¬ (b.toNat : Int) < 48 := by omega
      have h1'' : 48 ≤ b.toNat := by omega
      by_cases h2 : b.toNat > 57
      · have h2' : (b.toNat : Int) > 57 := by omega
        have h2'' : ¬ b.toNat ≤ 57 := by omega
        simp [h1', h2', h2'']
      · have h2' : ¬ (b.toNat : Int) > 57 := by omega
        have h2'' : b.toNat ≤ 57 := by omega
        have hp : 10 ^ i ≤ 10 ^ 11 := Nat.pow_le_pow_right (by decide) (by omega)
        have hm2 : m < 100000000000 := Nat.lt_of_lt_of_le hm hp
        simp only [h1', h1'', h2', h2'', decide_true, decide_false, Bool.and_self, Bool.false_eq_true, if_false, if_true]
        refine ⟨by rw [i64_iff]; omega, by rw [u8_iff]; omega, by rw [i64_iff]; omega, by rw [i64_iff]; omega, by rw [i64_iff]; omega, ?_⟩
        have e1 : 10 * (m : Int) + ((b.toNat : Int) - 48) = ((10 * m + (b.toNat - 48) : Nat) : Int) := by omega
        have e2 : (i : Int) + 1 = ((i + 1 : Nat) : Int) := by omega
        rw [e1, e2]
        exact ih (i + 1) (10 * m + (b.toNat - 48)) (by omega) (by rw [Nat.pow_succ]; omega)

theorem top18 (x0 : ByteArray) : R18 (x0.size + 1 + 1) x0 [⟨.int .i64, g18_0 x0⟩] := by
  rw [R18]
  unfold g18_0
  by_cases h1 : x0.size < 1
  · rw [if_pos (by simp; omega), if_pos (.inl h1)]
  · rw [if_neg (by simp; omega)]
    by_cases h2 : 12 < x0.size
    · rw [if_pos (by simp; omega), if_pos (.inr h2)]
    · rw [if_neg (by simp; omega), if_neg (by omega)]
      exact run18 x0 (by omega) x0.size 0 0 (by omega) (by decide)

def S18 : Am.Spec := { sig := sig18, pre := fun ⟨x0, _⟩ => P18 x0, res := fun ⟨x0, _⟩ => [⟨.int .i64, g18_0 x0⟩] }
theorem con18 : Contract Tryd.prog 18 S18 := contract_of Tryd.func18 hb18 (Nat.le_of_ble_eq_true (by kernel_rfl)) (fun ⟨x0, _⟩ h hwf w0 O q =>
  (snd18 _).1 x0 _ (top18 x0) w0 O q)

end Go.Proofs.YteaocgmbhkclcaaDoor

/- Function 17 (impl.DayNumber): its runs between cut points. Written by a program of this repo (gen). -/
set_option linter.unusedVariables false
set_option linter.unusedSimpArgs false
set_option maxRecDepth 100000
namespace Go.Proofs.YteaocgmbhkclcaaDoor
open Go Go.Am Go.Proofs
def ext17 : Ext := [(33, S33), (34, S34), (35, S35)]
theorem call17_33 : Callable Tryd.prog 33 := ⟨Tryd.f33, Tryd.func33, by kernel_rfl, by kernel_rfl⟩
theorem call17_34 : Callable Tryd.prog 34 := ⟨Tryd.f34, Tryd.func34, by kernel_rfl, by kernel_rfl⟩
theorem call17_35 : Callable Tryd.prog 35 := ⟨Tryd.f35, Tryd.func35, by kernel_rfl, by kernel_rfl⟩
theorem ext17Ok : ExtOk Tryd.prog ext17 := ⟨⟨call17_33, con33⟩, ⟨call17_34, con34⟩, ⟨call17_35, con35⟩, trivial⟩
/-! Function 17. -/
noncomputable def b17 : Code := bodyOf Tryd.f17
theorem hb17 : Tryd.f17.body = some b17 := by kernel_rfl
def sig17 : List AT := [AT.v (Ty.int IntKind.i64), AT.v (Ty.int IntKind.i64), AT.v (Ty.int IntKind.i64)]
def tys17 : List Ty := [Ty.int IntKind.i64, Ty.int IntKind.i64]
def P17 (x0 : Int) (x1 : Int) (x2 : Int) : Prop := (if (!g33_0 x0 2000 2099) = true then True else (if (!g33_0 x1 1 12) = true then True else ((P34 x0 x1) ∧ (if (!g33_0 x2 1 (g34_0 x0 x1)) = true then True else ((P35 x0 x1 x2) ∧ True)))))
def g17_0 (x0 : Int) (x1 : Int) (x2 : Int) : Int := (if (!g33_0 x0 2000 2099) = true then 0 else (if (!g33_0 x1 1 12) = true then 0 else (if (!g33_0 x2 1 (g34_0 x0 x1)) = true then 0 else g35_0 x0 x1 x2)))
def g17_1 (x0 : Int) (x1 : Int) (x2 : Int) : Int := (if (!g33_0 x0 2000 2099) = true then 2 else (if (!g33_0 x1 1 12) = true then 2 else (if (!g33_0 x2 1 (g34_0 x0 x1)) = true then 2 else 0)))
theorem p17_0 (x0 : Int) (x1 : Int) (x2 : Int) : runF tab ext17 false 28 [] 2000 [] tys17 Tryd.f17.results [true, true, true] [.code b17] (entE 0 0 sig17 (x0, x1, x2, ())) (entL sig17 (x0, x1, x2, ())) = some ([Dyn.mk (Ty.int IntKind.i64) 0, Dyn.mk (Ty.int IntKind.i64) 2], [], [True, (!g33_0 x0 2000 2099) = Bool.true, Bool.true = Bool.true, Bool.true = Bool.true]) := by kernel_rfl
theorem p17_1 (x0 : Int) (x1 : Int) (x2 : Int) : runF tab ext17 false 28 [] 2000 [] tys17 Tryd.f17.results [false, true, true] [.code b17] (entE 0 0 sig17 (x0, x1, x2, ())) (entL sig17 (x0, x1, x2, ())) = some ([Dyn.mk (Ty.int IntKind.i64) 0, Dyn.mk (Ty.int IntKind.i64) 2], [], [True, (!g33_0 x0 2000 2099) = Bool.false, True, (!g33_0 x1 1 12) = Bool.true, Bool.true = Bool.true]) := by kernel_rfl
theorem p17_2 (x0 : Int) (x1 : Int) (x2 : Int) : runF tab ext17 false 28 [] 2000 [] tys17 Tryd.f17.results [false, false, true] [.code b17] (entE 0 0 sig17 (x0, x1, x2, ())) (entL sig17 (x0, x1, x2, ())) = some ([Dyn.mk (Ty.int IntKind.i64) 0, Dyn.mk (Ty.int IntKind.i64) 2], [], [True, (!g33_0 x0 2000 2099) = Bool.false, True, (!g33_0 x1 1 12) = Bool.false, P34 x0 x1, True, (!g33_0 x2 1 (g34_0 x0 x1)) = Bool.true]) := by kernel_rfl
theorem p17_3 (x0 : Int) (x1 : Int) (x2 : Int) : runF tab ext17 false 28 [] 2000 [] tys17 Tryd.f17.results [false, false, false] [.code b17] (entE 0 0 sig17 (x0, x1, x2, ())) (entL sig17 (x0, x1, x2, ())) = some ([Dyn.mk (Ty.int IntKind.i64) (g35_0 x0 x1 x2), Dyn.mk (Ty.int IntKind.i64) 0], [], [True, (!g33_0 x0 2000 2099) = Bool.false, True, (!g33_0 x1 1 12) = Bool.false, P34 x0 x1, True, (!g33_0 x2 1 (g34_0 x0 x1)) = Bool.false, P35 x0 x1 x2]) := by kernel_rfl
theorem at17 (x0 : Int) (x1 : Int) (x2 : Int) (h : P17 x0 x1 x2) (w0 : World) (O : List Nat) (q : Nat → Value) : AtV Tryd.prog 17 (PostR [⟨Ty.int IntKind.i64, g17_0 x0 x1 x2⟩, ⟨Ty.int IntKind.i64, g17_1 x0 x1 x2⟩] [] [] q w0 O) 28 w0 O q [] [.code b17] (entE 0 0 sig17 (x0, x1, x2, ())) (entL sig17 (x0, x1, x2, ())) := by
  unfold P17 at h
  unfold g17_0 g17_1
  by_cases b0 : (!g33_0 x0 2000 2099) = true
  · try simp only [if_pos b0] at h ⊢
    exact AtV.fin Tryd.func17 tabOk ext17Ok mixed (p17_0 x0 x1 x2) ⟨trivial, b0, rfl, rfl, trivial⟩
  · try simp only [if_neg b0] at h ⊢
    replace b0 := Bool.eq_false_iff.2 b0
    by_cases b1 : (!g33_0 x1 1 12) = true
    · try simp only [if_pos b1] at h ⊢
      exact AtV.fin Tryd.func17 tabOk ext17Ok mixed (p17_1 x0 x1 x2) ⟨trivial, b0, trivial, b1, rfl, trivial⟩
    · try simp only [if_neg b1] at h ⊢
      replace b1 := Bool.eq_false_iff.2 b1
      obtain ⟨s0, h⟩ := h
      by_cases b2 : (!g33_0 x2 1 (g34_0 x0 x1)) = true
      · try simp only [if_pos b2] at h ⊢
        exact AtV.fin Tryd.func17 tabOk ext17Ok mixed (p17_2 x0 x1 x2) ⟨trivial, b0, trivial, b1, s0, trivial, b2, trivial⟩
      · try simp only [if_neg b2] at h ⊢
        replace b2 := Bool.eq_false_iff.2 b2
        obtain ⟨s1, h⟩ := h
        exact AtV.fin Tryd.func17 tabOk ext17Ok mixed (p17_3 x0 x1 x2) ⟨trivial, b0, trivial, b1, s0, trivial, b2, s1, trivial⟩

def S17 : Am.Spec := { sig := sig17, pre := fun ⟨x0, x1, x2, _⟩ => P17 x0 x1 x2, res := fun ⟨x0, x1, x2, _⟩ => [⟨Ty.int IntKind.i64, g17_0 x0 x1 x2⟩, ⟨Ty.int IntKind.i64, g17_1 x0 x1 x2⟩] }
theorem con17 : Contract Tryd.prog 17 S17 := contract_of Tryd.func17 hb17 (Nat.le_of_ble_eq_true (by kernel_rfl)) (fun ⟨x0, x1, x2, _⟩ h _ w0 O q => at17 x0 x1 x2 h w0 O q)


end Go.Proofs.YteaocgmbhkclcaaDoor

/- Function 9 (impl.ReadDate): its runs between cut points. Written by a program of this repo (gen). -/
set_option linter.unusedVariables false
set_option linter.unusedSimpArgs false
set_option maxRecDepth 100000
namespace Go.Proofs.YteaocgmbhkclcaaDoor
open Go Go.Am Go.Proofs
def ext9 : Ext := [(8, S8), (18, S18), (17, S17), (19, S19)]
theorem call9_8 : Callable Tryd.prog 8 := ⟨Tryd.f8, Tryd.func8, by kernel_rfl, by kernel_rfl⟩
theorem call9_18 : Callable Tryd.prog 18 := ⟨Tryd.f18, Tryd.func18, by kernel_rfl, by kernel_rfl⟩
theorem call9_17 : Callable Tryd.prog 17 := ⟨Tryd.f17, Tryd.func17, by kernel_rfl, by kernel_rfl⟩
theorem call9_19 : Callable Tryd.prog 19 := ⟨Tryd.f19, Tryd.func19, by kernel_rfl, by kernel_rfl⟩
theorem ext9Ok : ExtOk Tryd.prog ext9 := ⟨⟨call9_8, con8⟩, ⟨call9_18, con18⟩, ⟨call9_17, con17⟩, ⟨call9_19, con19⟩, trivial⟩
/-! Function 9. -/
noncomputable def b9 : Code := bodyOf Tryd.f9
theorem hb9 : Tryd.f9.body = some b9 := by kernel_rfl
def sig9 : List AT := [AT.v (Ty.str)]
def tys9 : List Ty := [Ty.int IntKind.i64, Ty.bool]
def P9 (x0 : ByteArray) : Prop := ((P8 x0 (ByteArray.mk #[45])) ∧ (if ((↑(List.length (g8_0 x0 (ByteArray.mk #[45]))) : Int) != 3) = true then True else ((0 < (↑(List.length (g8_0 x0 (ByteArray.mk #[45]))) : Int)) ∧ ((1 < (↑(List.length (g8_0 x0 (ByteArray.mk #[45]))) : Int)) ∧ ((2 < (↑(List.length (g8_0 x0 (ByteArray.mk #[45]))) : Int)) ∧ ((P17 (g18_0 (List.getD (g8_0 x0 (ByteArray.mk #[45])) 0 ByteArray.empty)) (g18_0 (List.getD (g8_0 x0 (ByteArray.mk #[45])) 1 ByteArray.empty)) (g18_0 (List.getD (g8_0 x0 (ByteArray.mk #[45])) 2 ByteArray.empty))) ∧ (if (g17_1 (g18_0 (List.getD (g8_0 x0 (ByteArray.mk #[45])) 0 ByteArray.empty)) (g18_0 (List.getD (g8_0 x0 (ByteArray.mk #[45])) 1 ByteArray.empty)) (g18_0 (List.getD (g8_0 x0 (ByteArray.mk #[45])) 2 ByteArray.empty)) != 0) = true then True else ((P19 (g17_0 (g18_0 (List.getD (g8_0 x0 (ByteArray.mk #[45])) 0 ByteArray.empty)) (g18_0 (List.getD (g8_0 x0 (ByteArray.mk #[45])) 1 ByteArray.empty)) (g18_0 (List.getD (g8_0 x0 (ByteArray.mk #[45])) 2 ByteArray.empty)))) ∧ True))))))))
def g9_0 (x0 : ByteArray) : Int := (if ((↑(List.length (g8_0 x0 (ByteArray.mk #[45]))) : Int) != 3) = true then 0 else (if (g17_1 (g18_0 (List.getD (g8_0 x0 (ByteArray.mk #[45])) 0 ByteArray.empty)) (g18_0 (List.getD (g8_0 x0 (ByteArray.mk #[45])) 1 ByteArray.empty)) (g18_0 (List.getD (g8_0 x0 (ByteArray.mk #[45])) 2 ByteArray.empty)) != 0) = true then 0 else (if (!ByteArray.toList (g19_0 (g17_0 (g18_0 (List.getD (g8_0 x0 (ByteArray.mk #[45])) 0 ByteArray.empty)) (g18_0 (List.getD (g8_0 x0 (ByteArray.mk #[45])) 1 ByteArray.empty)) (g18_0 (List.getD (g8_0 x0 (ByteArray.mk #[45])) 2 ByteArray.empty)))) == ByteArray.toList x0) = true then 0 else g17_0 (g18_0 (List.getD (g8_0 x0 (ByteArray.mk #[45])) 0 ByteArray.empty)) (g18_0 (List.getD (g8_0 x0 (ByteArray.mk #[45])) 1 ByteArray.empty)) (g18_0 (List.getD (g8_0 x0 (ByteArray.mk #[45])) 2 ByteArray.empty)))))
def g9_1 (x0 : ByteArray) : Bool := (if ((↑(List.length (g8_0 x0 (ByteArray.mk #[45]))) : Int) != 3) = true then Bool.false else (if (g17_1 (g18_0 (List.getD (g8_0 x0 (ByteArray.mk #[45])) 0 ByteArray.empty)) (g18_0 (List.getD (g8_0 x0 (ByteArray.mk #[45])) 1 ByteArray.empty)) (g18_0 (List.getD (g8_0 x0 (ByteArray.mk #[45])) 2 ByteArray.empty)) != 0) = true then Bool.false else (if (!ByteArray.toList (g19_0 (g17_0 (g18_0 (List.getD (g8_0 x0 (ByteArray.mk #[45])) 0 ByteArray.empty)) (g18_0 (List.getD (g8_0 x0 (ByteArray.mk #[45])) 1 ByteArray.empty)) (g18_0 (List.getD (g8_0 x0 (ByteArray.mk #[45])) 2 ByteArray.empty)))) == ByteArray.toList x0) = true then Bool.false else Bool.true)))
theorem p9_0 (x0 : ByteArray) : runF tab ext9 false 37 [] 2000 [] tys9 Tryd.f9.results [true] [.code b9] (entE 0 0 sig9 (x0, ())) (entL sig9 (x0, ())) = some ([Dyn.mk (Ty.int IntKind.i64) 0, Dyn.mk Ty.bool Bool.false], [], [P8 x0 (ByteArray.mk #[45]), ((↑(List.length (g8_0 x0 (ByteArray.mk #[45]))) : Int) != 3) = Bool.true]) := by kernel_rfl
theorem p9_1 (x0 : ByteArray) : runF tab ext9 false 37 [] 2000 [] tys9 Tryd.f9.results [false, true, true] [.code b9] (entE 0 0 sig9 (x0, ())) (entL sig9 (x0, ())) = some ([Dyn.mk (Ty.int IntKind.i64) 0, Dyn.mk Ty.bool Bool.false], [], [P8 x0 (ByteArray.mk #[45]), ((↑(List.length (g8_0 x0 (ByteArray.mk #[45]))) : Int) != 3) = Bool.false, (0 : Int) ≤ (0 : Int), 0 < (↑(List.length (g8_0 x0 (ByteArray.mk #[45]))) : Int), True, (0 : Int) ≤ (1 : Int), 1 < (↑(List.length (g8_0 x0 (ByteArray.mk #[45]))) : Int), True, (0 : Int) ≤ (2 : Int), 2 < (↑(List.length (g8_0 x0 (ByteArray.mk #[45]))) : Int), True, P17 (g18_0 (List.getD (g8_0 x0 (ByteArray.mk #[45])) 0 ByteArray.empty)) (g18_0 (List.getD (g8_0 x0 (ByteArray.mk #[45])) 1 ByteArray.empty)) (g18_0 (List.getD (g8_0 x0 (ByteArray.mk #[45])) 2 ByteArray.empty)), (g17_1 (g18_0 (List.getD (g8_0 x0 (ByteArray.mk #[45])) 0 ByteArray.empty)) (g18_0 (List.getD (g8_0 x0 (ByteArray.mk #[45])) 1 ByteArray.empty)) (g18_0 (List.getD (g8_0 x0 (ByteArray.mk #[45])) 2 ByteArray.empty)) != 0) = Bool.true, Bool.true = Bool.true]) := by kernel_rfl
theorem p9_2 (x0 : ByteArray) : runF tab ext9 false 37 [] 2000 [] tys9 Tryd.f9.results [false, false, true] [.code b9] (entE 0 0 sig9 (x0, ())) (entL sig9 (x0, ())) = some ([Dyn.mk (Ty.int IntKind.i64) 0, Dyn.mk Ty.bool Bool.false], [], [P8 x0 (ByteArray.mk #[45]), ((↑(List.length (g8_0 x0 (ByteArray.mk #[45]))) : Int) != 3) = Bool.false, (0 : Int) ≤ (0 : Int), 0 < (↑(List.length (g8_0 x0 (ByteArray.mk #[45]))) : Int), True, (0 : Int) ≤ (1 : Int), 1 < (↑(List.length (g8_0 x0 (ByteArray.mk #[45]))) : Int), True, (0 : Int) ≤ (2 : Int), 2 < (↑(List.length (g8_0 x0 (ByteArray.mk #[45]))) : Int), True, P17 (g18_0 (List.getD (g8_0 x0 (ByteArray.mk #[45])) 0 ByteArray.empty)) (g18_0 (List.getD (g8_0 x0 (ByteArray.mk #[45])) 1 ByteArray.empty)) (g18_0 (List.getD (g8_0 x0 (ByteArray.mk #[45])) 2 ByteArray.empty)), (g17_1 (g18_0 (List.getD (g8_0 x0 (ByteArray.mk #[45])) 0 ByteArray.empty)) (g18_0 (List.getD (g8_0 x0 (ByteArray.mk #[45])) 1 ByteArray.empty)) (g18_0 (List.getD (g8_0 x0 (ByteArray.mk #[45])) 2 ByteArray.empty)) != 0) = Bool.false, P19 (g17_0 (g18_0 (List.getD (g8_0 x0 (ByteArray.mk #[45])) 0 ByteArray.empty)) (g18_0 (List.getD (g8_0 x0 (ByteArray.mk #[45])) 1 ByteArray.empty)) (g18_0 (List.getD (g8_0 x0 (ByteArray.mk #[45])) 2 ByteArray.empty))), (!ByteArray.toList (g19_0 (g17_0 (g18_0 (List.getD (g8_0 x0 (ByteArray.mk #[45])) 0 ByteArray.empty)) (g18_0 (List.getD (g8_0 x0 (ByteArray.mk #[45])) 1 ByteArray.empty)) (g18_0 (List.getD (g8_0 x0 (ByteArray.mk #[45])) 2 ByteArray.empty)))) == ByteArray.toList x0) = Bool.true]) := by kernel_rfl
theorem p9_3 (x0 : ByteArray) : runF tab ext9 false 37 [] 2000 [] tys9 Tryd.f9.results [false, false, false] [.code b9] (entE 0 0 sig9 (x0, ())) (entL sig9 (x0, ())) = some ([Dyn.mk (Ty.int IntKind.i64) (g17_0 (g18_0 (List.getD (g8_0 x0 (ByteArray.mk #[45])) 0 ByteArray.empty)) (g18_0 (List.getD (g8_0 x0 (ByteArray.mk #[45])) 1 ByteArray.empty)) (g18_0 (List.getD (g8_0 x0 (ByteArray.mk #[45])) 2 ByteArray.empty))), Dyn.mk Ty.bool Bool.true], [], [P8 x0 (ByteArray.mk #[45]), ((↑(List.length (g8_0 x0 (ByteArray.mk #[45]))) : Int) != 3) = Bool.false, (0 : Int) ≤ (0 : Int), 0 < (↑(List.length (g8_0 x0 (ByteArray.mk #[45]))) : Int), True, (0 : Int) ≤ (1 : Int), 1 < (↑(List.length (g8_0 x0 (ByteArray.mk #[45]))) : Int), True, (0 : Int) ≤ (2 : Int), 2 < (↑(List.length (g8_0 x0 (ByteArray.mk #[45]))) : Int), True, P17 (g18_0 (List.getD (g8_0 x0 (ByteArray.mk #[45])) 0 ByteArray.empty)) (g18_0 (List.getD (g8_0 x0 (ByteArray.mk #[45])) 1 ByteArray.empty)) (g18_0 (List.getD (g8_0 x0 (ByteArray.mk #[45])) 2 ByteArray.empty)), (g17_1 (g18_0 (List.getD (g8_0 x0 (ByteArray.mk #[45])) 0 ByteArray.empty)) (g18_0 (List.getD (g8_0 x0 (ByteArray.mk #[45])) 1 ByteArray.empty)) (g18_0 (List.getD (g8_0 x0 (ByteArray.mk #[45])) 2 ByteArray.empty)) != 0) = Bool.false, P19 (g17_0 (g18_0 (List.getD (g8_0 x0 (ByteArray.mk #[45])) 0 ByteArray.empty)) (g18_0 (List.getD (g8_0 x0 (ByteArray.mk #[45])) 1 ByteArray.empty)) (g18_0 (List.getD (g8_0 x0 (ByteArray.mk #[45])) 2 ByteArray.empty))), (!ByteArray.toList (g19_0 (g17_0 (g18_0 (List.getD (g8_0 x0 (ByteArray.mk #[45])) 0 ByteArray.empty)) (g18_0 (List.getD (g8_0 x0 (ByteArray.mk #[45])) 1 ByteArray.empty)) (g18_0 (List.getD (g8_0 x0 (ByteArray.mk #[45])) 2 ByteArray.empty)))) == ByteArray.toList x0) = Bool.false]) := by kernel_rfl
theorem at9 (x0 : ByteArray) (h : P9 x0) (w0 : World) (O : List Nat) (q : Nat → Value) : AtV Tryd.prog 9 (PostR [⟨Ty.int IntKind.i64, g9_0 x0⟩, ⟨Ty.bool, g9_1 x0⟩] [] [] q w0 O) 37 w0 O q [] [.code b9] (entE 0 0 sig9 (x0, ())) (entL sig9 (x0, ())) := by
  unfold P9 at h
  unfold g9_0 g9_1
  obtain ⟨s0, h⟩ := h
  by_cases b0 : ((↑(List.length (g8_0 x0 (ByteArray.mk #[45]))) : Int) != 3) = true
  · try simp only [if_pos b0] at h ⊢
    exact AtV.fin Tryd.func9 tabOk ext9Ok mixed (p9_0 x0) ⟨s0, b0, trivial⟩
  · try simp only [if_neg b0] at h ⊢
    replace b0 := Bool.eq_false_iff.2 b0
    obtain ⟨s1, h⟩ := h
    obtain ⟨s2, h⟩ := h
    obtain ⟨s3, h⟩ := h
    obtain ⟨s4, h⟩ := h
    by_cases b1 : (g17_1 (g18_0 (List.getD (g8_0 x0 (ByteArray.mk #[45])) 0 ByteArray.empty)) (g18_0 (List.getD (g8_0 x0 (ByteArray.mk #[45])) 1 ByteArray.empty)) (g18_0 (List.getD (g8_0 x0 (ByteArray.mk #[45])) 2 ByteArray.empty)) != 0) = true
    · try simp only [if_pos b1] at h ⊢
      exact AtV.fin Tryd.func9 tabOk ext9Ok mixed (p9_1 x0) ⟨s0, b0, (by decide), s1, trivial, (by decide), s2, trivial, (by decide), s3, trivial, s4, b1, rfl, trivial⟩
    · try simp only [if_neg b1] at h ⊢
      replace b1 := Bool.eq_false_iff.2 b1
      obtain ⟨s5, h⟩ := h
      by_cases b2 : (!ByteArray.toList (g19_0 (g17_0 (g18_0 (List.getD (g8_0 x0 (ByteArray.mk #[45])) 0 ByteArray.empty)) (g18_0 (List.getD (g8_0 x0 (ByteArray.mk #[45])) 1 ByteArray.empty)) (g18_0 (List.getD (g8_0 x0 (ByteArray.mk #[45])) 2 ByteArray.empty)))) == ByteArray.toList x0) = true
      · try simp only [if_pos b2] at h ⊢
        exact AtV.fin Tryd.func9 tabOk ext9Ok mixed (p9_2 x0) ⟨s0, b0, (by decide), s1, trivial, (by decide), s2, trivial, (by decide), s3, trivial, s4, b1, s5, b2, trivial⟩
      · try simp only [if_neg b2] at h ⊢
        replace b2 := Bool.eq_false_iff.2 b2
        exact AtV.fin Tryd.func9 tabOk ext9Ok mixed (p9_3 x0) ⟨s0, b0, (by decide), s1, trivial, (by decide), s2, trivial, (by decide), s3, trivial, s4, b1, s5, b2, trivial⟩

def S9 : Am.Spec := { sig := sig9, pre := fun ⟨x0, _⟩ => P9 x0, res := fun ⟨x0, _⟩ => [⟨Ty.int IntKind.i64, g9_0 x0⟩, ⟨Ty.bool, g9_1 x0⟩] }
theorem con9 : Contract Tryd.prog 9 S9 := contract_of Tryd.func9 hb9 (Nat.le_of_ble_eq_true (by kernel_rfl)) (fun ⟨x0, _⟩ h _ w0 O q => at9 x0 h w0 O q)


end Go.Proofs.YteaocgmbhkclcaaDoor
