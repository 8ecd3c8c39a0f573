/- Several texts in one: the functions that this law reaches, and their laws. -/
import Derived.Test.YticibijneahllaaDoorZ3A
import Derived.Test.YticibijneahllaaDoorZ3B
import Derived.Test.YticibijneahllaaDoorRows
import Derived.KernelRfl
import Derived.Shelf.Vars
import Derived.Lib.ItoaNum
import Derived.Shelf.Strings.Builder1
import Derived.Shelf.Strings.Builder2
import Derived.Shelf.Strings.BuilderF
import Derived.Shelf.Strings.BuilderK
import Derived.Shelf.Utf8.RuneCount
import Derived.Shelf.Strings.Builder2Cap
import Derived.Shelf.Strconv.Itoa0
import Derived.Shelf.Strconv.Itoa1
import Derived.Shelf.LaysM
import Derived.Shelf.Strconv.Itoa2
import Derived.Shelf.Strconv.Itoa3
import Derived.Shelf.Strconv.Itoa4
import Derived.Shelf.Strings.Search1
import Derived.Shelf.Strings.Search2
import Derived.Shelf.Strings.Search3
import Derived.Shelf.Strings.Cut
import Derived.Shelf.Strings.Count
import Derived.Shelf.Strings.Shaped
import Derived.Shelf.Strings.Prefix
import Derived.Shelf.Strings.Split
import Derived.Shelf.Strings.SplitShaped
import Derived.Shelf.Unicode.Decode
import Derived.Shelf.Strings.RuneCount
import Derived.Shelf.Strings.Explode
import Derived.Shelf.Bits.Mul64
import Derived.Shelf.Strings.Repeat
import Derived.Shelf.Unicode.DecodeSlow
import Derived.Shelf.Unicode.DecodeAny

/- The abstract machine, part 41: slices.Insert of one element: from its runs to its contract. -/
namespace Go.Am
set_option linter.unusedVariables false
set_option linter.unusedSimpArgs false
open Go.RowKit (Below)

def insertSpec (t : Ty) : Spec := { sig := [AT.own t, AT.v (.int .i64), AT.own t], pre := fun ⟨x0, x1, x2, _⟩ => 0 ≤ x1 ∧ x1 ≤ x0.length ∧ x2.length = 1 ∧ x0.length ≤ 1048576, upd := fun _ => [none, none], res := fun ⟨x0, x1, x2, _⟩ => [⟨.sl t, x0.take x1.toNat ++ (x2 ++ x0.drop x1.toNat)⟩] }

theorem insert_contract {P : Program} {f : FuncId} {t : Ty} {e : TypeId} (hf : t.flat = true)
    (hshift : ∀ (w : World) (xs ys : List t.den) (b off cap : Nat) (cur : Array Value) (ty : TypeId) (fz : Nat × Nat) (vb voff vcap : Nat) (vcur : Array Value) (vty : TypeId) (vfz : Nat × Nat) (i : Nat), OwnAt w t xs b off cap cur ty fz → OwnAt w t ys vb voff vcap vcur vty vfz → ys.length = 1 → vb ≠ b → i < xs.length → xs.length + 1 ≤ cap →
      Calls P f #[.slice (some ⟨b, off, none⟩) xs.length cap, .int .i64 i, .slice (some ⟨vb, voff, none⟩) 1 vcap] w fun r w' => r = .returned (.slice (some ⟨b, off, none⟩) (xs.length + 1) cap) ∧
        ∃ q, w' = ((w.drewN q).setCells b (off + (i + 1) * t.size) (fcs t (xs.drop i))).setCells b (off + i * t.size) (fcs t ys))
    (hgrow : ∀ (w : World) (xs ys : List t.den) (b off cap : Nat) (cur : Array Value) (ty : TypeId) (fz : Nat × Nat) (vb voff vcap : Nat) (vcur : Array Value) (vty : TypeId) (vfz : Nat × Nat) (i : Nat), OwnAt w t xs b off cap cur ty fz → OwnAt w t ys vb voff vcap vcur vty vfz → ys.length = 1 → vb ≠ b → i < xs.length → cap < xs.length + 1 → xs.length ≤ 1048576 →
      Calls P f #[.slice (some ⟨b, off, none⟩) xs.length cap, .int .i64 i, .slice (some ⟨vb, voff, none⟩) 1 vcap] w fun r w' => ∃ v', r = .returned v' ∧ w'.ownsRow w.heap.size e t.size v' (xs.length + 1) (fcs t (xs.take i ++ (ys ++ xs.drop i))) ∧ Below w.heap.size w w')
    (hend : ∀ (w : World) (xs ys : List t.den) (b off cap : Nat) (cur : Array Value) (ty : TypeId) (fz : Nat × Nat) (vb voff vcap : Nat) (vcur : Array Value) (vty : TypeId) (vfz : Nat × Nat), OwnAt w t xs b off cap cur ty fz → OwnAt w t ys vb voff vcap vcur vty vfz → ys.length = 1 → vb ≠ b → xs.length + 1 ≤ cap →
      Calls P f #[.slice (some ⟨b, off, none⟩) xs.length cap, .int .i64 xs.length, .slice (some ⟨vb, voff, none⟩) 1 vcap] w fun r w' => r = .returned (.slice (some ⟨b, off, none⟩) (xs.length + 1) cap) ∧
        ∃ q, w' = (w.drewN q).setCells b (off + xs.length * t.size) (fcs t ys))
    (hlast : ∀ (w : World) (xs ys : List t.den) (ad : Option Addr) (cap : Nat) (vb voff vcap : Nat) (vcur : Array Value) (vty : TypeId) (vfz : Nat × Nat), (∀ x ∈ xs, Wf t x) → xs.length ≤ cap → (ad = none → xs = []) → (∀ a, ad = some a → ∀ j u, (fcs t xs)[j]? = some u → w.cell? (a.add j) = some u) → OwnAt w t ys vb voff vcap vcur vty vfz → ys.length = 1 → cap < xs.length + 1 → xs.length ≤ 1048576 →
      Calls P f #[.slice ad xs.length cap, .int .i64 xs.length, .slice (some ⟨vb, voff, none⟩) 1 vcap] w fun r w' => ∃ v', r = .returned v' ∧ w'.ownsRow w.heap.size e t.size v' (xs.length + 1) (fcs t (xs ++ ys)) ∧ Below w.heap.size w w') :
    Contract P f (insertSpec t) := by
  rintro w ⟨z0, z1, z2, u⟩ vs bss hgo hp ⟨v, s, b0, bs0, rfl, rfl, ho, v1, s1, b1, bs1, rfl, rfl, ⟨rfl, rfl, _⟩, v2, s2, b2, bs2, rfl, rfl, ho2, rfl, rfl⟩ hn
  obtain ⟨x0, rfl⟩ : ∃ y : List t.den, y = z0 := ⟨z0, rfl⟩
  obtain ⟨x1, rfl⟩ : ∃ y : Int, y = z1 := ⟨z1, rfl⟩
  obtain ⟨x2, rfl⟩ : ∃ y : List t.den, y = z2 := ⟨z2, rfl⟩
  dsimp only
  obtain ⟨p0, p1, p2, p3⟩ : 0 ≤ x1 ∧ x1 ≤ x0.length ∧ x2.length = 1 ∧ x0.length ≤ 1048576 := hp
  obtain ⟨i, rfl⟩ : ∃ i : Nat, x1 = i := ⟨x1.toNat, by omega⟩
  have hi : i ≤ x0.length := by omega
  have ho' : OwnC w (.sl t) x0 [v] b0 := ho
  have ho2' : OwnC w (.sl t) x2 [v2] b2 := ho2
  obtain ⟨vb, voff, vcap, vcur, vty, vfz, rfl, rfl, hB⟩ := ownAt_of hf ho2' (by intro e; rw [e] at p2; simp at p2)
  rw [p2]
  have hwf2 := hB.wf
  -- a row of one's own
  have fresh : ∀ (ys : List t.den) (v' : Value) (w' : World), ys.length = x0.length + 1 → (∀ y ∈ ys, Wf t y) → w'.ownsRow w.heap.size e t.size v' (x0.length + 1) (fcs t ys) → Below w.heap.size w w' →
      ∃ rs ubs rbs, Ending.returned v' = .returned (packV rs) ∧ Kept [b0, [], [vb]].flatten w w' ∧ ResRep w' [⟨.sl t, ys⟩] rs rbs ∧ UpdRep w' [none, none] (ownVals [AT.own t, AT.v (.int .i64), AT.own t] [v, .int .i64 i, .slice (some ⟨vb, voff, none⟩) 1 vcap]) ubs ∧
        (ubs.flatten ++ rbs.flatten).Nodup ∧ ∀ d ∈ ubs.flatten ++ rbs.flatten, ¬ Am.Good w [b0, [], [vb]].flatten d := fun ys v' w' hl hw h1 h2 => by
    rw [← hl] at h1
    obtain ⟨bs, g1, g2, g3⟩ := own_of_row hf hw (by rw [hl]; unfold maxLen; omega) h1
    refine ⟨[v'], [[], []], [bs], rfl, (Kept.of_below h2).of_nil, ⟨_, _, _, _, _, rfl, rfl, g1, rfl, rfl, rfl⟩, ⟨_, _, _, rfl, rfl, _, _, _, rfl, rfl, rfl, rfl⟩, by simpa using g2, fun d hd hg => ?_⟩
    simp at hd
    have := g3 d hd
    have := hg.1
    omega
  -- what was there, written anew
  have wf3 : ∀ y ∈ x0.take i ++ (x2 ++ x0.drop i), Wf t y → True := fun _ _ _ => trivial
  obtain ⟨hw0, hm0, hcase⟩ := own_flat hf ho'
  have hws : ∀ y ∈ x0.take i ++ (x2 ++ x0.drop i), Wf t y := fun y hy => by
    rcases List.mem_append.1 hy with hy | hy
    · exact hw0 y (List.mem_of_mem_take hy)
    · rcases List.mem_append.1 hy with hy | hy
      · exact hwf2 y hy
      · exact hw0 y (List.mem_of_mem_drop hy)
  have hlens : (x0.take i ++ (x2 ++ x0.drop i)).length = x0.length + 1 := by
    simp only [List.length_append, List.length_take, List.length_drop, p2]
    omega
  rcases hcase with ⟨ad, rfl, rfl, rfl⟩ | ⟨b, off, cap, cur, ty, fz, rfl, h2, h3, h4, h5, h6, rfl, h8⟩
  · have hi0 : i = 0 := by simpa using hi
    subst hi0
    have := hlast w [] x2 ad 0 vb voff vcap vcur vty vfz (fun x h => by cases h) (Nat.le_refl _) (fun _ => rfl) (fun a _ j u hj => by simp [fcs] at hj) hB p2 (by simp) (by simp)
    refine this.mono ?_
    rintro r w' ⟨v', rfl, h1, h2⟩
    exact fresh _ v' w' hlens hws (by simpa using h1) h2
  · have hA : OwnAt w t x0 b off cap cur ty fz := ⟨hw0, h2, h3, h4, h5, h6, h8⟩
    have hvb : vb ≠ b := by
      simp only [List.flatten_cons, List.flatten_nil, List.append_nil, List.nil_append, List.cons_append, List.nodup_cons, List.mem_singleton] at hn
      exact fun e => hn.1 e.symm
    have place : ∀ (w' : World) (cur' : Array Value), Kept [b] w w' → w'.heap[b]? = some (.cells cur' ty fz) → cur'.size = cur.size → x0.length + 1 ≤ cap → (∀ j u, (fcs t (x0.take i ++ (x2 ++ x0.drop i)))[j]? = some u → cur'[off + j]? = some u) →
        ∃ rs ubs rbs, Ending.returned (.slice (some ⟨b, off, none⟩) (x0.length + 1) cap) = .returned (packV rs) ∧ Kept [[b], [], [vb]].flatten w w' ∧ ResRep w' [⟨.sl t, x0.take i ++ (x2 ++ x0.drop i)⟩] rs rbs ∧ UpdRep w' [none, none] (ownVals [AT.own t, AT.v (.int .i64), AT.own t] [.slice (some ⟨b, off, none⟩) x0.length cap, .int .i64 i, .slice (some ⟨vb, voff, none⟩) 1 vcap]) ubs ∧
          (ubs.flatten ++ rbs.flatten).Nodup ∧ ∀ d ∈ ubs.flatten ++ rbs.flatten, ¬ Am.Good w [[b], [], [vb]].flatten d := fun w' cur' hk hb hs hr hc => by
      have hres := own_flat_mk (w := w') hf hws (n := x0.length + 1) (b := b) (off := off) (cap := cap) (cur := cur') (ty := ty) (fz := fz) hlens.symm (by rw [hlens]; exact hr) h3 (by rw [hs]; exact h4) hb (by rw [hs]; exact h6) hc
      refine ⟨[_], [[], []], [[b]], rfl, hk.mono (fun k hk => by simp at hk; simp [hk]), ⟨_, _, _, _, _, rfl, rfl, hres, rfl, rfl, rfl⟩, ⟨_, _, _, rfl, rfl, _, _, _, rfl, rfl, rfl, rfl⟩, by simp, fun d hd hg => ?_⟩
      simp at hd
      subst hd
      exact hg.2 (by simp)
    have hdr : ∀ q, Kept [b] w (w.drewN q) := fun q => ⟨rfl, rfl, rfl, Nat.le_refl _, fun _ _ _ => rfl⟩
    have hlen2 : (fcs t x2).length = t.size := by rw [fcs_length hf hwf2, p2, Nat.one_mul]
    by_cases hroom : x0.length + 1 ≤ cap
    · have hle : (x0.length + 1) * t.size ≤ cap * t.size := Nat.mul_le_mul_right _ hroom
      rw [Nat.add_mul, Nat.one_mul] at hle
      by_cases hin : i = x0.length
      · subst hin
        refine (hend w x0 x2 b off cap cur ty fz vb voff vcap vcur vty vfz hA hB p2 hvb hroom).mono ?_
        rintro r w' ⟨rfl, q, rfl⟩
        have l1 : off + x0.length * t.size + (fcs t x2).length ≤ cur.size := by rw [hlen2]; omega
        obtain ⟨c1, g1, g2, g3, g4, g5, g6⟩ := setCells_block (fcs t x2) (show (w.drewN q).heap[b]? = some (.cells cur ty fz) from h5) l1
        refine place _ c1 ((hdr q).trans (setCells_kept _ h5 l1)) g1 g2 hroom (fun j u hu => ?_)
        rw [List.take_length, List.drop_length, List.append_nil, fcs_append] at hu
        have hl0 := fcs_length hf hw0
        by_cases hj : j < x0.length * t.size
        · rw [List.getElem?_append_left (by omega)] at hu
          rw [g4 _ (.inl (by omega))]
          exact h8 j u hu
        · rw [List.getElem?_append_right (by omega), hl0] at hu
          have := g3 _ u hu
          rwa [show off + x0.length * t.size + (j - x0.length * t.size) = off + j by omega] at this
      · have hlt : i < x0.length := by omega
        refine (hshift w x0 x2 b off cap cur ty fz vb voff vcap vcur vty vfz i hA hB p2 hvb hlt hroom).mono ?_
        rintro r w' ⟨rfl, q, rfl⟩
        have hd : (fcs t (x0.drop i)).length = (x0.length - i) * t.size := by rw [fcs_length hf (fun x hx => hw0 x (List.mem_of_mem_drop hx)), List.length_drop]
        have hti : (fcs t (x0.take i)).length = i * t.size := by rw [fcs_length hf (fun x hx => hw0 x (List.mem_of_mem_take hx)), List.length_take, Nat.min_eq_left (by omega)]
        have e1 : (i + 1) * t.size + (x0.length - i) * t.size = x0.length * t.size + t.size := by rw [← Nat.add_mul, ← Nat.succ_mul]; congr 1; omega
        have e2 : (i + 1) * t.size = i * t.size + t.size := Nat.succ_mul _ _
        have l1 : off + (i + 1) * t.size + (fcs t (x0.drop i)).length ≤ cur.size := by rw [hd]; omega
        obtain ⟨c1, g1, g2, g3, g4, g5, g6⟩ := setCells_block (fcs t (x0.drop i)) (show (w.drewN q).heap[b]? = some (.cells cur ty fz) from h5) l1
        have l2 : off + i * t.size + (fcs t x2).length ≤ c1.size := by rw [hlen2, g2]; omega
        obtain ⟨c2, k1, k2, k3, k4, k5, k6⟩ := setCells_block (fcs t x2) g1 l2
        refine place _ c2 (((hdr q).trans (setCells_kept _ h5 l1)).trans (setCells_kept _ g1 l2)) k1 (by rw [k2, g2]) hroom (fun j u hu => ?_)
        rw [fcs_append, fcs_append] at hu
        by_cases hj : j < i * t.size
        · rw [List.getElem?_append_left (by omega)] at hu
          rw [k4 _ (.inl (by omega)), g4 _ (.inl (by omega))]
          exact h8 j u (fcs_take hf hw0 i j u hu)
        · rw [List.getElem?_append_right (by omega), hti] at hu
          by_cases hj2 : j < i * t.size + t.size
          · rw [List.getElem?_append_left (by omega)] at hu
            have := k3 _ u hu
            rwa [show off + i * t.size + (j - i * t.size) = off + j by omega] at this
          · rw [List.getElem?_append_right (by omega), hlen2] at hu
            rw [k4 _ (.inr (by rw [hlen2]; omega))]
            have := g3 _ u hu
            rwa [show off + (i + 1) * t.size + (j - i * t.size - t.size) = off + j by omega] at this
    · by_cases hin : i = x0.length
      · subst hin
        have := hlast w x0 x2 (some ⟨b, off, none⟩) cap vb voff vcap vcur vty vfz hw0 h2 (fun h => by cases h) (fun a ha j u hj => by cases ha; rw [Addr.add_lit]; exact hA.cell j u hj) hB p2 (by omega) p3
        refine this.mono ?_
        rintro r w' ⟨v', rfl, h1, h2⟩
        exact fresh _ v' w' hlens hws (by rw [Int.toNat_natCast, List.take_length, List.drop_length, List.append_nil]; exact h1) h2
      · have hlt : i < x0.length := by omega
        refine (hgrow w x0 x2 b off cap cur ty fz vb voff vcap vcur vty vfz i hA hB p2 hvb hlt (by omega) p3).mono ?_
        rintro r w' ⟨v', rfl, h1, h2⟩
        exact fresh _ v' w' hlens hws h1 h2

end Go.Am

/- The types of this program, as the abstract machine reads them. -/
set_option linter.unusedVariables false
set_option linter.unusedSimpArgs false
set_option maxRecDepth 100000
namespace Go.Proofs.YticibijneahllaaDoor
open Go Go.Am Go.Proofs
def tab : List TI := [TI.other,
  TI.other,
  TI.scal (Ty.int IntKind.i64),
  TI.scal (Ty.int IntKind.i64),
  TI.scal (Ty.bool),
  TI.scal (Ty.int IntKind.u8),
  TI.scal (Ty.int IntKind.u8),
  TI.struct (Ty.cons (Ty.int IntKind.i64) (Ty.cons (Ty.int IntKind.i64) (Ty.cons Ty.bool (Ty.cons (Ty.int IntKind.u8) Ty.unit)))),
  TI.struct (Ty.cons (Ty.int IntKind.i64) (Ty.cons (Ty.int IntKind.i64) (Ty.cons Ty.bool (Ty.cons (Ty.int IntKind.u8) Ty.unit)))),
  TI.scal (Ty.str),
  TI.scal (Ty.str),
  TI.scal (Ty.str),
  TI.scal (Ty.int IntKind.u64),
  TI.other,
  TI.other,
  TI.other,
  TI.other,
  TI.other,
  TI.other,
  TI.other,
  TI.other,
  TI.scal (Ty.int IntKind.i32),
  TI.slice 31 (Ty.cons Ty.str (Ty.cons Ty.str (Ty.cons Ty.str Ty.unit))) 48,
  TI.other,
  TI.other,
  TI.other,
  TI.other,
  TI.slice 9 (Ty.str) 16,
  TI.other,
  TI.other,
  TI.struct (Ty.cons Ty.str (Ty.cons Ty.str (Ty.cons Ty.str Ty.unit))),
  TI.struct (Ty.cons Ty.str (Ty.cons Ty.str (Ty.cons Ty.str Ty.unit))),
  TI.other,
  TI.other,
  TI.other,
  TI.other,
  TI.other,
  TI.other,
  TI.other,
  TI.other,
  TI.other,
  TI.other,
  TI.other,
  TI.other,
  TI.other,
  TI.other,
  TI.other,
  TI.other,
  TI.other,
  TI.other,
  TI.other,
  TI.other,
  TI.other,
  TI.other,
  TI.slice 5 (Ty.int IntKind.u8) 1,
  TI.scal (Ty.int IntKind.u64),
  TI.other,
  TI.other,
  TI.other,
  TI.other,
  TI.other,
  TI.other,
  TI.other,
  TI.other,
  TI.other,
  TI.other,
  TI.other,
  TI.other,
  TI.other,
  TI.other,
  TI.other,
  TI.other,
  TI.other,
  TI.other,
  TI.other,
  TI.other,
  TI.other,
  TI.other,
  TI.other,
  TI.other,
  TI.scal (Ty.int IntKind.u32),
  TI.other,
  TI.other,
  TI.scal (Ty.int IntKind.u64),
  TI.other,
  TI.other,
  TI.other,
  TI.other,
  TI.other,
  TI.other,
  TI.other,
  TI.other,
  TI.other,
  TI.other,
  TI.other,
  TI.other,
  TI.other,
  TI.other,
  TI.other,
  TI.other,
  TI.other,
  TI.other,
  TI.other,
  TI.slice 3 (Ty.int IntKind.i64) 8,
  TI.other,
  TI.other,
  TI.other,
  TI.other,
  TI.other,
  TI.other,
  TI.other,
  TI.other,
  TI.struct (Ty.cons (Ty.int IntKind.u8) (Ty.cons (Ty.int IntKind.u8) Ty.unit)),
  TI.struct (Ty.cons (Ty.int IntKind.u8) (Ty.cons (Ty.int IntKind.u8) Ty.unit)),
  TI.other,
  TI.other,
  TI.other,
  TI.other,
  TI.other,
  TI.other,
  TI.other,
  TI.other,
  TI.other,
  TI.scal (Ty.int IntKind.u8),
  TI.scal (Ty.int IntKind.u8),
  TI.other,
  TI.scal (Ty.int IntKind.i32),
  TI.scal (Ty.int IntKind.i32)]

theorem tabOk : TabOk Tryd.prog tab := tabOk_of_check (by kernel_rfl)
theorem mixed : Tryd.prog.follows .mixedOrders = true := by kernel_rfl
theorem gv0 {W : World} (h : GInv W) : GHas W 0 (.int .i64) := h.1
theorem gcell0 (W : World) (h : W.ShapedOpen Tryd.prog) : ∃ m, W.cell? ⟨0, 0, none⟩ = some (.int .i64 m) :=
  Go.Proofs.cell_of_shapedOpen_int (zero := #[.int .i64 0]) (t := 3) h (of_decide_eq_true (by kernel_rfl)) (by kernel_rfl) rfl (by kernel_rfl) (by kernel_rfl) Tryd.underlying3
theorem gv1 {W : World} (h : GInv W) : GHas W 1 (.tab .u64 Lib.pow10Tab) := h.2.1
theorem maxLenG {W : World} (h : GInv W) : ∃ m, W.cell? ⟨0, 0, none⟩ = some (.int .i64 m) := gv0 h
theorem pow10G {W : World} (h : GInv W) : Lib.TabIs Tryd.prog W "internal/strconv.uint64pow10" .u64 Lib.pow10Tab := GHas.tab (by kernel_rfl) (gv1 h)
theorem ginv (W : World) (h : W.ShapedOpen Tryd.prog) (h1 : GHas W 1 (.tab .u64 Lib.pow10Tab)) : GInv W := ⟨gcell0 W h, h1, trivial⟩
end Go.Proofs.YticibijneahllaaDoor

/- Function 19 (spec.l01Crc): its runs between cut points. Written by a program of this repo (gen). -/
set_option linter.unusedVariables false
set_option linter.unusedSimpArgs false
set_option maxRecDepth 100000
namespace Go.Proofs.YticibijneahllaaDoor
open Go Go.Am Go.Proofs
def ext19 : Ext := []
theorem ext19Ok : ExtOk Tryd.prog ext19 := trivial
/-! Function 19. -/
noncomputable def b19 : Code := bodyOf Tryd.f19
theorem hb19 : Tryd.f19.body = some b19 := by kernel_rfl
def sig19 : List AT := [AT.v (Ty.str), AT.v (Ty.int IntKind.i64)]
def tys19 : List Ty := [Ty.int IntKind.i64]
def E19_2 (v5 : Int) (x0 : ByteArray) (x1 : Int) : Env := [(0, PV.a (Atom.val (Value.string x0))), (1, PV.a (Atom.val (Value.int IntKind.i64 x1))), (5, PV.a (Atom.val (Value.int IntKind.i64 v5)))]
def L19_2 (v5 : Int) (x0 : ByteArray) (x1 : Int) : Heap := []
def E19_6 (v1 : Int) (v6 : Int) (x0 : ByteArray) (v5 : Int) : Env := [(0, PV.a (Atom.val (Value.string x0))), (1, PV.a (Atom.val (Value.int IntKind.i64 v1))), (5, PV.a (Atom.val (Value.int IntKind.i64 v5))), (6, PV.a (Atom.val (Value.int IntKind.i64 v6)))]
def L19_6 (v1 : Int) (v6 : Int) (x0 : ByteArray) (v5 : Int) : Heap := []
mutual
def R19 : Nat → ByteArray → Int → List Dyn → Prop
  | 0, _, _, _ => False
  | n + 1, x0, x1, ds => (R19_2 n (0) (x0) (x1) ds)
def R19_2 : Nat → Int → ByteArray → Int → List Dyn → Prop
  | 0, _, _, _, _ => False
  | n + 1, v5, x0, x1, ds => (if (Decidable.decide (v5 < (↑(ByteArray.size x0) : Int))) = true then ((0 ≤ v5) ∧ (v5 < (↑(ByteArray.size x0) : Int)) ∧ ((InR IntKind.i64 (↑(UInt8.toNat (List.getD (Array.toList (ByteArray.data x0)) (Int.toNat v5) 0)) : Int)) ∧ (R19_6 n (IntKind.wrap IntKind.i64 (↑(BitVec.toNat (BitVec.ofInt 64 x1 ^^^ BitVec.ofInt 64 (IntKind.wrap IntKind.i64 ((↑(UInt8.toNat (List.getD (Array.toList (ByteArray.data x0)) (Int.toNat v5) 0)) : Int) * 256)))) : Int)) (0) (x0) (v5) ds))) else (ds = [Dyn.mk (Ty.int IntKind.i64) x1]))
def R19_6 : Nat → Int → Int → ByteArray → Int → List Dyn → Prop
  | 0, _, _, _, _, _ => False
  | n + 1, v1, v6, x0, v5, ds => (if (Decidable.decide (v6 < 8)) = true then (if (Decidable.decide (IntKind.wrap IntKind.i64 (v1 * 2) > 65535)) = true then ((InR IntKind.i64 (v6 + 1)) ∧ (R19_6 n (IntKind.wrap IntKind.i64 (↑(BitVec.toNat (BitVec.ofInt 64 (IntKind.wrap IntKind.i64 (↑(BitVec.toNat (BitVec.ofInt 64 (IntKind.wrap IntKind.i64 (v1 * 2)) &&& BitVec.ofInt 64 65535)) : Int)) ^^^ BitVec.ofInt 64 4129)) : Int)) (v6 + 1) (x0) (v5) ds)) else ((InR IntKind.i64 (v6 + 1)) ∧ (R19_6 n (IntKind.wrap IntKind.i64 (v1 * 2)) (v6 + 1) (x0) (v5) ds))) else ((InR IntKind.i64 (v5 + 1)) ∧ (R19_2 n (v5 + 1) (x0) (v1) ds)))
end
theorem p19_0 (x0 : ByteArray) (x1 : Int) : Am.runN tab ext19 false 32 [] 2000 [] [] [0, 1, 5] [] [] [.code b19] (entE 0 0 sig19 (x0, x1, ())) (entL sig19 (x0, x1, ())) = some (cutAt b19 2, E19_2 (0) (x0) (x1), L19_2 (0) (x0) (x1), []) := by kernel_rfl
theorem p19_1 (v5 : Int) (x0 : ByteArray) (x1 : Int) : Am.runN tab ext19 false 32 [] 2000 [] [] [0, 1, 5, 6] [] [true] (cutAt b19 2) (E19_2 v5 x0 x1) (L19_2 v5 x0 x1) = some (cutAt b19 6, E19_6 (IntKind.wrap IntKind.i64 (↑(BitVec.toNat (BitVec.ofInt 64 x1 ^^^ BitVec.ofInt 64 (IntKind.wrap IntKind.i64 ((↑(UInt8.toNat (List.getD (Array.toList (ByteArray.data x0)) (Int.toNat v5) 0)) : Int) * 256)))) : Int)) (0) (x0) (v5), L19_6 (IntKind.wrap IntKind.i64 (↑(BitVec.toNat (BitVec.ofInt 64 x1 ^^^ BitVec.ofInt 64 (IntKind.wrap IntKind.i64 ((↑(UInt8.toNat (List.getD (Array.toList (ByteArray.data x0)) (Int.toNat v5) 0)) : Int) * 256)))) : Int)) (0) (x0) (v5), [Decidable.decide (v5 < (↑(ByteArray.size x0) : Int)) = Bool.true, 0 ≤ v5, v5 < (↑(ByteArray.size x0) : Int), InR IntKind.i64 (↑(UInt8.toNat (List.getD (Array.toList (ByteArray.data x0)) (Int.toNat v5) 0)) : Int), (0 : Int) ≤ (8 : Int)]) := by kernel_rfl
theorem p19_2 (v5 : Int) (x0 : ByteArray) (x1 : Int) : runF tab ext19 false 32 [] 2000 [] tys19 Tryd.f19.results [false] (cutAt b19 2) (E19_2 v5 x0 x1) (L19_2 v5 x0 x1) = some ([Dyn.mk (Ty.int IntKind.i64) x1], [], [Decidable.decide (v5 < (↑(ByteArray.size x0) : Int)) = Bool.false]) := by kernel_rfl
theorem p19_3 (v1 : Int) (v6 : Int) (x0 : ByteArray) (v5 : Int) : Am.runN tab ext19 false 32 [] 2000 [] [] [0, 1, 5, 6] [] [true, true] (cutAt b19 6) (E19_6 v1 v6 x0 v5) (L19_6 v1 v6 x0 v5) = some (cutAt b19 6, E19_6 (IntKind.wrap IntKind.i64 (↑(BitVec.toNat (BitVec.ofInt 64 (IntKind.wrap IntKind.i64 (↑(BitVec.toNat (BitVec.ofInt 64 (IntKind.wrap IntKind.i64 (v1 * 2)) &&& BitVec.ofInt 64 65535)) : Int)) ^^^ BitVec.ofInt 64 4129)) : Int)) (v6 + 1) (x0) (v5), L19_6 (IntKind.wrap IntKind.i64 (↑(BitVec.toNat (BitVec.ofInt 64 (IntKind.wrap IntKind.i64 (↑(BitVec.toNat (BitVec.ofInt 64 (IntKind.wrap IntKind.i64 (v1 * 2)) &&& BitVec.ofInt 64 65535)) : Int)) ^^^ BitVec.ofInt 64 4129)) : Int)) (v6 + 1) (x0) (v5), [Decidable.decide (v6 < 8) = Bool.true, (0 : Int) ≤ (1 : Int), Decidable.decide (IntKind.wrap IntKind.i64 (v1 * 2) > 65535) = Bool.true, InR IntKind.i64 (v6 + 1)]) := by kernel_rfl
theorem p19_4 (v1 : Int) (v6 : Int) (x0 : ByteArray) (v5 : Int) : Am.runN tab ext19 false 32 [] 2000 [] [] [0, 1, 5, 6] [] [true, false] (cutAt b19 6) (E19_6 v1 v6 x0 v5) (L19_6 v1 v6 x0 v5) = some (cutAt b19 6, E19_6 (IntKind.wrap IntKind.i64 (v1 * 2)) (v6 + 1) (x0) (v5), L19_6 (IntKind.wrap IntKind.i64 (v1 * 2)) (v6 + 1) (x0) (v5), [Decidable.decide (v6 < 8) = Bool.true, (0 : Int) ≤ (1 : Int), Decidable.decide (IntKind.wrap IntKind.i64 (v1 * 2) > 65535) = Bool.false, InR IntKind.i64 (v6 + 1)]) := by kernel_rfl
theorem p19_5 (v1 : Int) (v6 : Int) (x0 : ByteArray) (v5 : Int) : Am.runN tab ext19 false 32 [] 2000 [] [] [0, 1, 5] [] [false] (cutAt b19 6) (E19_6 v1 v6 x0 v5) (L19_6 v1 v6 x0 v5) = some (cutAt b19 2, E19_2 (v5 + 1) (x0) (v1), L19_2 (v5 + 1) (x0) (v1), [Decidable.decide (v6 < 8) = Bool.false, InR IntKind.i64 (v5 + 1)]) := by kernel_rfl
theorem snd19 : ∀ n, (∀ (x0 : ByteArray) (x1 : Int) ds, R19 n x0 x1 ds → ∀ w0 O q, AtV Tryd.prog 19 (PostR ds [] [] q w0 O) 32 w0 O q [] [.code b19] (entE 0 0 sig19 (x0, x1, ())) (entL sig19 (x0, x1, ()))) ∧ (∀ (v5 : Int) (x0 : ByteArray) (x1 : Int) ds, R19_2 n v5 x0 x1 ds → ∀ w0 O q, AtV Tryd.prog 19 (PostR ds [] [] q w0 O) 32 w0 O q [] (cutAt b19 2) (E19_2 v5 x0 x1) (L19_2 v5 x0 x1)) ∧ (∀ (v1 : Int) (v6 : Int) (x0 : ByteArray) (v5 : Int) ds, R19_6 n v1 v6 x0 v5 ds → ∀ w0 O q, AtV Tryd.prog 19 (PostR ds [] [] q w0 O) 32 w0 O q [] (cutAt b19 6) (E19_6 v1 v6 x0 v5) (L19_6 v1 v6 x0 v5)) := by
  intro n
  induction n with
  | zero => exact ⟨fun _ _ _ h => by simp only [R19] at h, fun _ _ _ _ h => by simp only [R19_2] at h, fun _ _ _ _ _ h => by simp only [R19_6] at h⟩
  | succ n ih =>
  obtain ⟨ih, ih2, ih6⟩ := ih
  refine ⟨?_, ?_, ?_⟩
  · intro x0 x1 ds h w0 O q
    rw [R19] at h
    exact AtV.runN tabOk ext19Ok mixed (p19_0 x0 x1) trivial (ih2 _ _ _ _ h w0 O q)

  · intro v5 x0 x1 ds h w0 O q
    rw [R19_2] at h
    by_cases b0 : (Decidable.decide (v5 < (↑(ByteArray.size x0) : Int))) = true
    · rw [if_pos b0] at h
      obtain ⟨s0, s1, h⟩ := h
      obtain ⟨s2, h⟩ := h
      exact AtV.runN tabOk ext19Ok mixed (p19_1 v5 x0 x1) ⟨b0, s0, s1, s2, (by decide), trivial⟩ (ih6 _ _ _ _ _ h w0 O q)
    · rw [if_neg b0] at h
      replace b0 := Bool.eq_false_iff.2 b0
      subst h
      exact AtV.fin Tryd.func19 tabOk ext19Ok mixed (p19_2 v5 x0 x1) ⟨b0, trivial⟩

  · intro v1 v6 x0 v5 ds h w0 O q
    rw [R19_6] at h
    by_cases b0 : (Decidable.decide (v6 < 8)) = true
    · rw [if_pos b0] at h
      by_cases b1 : (Decidable.decide (IntKind.wrap IntKind.i64 (v1 * 2) > 65535)) = true
      · rw [if_pos b1] at h
        obtain ⟨s0, h⟩ := h
        exact AtV.runN tabOk ext19Ok mixed (p19_3 v1 v6 x0 v5) ⟨b0, (by decide), b1, s0, trivial⟩ (ih6 _ _ _ _ _ h w0 O q)
      · rw [if_neg b1] at h
        replace b1 := Bool.eq_false_iff.2 b1
        obtain ⟨s0, h⟩ := h
        exact AtV.runN tabOk ext19Ok mixed (p19_4 v1 v6 x0 v5) ⟨b0, (by decide), b1, s0, trivial⟩ (ih6 _ _ _ _ _ h w0 O q)
    · rw [if_neg b0] at h
      replace b0 := Bool.eq_false_iff.2 b0
      obtain ⟨s0, h⟩ := h
      exact AtV.runN tabOk ext19Ok mixed (p19_5 v1 v6 x0 v5) ⟨b0, s0, trivial⟩ (ih2 _ _ _ _ h w0 O q)



def bit19 (s : Int) : Int := if (Decidable.decide (IntKind.wrap IntKind.i64 (s * 2) > 65535)) = true then (IntKind.wrap IntKind.i64 (↑(BitVec.toNat (BitVec.ofInt 64 (IntKind.wrap IntKind.i64 (↑(BitVec.toNat (BitVec.ofInt 64 (IntKind.wrap IntKind.i64 (s * 2)) &&& BitVec.ofInt 64 65535)) : Int)) ^^^ BitVec.ofInt 64 4129)) : Int)) else (IntKind.wrap IntKind.i64 (s * 2))
def bits19 : Nat → Int → Int
  | 0, s => s
  | k + 1, s => bits19 k (bit19 s)
def byte19 (s c : Int) : Int := bits19 8 (IntKind.wrap IntKind.i64 (↑(BitVec.toNat (BitVec.ofInt 64 s ^^^ BitVec.ofInt 64 (IntKind.wrap IntKind.i64 (c * 256)))) : Int))
def g19_0 (x0 : ByteArray) (x1 : Int) : Int := (bytesOf x0).foldl byte19 x1
def P19 (x0 : ByteArray) (x1 : Int) : Prop := True

theorem inner19 (x0 : ByteArray) (hm : (bytesOf x0).length ≤ maxLen) (i n : Nat) (hi : i < (bytesOf x0).length) (ds : List Dyn) : ∀ (k j : Nat) (s : Int), j + k = 8 → R19_2 n ((i : Int) + 1) x0 (bits19 k s) ds → R19_6 (n + 1 + k) s (j : Int) x0 (i : Int) ds := by
  intro k
  induction k with
  | zero =>
    intro j s hj hr
    rw [R19_6, if_neg (by simp; omega)]
    exact ⟨inR_up hm hi, hr⟩
  | succ k ih =>
    intro j s hj hr
    have e2 : (j : Int) + 1 = ((j + 1 : Nat) : Int) := by omega
    rw [show n + 1 + (k + 1) = (n + 1 + k) + 1 by omega, R19_6, if_pos (by simp; omega)]
    unfold bits19 bit19 at hr
    by_cases hc : (Decidable.decide (IntKind.wrap IntKind.i64 (s * 2) > 65535)) = true
    · rw [if_pos hc] at hr ⊢
      rw [e2]
      exact ⟨by rw [i64_iff]; omega, ih (j + 1) _ (by omega) hr⟩
    · rw [if_neg hc] at hr ⊢
      rw [e2]
      exact ⟨by rw [i64_iff]; omega, ih (j + 1) _ (by omega) hr⟩

theorem run19 (x0 : ByteArray) (hm : x0.size ≤ maxLen) : ∀ (k i : Nat) (s : Int), i + k = x0.size → ∃ n, R19_2 n (i : Int) x0 s [⟨.int .i64, ((bytesOf x0).drop i).foldl byte19 s⟩] := by
  intro k
  have hl := bytesOf_length x0
  induction k with
  | zero =>
    intro i s hi
    refine ⟨1, ?_⟩
    rw [R19_2, if_neg (by simp; omega), List.drop_of_length_le (by omega)]
    rfl
  | succ k ih =>
    intro i s hi
    have hlt : i < (bytesOf x0).length := by omega
    have hcons := drop_get (bytesOf x0) i 0 hlt
    obtain ⟨n, hn⟩ := ih (i + 1) (byte19 s ((bytesOf x0).getD i 0)) (by omega)
    refine ⟨n + 1 + 8 + 1, ?_⟩
    have hb := bytesOf_range x0 _ (mem_getD (bytesOf x0) i 0 hlt)
    rw [R19_2, if_pos (by simp; omega)]
    simp only [Int.toNat_natCast, byte_get]
    rw [hcons, List.foldl_cons]
    exact ⟨by omega, by omega, by rw [i64_iff]; omega, inner19 x0 (by rw [hl]; exact hm) i n hlt _ 8 0 _ (by omega) hn⟩

theorem top19 (x0 : ByteArray) (x1 : Int) (hm : x0.size ≤ maxLen) : ∃ n, R19 n x0 x1 [⟨.int .i64, g19_0 x0 x1⟩] := by
  obtain ⟨n, hn⟩ := run19 x0 hm x0.size 0 x1 (by omega)
  refine ⟨n + 1, ?_⟩
  rw [R19]
  exact hn

def S19 : Am.Spec := { sig := sig19, pre := fun ⟨x0, x1, _⟩ => P19 x0 x1, res := fun ⟨x0, x1, _⟩ => [⟨Ty.int .i64, g19_0 x0 x1⟩] }
theorem con19 : Contract Tryd.prog 19 S19 := contract_of Tryd.func19 hb19 (Nat.le_of_ble_eq_true (by kernel_rfl)) (fun ⟨x0, x1, _⟩ h hwf w0 O q =>
  let ⟨n, hn⟩ := top19 x0 x1 hwf.1
  (snd19 n).1 x0 x1 _ hn w0 O q)

end Go.Proofs.YticibijneahllaaDoor

/- Function 31 (spec.l01Dec): its runs between cut points. Written by a program of this repo (gen). -/
set_option linter.unusedVariables false
set_option linter.unusedSimpArgs false
set_option maxRecDepth 100000
namespace Go.Proofs.YticibijneahllaaDoor
open Go Go.Am Go.Proofs
def ext31 : Ext := []
theorem ext31Ok : ExtOk Tryd.prog ext31 := trivial
/-! Function 31. -/
noncomputable def b31 : Code := bodyOf Tryd.f31
theorem hb31 : Tryd.f31.body = some b31 := by kernel_rfl
def sig31 : List AT := [AT.v (Ty.int IntKind.i64)]
def tys31 : List Ty := [Ty.str]
def E31_5 (v4 : Int) (h0 : List Int) (x0 : Int) : Env := [(0, PV.a (Atom.val (Value.int IntKind.i64 x0))), (3, PV.a (Atom.osl 0 Option.none)), (4, PV.a (Atom.val (Value.int IntKind.i64 v4)))]
def L31_5 (v4 : Int) (h0 : List Int) (x0 : Int) : Heap := [Option.some (Arr.mk (Ty.int IntKind.u8) h0 Bool.false)]
def E31_15 (v7 : Int) (h0 : List Int) (h1 : List Int) : Env := [(3, PV.a (Atom.osl 0 Option.none)), (6, PV.a (Atom.osl 1 Option.none)), (7, PV.a (Atom.val (Value.int IntKind.i64 v7)))]
def L31_15 (v7 : Int) (h0 : List Int) (h1 : List Int) : Heap := [Option.some (Arr.mk (Ty.int IntKind.u8) h0 Bool.false), Option.some (Arr.mk (Ty.int IntKind.u8) h1 Bool.false)]
mutual
def R31 : Nat → Int → List Dyn → Prop
  | 0, _, _ => False
  | n + 1, x0, ds => (if (x0 == 0) = true then (ds = [Dyn.mk Ty.str (ByteArray.mk #[48])]) else (R31_5 n (x0) ([]) (x0) ds))
def R31_5 : Nat → Int → List Int → Int → List Dyn → Prop
  | 0, _, _, _, _ => False
  | n + 1, v4, h0, x0, ds => (if (v4 != 0) = true then ((InR IntKind.i64 (Int.tmod v4 10)) ∧ (if (Decidable.decide (Int.tmod v4 10 < 0)) = true then ((InR IntKind.i64 (0 - Int.tmod v4 10)) ∧ ((InR IntKind.i64 (48 + (0 - Int.tmod v4 10))) ∧ ((InR IntKind.u8 (48 + (0 - Int.tmod v4 10))) ∧ (((List.length h0 + 1) * 1 ≤ 140737488355328) ∧ ((InR IntKind.i64 (Int.tdiv v4 10)) ∧ (R31_5 n (Int.tdiv v4 10) (h0 ++ [48 + (0 - Int.tmod v4 10)]) (x0) ds)))))) else ((InR IntKind.i64 (48 + Int.tmod v4 10)) ∧ ((InR IntKind.u8 (48 + Int.tmod v4 10)) ∧ (((List.length h0 + 1) * 1 ≤ 140737488355328) ∧ ((InR IntKind.i64 (Int.tdiv v4 10)) ∧ (R31_5 n (Int.tdiv v4 10) (h0 ++ [48 + Int.tmod v4 10]) (x0) ds))))))) else (if (Decidable.decide (x0 < 0)) = true then (((List.length h0 + 1) * 1 ≤ 140737488355328) ∧ ((InR IntKind.i64 ((↑(List.length (h0 ++ [45])) : Int) - 1)) ∧ (R31_15 n ((↑(List.length (h0 ++ [45])) : Int) - 1) (h0 ++ [45]) ([]) ds))) else ((InR IntKind.i64 ((↑(List.length h0) : Int) - 1)) ∧ (R31_15 n ((↑(List.length h0) : Int) - 1) (h0) ([]) ds))))
def R31_15 : Nat → Int → List Int → List Int → List Dyn → Prop
  | 0, _, _, _, _ => False
  | n + 1, v7, h0, h1, ds => (if (Decidable.decide (v7 ≥ 0)) = true then ((0 ≤ v7) ∧ (v7 < (↑(List.length h0) : Int)) ∧ (((List.length h1 + 1) * 1 ≤ 140737488355328) ∧ ((InR IntKind.i64 (v7 - 1)) ∧ (R31_15 n (v7 - 1) (h0) (h1 ++ [List.getD h0 (Int.toNat v7) 0]) ds)))) else (ds = [Dyn.mk Ty.str (bytesStr h1)]))
end
theorem p31_0 (x0 : Int) : runF tab ext31 false 50 [] 2000 [] tys31 Tryd.f31.results [true] [.code b31] (entE 0 0 sig31 (x0, ())) (entL sig31 (x0, ())) = some ([Dyn.mk Ty.str (ByteArray.mk #[48])], [], [(x0 == 0) = Bool.true]) := by kernel_rfl
theorem p31_1 (x0 : Int) : Am.runN tab ext31 false 50 [] 2000 [] [] [0, 3, 4] [0] [false] [.code b31] (entE 0 0 sig31 (x0, ())) (entL sig31 (x0, ())) = some (cutAt b31 5, E31_5 (x0) ([]) (x0), L31_5 (x0) ([]) (x0), [(x0 == 0) = Bool.false]) := by kernel_rfl
theorem p31_2 (v4 : Int) (h0 : List Int) (x0 : Int) : Am.runN tab ext31 false 50 [] 2000 [] [] [0, 3, 4] [0] [true, true] (cutAt b31 5) (E31_5 v4 h0 x0) (L31_5 v4 h0 x0) = some (cutAt b31 5, E31_5 (Int.tdiv v4 10) (h0 ++ [48 + (0 - Int.tmod v4 10)]) (x0), L31_5 (Int.tdiv v4 10) (h0 ++ [48 + (0 - Int.tmod v4 10)]) (x0), [(v4 != 0) = Bool.true, (10 : Int) ≠ (0 : Int), InR IntKind.i64 (Int.tmod v4 10), Decidable.decide (Int.tmod v4 10 < 0) = Bool.true, InR IntKind.i64 (0 - Int.tmod v4 10), InR IntKind.i64 (48 + (0 - Int.tmod v4 10)), InR IntKind.u8 (48 + (0 - Int.tmod v4 10)), (List.length h0 + 1) * 1 ≤ 140737488355328, (10 : Int) ≠ (0 : Int), InR IntKind.i64 (Int.tdiv v4 10)]) := by kernel_rfl
theorem p31_3 (v4 : Int) (h0 : List Int) (x0 : Int) : Am.runN tab ext31 false 50 [] 2000 [] [] [0, 3, 4] [0] [true, false] (cutAt b31 5) (E31_5 v4 h0 x0) (L31_5 v4 h0 x0) = some (cutAt b31 5, E31_5 (Int.tdiv v4 10) (h0 ++ [48 + Int.tmod v4 10]) (x0), L31_5 (Int.tdiv v4 10) (h0 ++ [48 + Int.tmod v4 10]) (x0), [(v4 != 0) = Bool.true, (10 : Int) ≠ (0 : Int), InR IntKind.i64 (Int.tmod v4 10), Decidable.decide (Int.tmod v4 10 < 0) = Bool.false, InR IntKind.i64 (48 + Int.tmod v4 10), InR IntKind.u8 (48 + Int.tmod v4 10), (List.length h0 + 1) * 1 ≤ 140737488355328, (10 : Int) ≠ (0 : Int), InR IntKind.i64 (Int.tdiv v4 10)]) := by kernel_rfl
theorem p31_4 (v4 : Int) (h0 : List Int) (x0 : Int) : Am.runN tab ext31 false 50 [] 2000 [] [] [3, 6, 7] [0, 2] [false, true] (cutAt b31 5) (E31_5 v4 h0 x0) (L31_5 v4 h0 x0) = some (cutAt b31 15, E31_15 ((↑(List.length (h0 ++ [45])) : Int) - 1) (h0 ++ [45]) ([]), L31_15 ((↑(List.length (h0 ++ [45])) : Int) - 1) (h0 ++ [45]) ([]), [(v4 != 0) = Bool.false, Decidable.decide (x0 < 0) = Bool.true, (List.length h0 + 1) * 1 ≤ 140737488355328, InR IntKind.i64 ((↑(List.length (h0 ++ [45])) : Int) - 1)]) := by kernel_rfl
theorem p31_5 (v4 : Int) (h0 : List Int) (x0 : Int) : Am.runN tab ext31 false 50 [] 2000 [] [] [3, 6, 7] [0, 1] [false, false] (cutAt b31 5) (E31_5 v4 h0 x0) (L31_5 v4 h0 x0) = some (cutAt b31 15, E31_15 ((↑(List.length h0) : Int) - 1) (h0) ([]), L31_15 ((↑(List.length h0) : Int) - 1) (h0) ([]), [(v4 != 0) = Bool.false, Decidable.decide (x0 < 0) = Bool.false, InR IntKind.i64 ((↑(List.length h0) : Int) - 1)]) := by kernel_rfl
theorem p31_6 (v7 : Int) (h0 : List Int) (h1 : List Int) : Am.runN tab ext31 false 50 [] 2000 [] [] [3, 6, 7] [0, 1] [true] (cutAt b31 15) (E31_15 v7 h0 h1) (L31_15 v7 h0 h1) = some (cutAt b31 15, E31_15 (v7 - 1) (h0) (h1 ++ [List.getD h0 (Int.toNat v7) 0]), L31_15 (v7 - 1) (h0) (h1 ++ [List.getD h0 (Int.toNat v7) 0]), [Decidable.decide (v7 ≥ 0) = Bool.true, 0 ≤ v7, v7 < (↑(List.length h0) : Int), (List.length h1 + 1) * 1 ≤ 140737488355328, InR IntKind.i64 (v7 - 1)]) := by kernel_rfl
theorem p31_7 (v7 : Int) (h0 : List Int) (h1 : List Int) : runF tab ext31 false 50 [] 2000 [] tys31 Tryd.f31.results [false] (cutAt b31 15) (E31_15 v7 h0 h1) (L31_15 v7 h0 h1) = some ([Dyn.mk Ty.str (bytesStr h1)], [], [Decidable.decide (v7 ≥ 0) = Bool.false]) := by kernel_rfl
theorem snd31 : ∀ n, (∀ (x0 : Int) ds, R31 n x0 ds → ∀ w0 O q, AtV Tryd.prog 31 (PostR ds [] [] q w0 O) 50 w0 O q [] [.code b31] (entE 0 0 sig31 (x0, ())) (entL sig31 (x0, ()))) ∧ (∀ (v4 : Int) (h0 : List Int) (x0 : Int) ds, R31_5 n v4 h0 x0 ds → ∀ w0 O q, AtV Tryd.prog 31 (PostR ds [] [] q w0 O) 50 w0 O q [] (cutAt b31 5) (E31_5 v4 h0 x0) (L31_5 v4 h0 x0)) ∧ (∀ (v7 : Int) (h0 : List Int) (h1 : List Int) ds, R31_15 n v7 h0 h1 ds → ∀ w0 O q, AtV Tryd.prog 31 (PostR ds [] [] q w0 O) 50 w0 O q [] (cutAt b31 15) (E31_15 v7 h0 h1) (L31_15 v7 h0 h1)) := by
  intro n
  induction n with
  | zero => exact ⟨fun _ _ h => by simp only [R31] at h, fun _ _ _ _ h => by simp only [R31_5] at h, fun _ _ _ _ h => by simp only [R31_15] at h⟩
  | succ n ih =>
  obtain ⟨ih, ih5, ih15⟩ := ih
  refine ⟨?_, ?_, ?_⟩
  · intro x0 ds h w0 O q
    rw [R31] at h
    by_cases b0 : (x0 == 0) = true
    · rw [if_pos b0] at h
      subst h
      exact AtV.fin Tryd.func31 tabOk ext31Ok mixed (p31_0 x0) ⟨b0, trivial⟩
    · rw [if_neg b0] at h
      replace b0 := Bool.eq_false_iff.2 b0
      exact AtV.runN tabOk ext31Ok mixed (p31_1 x0) ⟨b0, trivial⟩ (ih5 _ _ _ _ h w0 O q)

  · intro v4 h0 x0 ds h w0 O q
    rw [R31_5] at h
    by_cases b0 : (v4 != 0) = true
    · rw [if_pos b0] at h
      obtain ⟨s0, h⟩ := h
      by_cases b1 : (Decidable.decide (Int.tmod v4 10 < 0)) = true
      · rw [if_pos b1] at h
        obtain ⟨s1, h⟩ := h
        obtain ⟨s2, h⟩ := h
        obtain ⟨s3, h⟩ := h
        obtain ⟨s4, h⟩ := h
        obtain ⟨s5, h⟩ := h
        exact AtV.runN tabOk ext31Ok mixed (p31_2 v4 h0 x0) ⟨b0, (by decide), s0, b1, s1, s2, s3, s4, (by decide), s5, trivial⟩ (ih5 _ _ _ _ h w0 O q)
      · rw [if_neg b1] at h
        replace b1 := Bool.eq_false_iff.2 b1
        obtain ⟨s1, h⟩ := h
        obtain ⟨s2, h⟩ := h
        obtain ⟨s3, h⟩ := h
        obtain ⟨s4, h⟩ := h
        exact AtV.runN tabOk ext31Ok mixed (p31_3 v4 h0 x0) ⟨b0, (by decide), s0, b1, s1, s2, s3, (by decide), s4, trivial⟩ (ih5 _ _ _ _ h w0 O q)
    · rw [if_neg b0] at h
      replace b0 := Bool.eq_false_iff.2 b0
      by_cases b1 : (Decidable.decide (x0 < 0)) = true
      · rw [if_pos b1] at h
        obtain ⟨s0, h⟩ := h
        obtain ⟨s1, h⟩ := h
        exact AtV.runN tabOk ext31Ok mixed (p31_4 v4 h0 x0) ⟨b0, b1, s0, s1, trivial⟩ (ih15 _ _ _ _ h w0 O q)
      · rw [if_neg b1] at h
        replace b1 := Bool.eq_false_iff.2 b1
        obtain ⟨s0, h⟩ := h
        exact AtV.runN tabOk ext31Ok mixed (p31_5 v4 h0 x0) ⟨b0, b1, s0, trivial⟩ (ih15 _ _ _ _ h w0 O q)

  · intro v7 h0 h1 ds h w0 O q
    rw [R31_15] at h
    by_cases b0 : (Decidable.decide (v7 ≥ 0)) = true
    · rw [if_pos b0] at h
      obtain ⟨s0, s1, h⟩ := h
      obtain ⟨s2, h⟩ := h
      obtain ⟨s3, h⟩ := h
      exact AtV.runN tabOk ext31Ok mixed (p31_6 v7 h0 h1) ⟨b0, s0, s1, s2, s3, trivial⟩ (ih15 _ _ _ _ h w0 O q)
    · rw [if_neg b0] at h
      replace b0 := Bool.eq_false_iff.2 b0
      subst h
      exact AtV.fin Tryd.func31 tabOk ext31Ok mixed (p31_7 v7 h0 h1) ⟨b0, trivial⟩



def g31_0 (x0 : Int) : ByteArray := numB x0
def P31 (x0 : Int) : Prop := True

theorem bstr31 (xs : List Int) : bytesStr xs = ⟨⟨xs.map fun n => UInt8.ofNat n.toNat⟩⟩ := by
  have key : ∀ (xs : List Int) (s : ByteArray), (xs.foldl (fun r n => r.push (UInt8.ofNat n.toNat)) s).data.toList = s.data.toList ++ xs.map fun n => UInt8.ofNat n.toNat := by
    intro xs
    induction xs with
    | nil => intro s; simp
    | cons a r ih =>
      intro s
      rw [List.foldl_cons, ih]
      show (s.data.push _).toList ++ _ = _
      rw [Array.toList_push]
      simp
  apply ByteArray.ext
  apply Array.ext'
  have := key xs ByteArray.empty
  unfold bytesStr
  rw [this]
  rfl
theorem bstrB31 (l : List UInt8) : bytesStr (l.map fun b => (b.toNat : Int)) = ⟨⟨l⟩⟩ := by
  rw [bstr31, List.map_map]
  congr 2
  conv => rhs; rw [← List.map_id l]
  refine List.map_congr_left fun b _ => ?_
  show UInt8.ofNat ((b.toNat : Int)).toNat = b
  rw [Int.toNat_natCast, UInt8.ofNat_toNat]

/-- The digits, the last ahead. -/
def rd31 (m : Nat) : List Int := if h : m = 0 then [] else ((48 + m % 10 : Nat) : Int) :: rd31 (m / 10)
termination_by m
decreasing_by omega
theorem rd031 : rd31 0 = [] := by rw [rd31, dif_pos rfl]
theorem rds31 {m : Nat} (h : m ≠ 0) : rd31 m = ((48 + m % 10 : Nat) : Int) :: rd31 (m / 10) := by rw [rd31, dif_neg h]
theorem rdl31 : ∀ (k m : Nat), m < 10 ^ k → (rd31 m).length ≤ k
  | 0, m, h => by obtain rfl : m = 0 := by simpa using h
                  rw [rd031]; exact Nat.le_refl _
  | k + 1, m, h => by
    by_cases h0 : m = 0
    · rw [h0, rd031]; exact Nat.zero_le _
    · rw [rds31 h0, List.length_cons]
      have := rdl31 k (m / 10) (by rw [Nat.pow_succ] at h; omega)
      omega
theorem rdd31 (m : Nat) (h : m ≠ 0) : bytesStr (rd31 m).reverse = ⟨⟨Lib.decDigits m⟩⟩ := by
  have key : ∀ m : Nat, m ≠ 0 → (rd31 m).reverse = (Lib.decDigits m).map fun b => (b.toNat : Int) := by
    intro m
    induction m using Nat.strongRecOn with
    | _ m ih =>
      intro h
      rw [rds31 h, List.reverse_cons, Lib.decDigits]
      have e : (UInt8.ofNat (48 + m % 10)).toNat = 48 + m % 10 := by rw [UInt8.toNat_ofNat']; omega
      split
      · rename_i hs
        rw [show m / 10 = 0 by omega, rd031]
        have e' : (UInt8.ofNat (48 + m)).toNat = 48 + m % 10 := by rw [UInt8.toNat_ofNat']; omega
        rw [List.map_singleton, e']
        rfl
      · rw [ih (m / 10) (by omega) (by omega), List.map_append, List.map_singleton, e]
  rw [key m h]
  exact bstrB31 _

theorem back31 (h0 : List Int) : ∀ (j : Nat) (h1 : List Int), j ≤ h0.length → h1.length + j ≤ 64 → R31_15 (j + 1) ((j : Int) - 1) h0 h1 [⟨.str, bytesStr (h1 ++ (h0.take j).reverse)⟩]
  | 0, h1, _, _ => by
    rw [R31_15, if_neg (by decide)]
    simp
  | j + 1, h1, hj, hl => by
    have ih := back31 h0 j (h1 ++ [h0.getD j 0]) (by omega) (by rw [List.length_append, List.length_singleton]; omega)
    have e : ((j + 1 : Nat) : Int) - 1 = (j : Int) := by omega
    rw [R31_15, e, if_pos (by simp only [decide_eq_true_eq]; omega), Int.toNat_natCast]
    refine ⟨by omega, by omega, by omega, by rw [i64_iff]; omega, ?_⟩
    have et : (h0.take (j + 1)).reverse = h0.getD j 0 :: (h0.take j).reverse := by
      have hlt : j < h0.length := by omega
      rw [List.take_add_one, List.getElem?_eq_getElem hlt, List.reverse_append, List.getD_eq_getElem?_getD, List.getElem?_eq_getElem hlt]
      rfl
    rw [et]
    rw [List.append_assoc] at ih
    exact ih

/-- The last part, from the digits on. -/
theorem last31 (x0 : Int) (h0 : List Int) (hl : h0.length ≤ 20) : R31_5 ((if x0 < 0 then h0.length + 1 else h0.length) + 1 + 1) 0 h0 x0 [⟨.str, bytesStr ((if x0 < 0 then h0 ++ [45] else h0)).reverse⟩] := by
  rw [R31_5, if_neg (by decide)]
  by_cases hx : x0 < 0
  · have b := back31 (h0 ++ [45]) (h0.length + 1) [] (by rw [List.length_append, List.length_singleton]; omega) (by simp; omega)
    have e : (h0 ++ [(45 : Int)]).length = h0.length + 1 := by rw [List.length_append, List.length_singleton]
    rw [List.take_of_length_le (by omega)] at b
    simp only [hx, decide_true, if_true]
    rw [e]
    exact ⟨by omega, by rw [i64_iff]; omega, b⟩
  · have b := back31 h0 h0.length [] (Nat.le_refl _) (by simp; omega)
    rw [List.take_of_length_le (Nat.le_refl _)] at b
    simp only [hx, decide_false, Bool.false_eq_true, if_false]
    exact ⟨by rw [i64_iff]; omega, b⟩

theorem run31 (x0 : Int) (ds : List Dyn) (F : List Int) (K : Nat) (hF : R31_5 K 0 F x0 ds) : ∀ (m : Nat) (v : Int) (h0 : List Int), (v = (m : Int) ∨ v = -(m : Int)) → m ≤ 9223372036854775808 → InR .i64 v → h0.length + (rd31 m).length ≤ 20 → h0 ++ rd31 m = F → R31_5 ((rd31 m).length + K) v h0 x0 ds := by
  intro m
  induction m using Nat.strongRecOn with
  | _ m ih =>
    intro v h0 hv hm hi hl he
    by_cases h : m = 0
    · subst h
      obtain rfl : v = 0 := by omega
      rw [rd031] at he ⊢
      rw [List.append_nil] at he
      rw [he, List.length_nil, Nat.zero_add]
      exact hF
    · have hr := rds31 h
      rw [hr] at he hl ⊢
      rw [List.length_cons] at hl ⊢
      have hne : (v != 0) = true := by
        have : v ≠ 0 := by omega
        simpa using this
      rw [i64_iff] at hi
      have e1 : (rd31 (m / 10)).length + 1 + K = ((rd31 (m / 10)).length + K) + 1 := by omega
      have next : ∀ v', (v' = ((m / 10 : Nat) : Int) ∨ v' = -((m / 10 : Nat) : Int)) → R31_5 ((rd31 (m / 10)).length + K) v' (h0 ++ [((48 + m % 10 : Nat) : Int)]) x0 ds := fun v' hv' =>
        ih (m / 10) (by omega) v' _ hv' (by omega) (by rw [i64_iff]; omega) (by rw [List.length_append, List.length_singleton]; omega) (by rw [List.append_assoc]; exact he)
      rw [e1, R31_5, if_pos hne]
      rcases hv with rfl | rfl
      · have t1 : Int.tmod (m : Int) 10 = ((m % 10 : Nat) : Int) := rfl
        have t2 : Int.tdiv (m : Int) 10 = ((m / 10 : Nat) : Int) := rfl
        rw [t1, t2]
        refine ⟨by rw [i64_iff]; omega, ?_⟩
        rw [if_neg (by simp only [decide_eq_true_eq]; omega)]
        have e2 : 48 + ((m % 10 : Nat) : Int) = ((48 + m % 10 : Nat) : Int) := by omega
        rw [e2]
        exact ⟨by rw [i64_iff]; omega, by rw [u8_iff]; omega, by omega, by rw [i64_iff]; omega, next _ (.inl rfl)⟩
      · have t1 : Int.tmod (-(m : Int)) 10 = -((m % 10 : Nat) : Int) := by rw [Int.neg_tmod]; rfl
        have t2 : Int.tdiv (-(m : Int)) 10 = -((m / 10 : Nat) : Int) := by rw [Int.neg_tdiv]; rfl
        rw [t1, t2]
        refine ⟨by rw [i64_iff]; omega, ?_⟩
        by_cases hz : m % 10 = 0
        · rw [if_neg (by simp only [decide_eq_true_eq]; omega)]
          have e2 : 48 + -((m % 10 : Nat) : Int) = ((48 + m % 10 : Nat) : Int) := by omega
          rw [e2]
          exact ⟨by rw [i64_iff]; omega, by rw [u8_iff]; omega, by omega, by rw [i64_iff]; omega, next _ (.inr rfl)⟩
        · rw [if_pos (by simp only [decide_eq_true_eq]; omega)]
          have e2 : 48 + (0 - -((m % 10 : Nat) : Int)) = ((48 + m % 10 : Nat) : Int) := by omega
          rw [e2]
          exact ⟨by rw [i64_iff]; omega, by rw [i64_iff]; omega, by rw [u8_iff]; omega, by omega, by rw [i64_iff]; omega, next _ (.inr rfl)⟩

theorem top31 (x0 : Int) (hi : InR .i64 x0) : ∃ n, R31 n x0 [⟨.str, g31_0 x0⟩] := by
  unfold g31_0 numB Lib.itoa
  by_cases h : x0 = 0
  · subst h
    refine ⟨1, ?_⟩
    rw [R31, if_pos (by rfl), if_neg (by decide)]
    have e : Lib.decDigits (Int.toNat 0) = [48] := by rw [Lib.decDigits, dif_pos (by decide)]; rfl
    rw [e]
  · have hi' := hi
    rw [i64_iff] at hi'
    have hn : x0.natAbs ≠ 0 := by omega
    have hl := rdl31 19 x0.natAbs (by omega)
    refine ⟨(rd31 x0.natAbs).length + ((if x0 < 0 then (rd31 x0.natAbs).length + 1 else (rd31 x0.natAbs).length) + 1 + 1) + 1, ?_⟩
    rw [R31, if_neg (by simpa using h)]
    have hlast := last31 x0 (rd31 x0.natAbs) (by omega)
    have hrun := run31 x0 _ (rd31 x0.natAbs) _ hlast x0.natAbs x0 [] (by omega) (by omega) hi (by simp; omega) rfl
    have e : bytesStr (if x0 < 0 then rd31 x0.natAbs ++ [45] else rd31 x0.natAbs).reverse = ⟨(if x0 < 0 then 45 :: Lib.decDigits x0.natAbs else Lib.decDigits x0.toNat).toArray⟩ := by
      by_cases hx : x0 < 0
      · rw [if_pos hx, if_pos hx, List.reverse_append]
        show bytesStr ((45 : Int) :: (rd31 x0.natAbs).reverse) = _
        have := rdd31 x0.natAbs hn
        have e0 : bytesStr ((45 : Int) :: (rd31 x0.natAbs).reverse) = ⟨⟨45 :: (bytesStr (rd31 x0.natAbs).reverse).data.toList⟩⟩ := by rw [bstr31, bstr31]; rfl
        rw [e0, this]
      · rw [if_neg hx, if_neg hx, rdd31 x0.natAbs hn, show x0.natAbs = x0.toNat by omega]
    rw [e] at hrun
    exact hrun

def S31 : Am.Spec := { sig := sig31, pre := fun ⟨x0, _⟩ => P31 x0, res := fun ⟨x0, _⟩ => [⟨.str, g31_0 x0⟩] }
theorem con31 : Contract Tryd.prog 31 S31 := contract_of Tryd.func31 hb31 (Nat.le_of_ble_eq_true (by kernel_rfl)) (fun ⟨x0, _⟩ h hwf w0 O q => by
  obtain ⟨n, hn⟩ := top31 x0 hwf.1
  exact (snd31 n).1 x0 _ hn w0 O q)

end Go.Proofs.YticibijneahllaaDoor

/- Function 18 (spec.l29Five): its runs between cut points. Written by a program of this repo (gen). -/
set_option linter.unusedVariables false
set_option linter.unusedSimpArgs false
set_option maxRecDepth 100000
namespace Go.Proofs.YticibijneahllaaDoor
open Go Go.Am Go.Proofs
def ext18 : Ext := [(31, S31)]
theorem call18_31 : Callable Tryd.prog 31 := ⟨Tryd.f31, Tryd.func31, by kernel_rfl, by kernel_rfl⟩
theorem ext18Ok : ExtOk Tryd.prog ext18 := ⟨⟨call18_31, con31⟩, trivial⟩
/-! Function 18. -/
noncomputable def b18 : Code := bodyOf Tryd.f18
theorem hb18 : Tryd.f18.body = some b18 := by kernel_rfl
def sig18 : List AT := [AT.v (Ty.int IntKind.i64)]
def tys18 : List Ty := [Ty.str]
def E18_2 (v3 : ByteArray) : Env := [(3, PV.a (Atom.val (Value.string v3)))]
def L18_2 (v3 : ByteArray) : Heap := []
mutual
def R18 : Nat → Int → List Dyn → Prop
  | 0, _, _ => False
  | n + 1, x0, ds => (R18_2 n (g31_0 x0) ds)
def R18_2 : Nat → ByteArray → List Dyn → Prop
  | 0, _, _ => False
  | n + 1, v3, ds => (if (Decidable.decide ((↑(ByteArray.size v3) : Int) < 5)) = true then ((1 + ByteArray.size v3 ≤ 9223372036854775807) ∧ (R18_2 n (ByteArray.mk #[48] ++ v3) ds)) else (ds = [Dyn.mk Ty.str v3]))
end
theorem p18_0 (x0 : Int) : Am.runN tab ext18 false 12 [] 2000 [] [] [3] [] [] [.code b18] (entE 0 0 sig18 (x0, ())) (entL sig18 (x0, ())) = some (cutAt b18 2, E18_2 (g31_0 x0), L18_2 (g31_0 x0), [True]) := by kernel_rfl
theorem p18_1 (v3 : ByteArray) : Am.runN tab ext18 false 12 [] 2000 [] [] [3] [] [true] (cutAt b18 2) (E18_2 v3) (L18_2 v3) = some (cutAt b18 2, E18_2 (ByteArray.mk #[48] ++ v3), L18_2 (ByteArray.mk #[48] ++ v3), [Decidable.decide ((↑(ByteArray.size v3) : Int) < 5) = Bool.true, 1 + ByteArray.size v3 ≤ 9223372036854775807]) := by kernel_rfl
theorem p18_2 (v3 : ByteArray) : runF tab ext18 false 12 [] 2000 [] tys18 Tryd.f18.results [false] (cutAt b18 2) (E18_2 v3) (L18_2 v3) = some ([Dyn.mk Ty.str v3], [], [Decidable.decide ((↑(ByteArray.size v3) : Int) < 5) = Bool.false]) := by kernel_rfl
theorem snd18 : ∀ n, (∀ (x0 : Int) ds, R18 n x0 ds → ∀ w0 O q, AtV Tryd.prog 18 (PostR ds [] [] q w0 O) 12 w0 O q [] [.code b18] (entE 0 0 sig18 (x0, ())) (entL sig18 (x0, ()))) ∧ (∀ (v3 : ByteArray) ds, R18_2 n v3 ds → ∀ w0 O q, AtV Tryd.prog 18 (PostR ds [] [] q w0 O) 12 w0 O q [] (cutAt b18 2) (E18_2 v3) (L18_2 v3)) := by
  intro n
  induction n with
  | zero => exact ⟨fun _ _ h => by simp only [R18] at h, fun _ _ h => by simp only [R18_2] at h⟩
  | succ n ih =>
  obtain ⟨ih, ih2⟩ := ih
  refine ⟨?_, ?_⟩
  · intro x0 ds h w0 O q
    rw [R18] at h
    exact AtV.runN tabOk ext18Ok mixed (p18_0 x0) ⟨trivial, trivial⟩ (ih2 _ _ h w0 O q)

  · intro v3 ds h w0 O q
    rw [R18_2] at h
    by_cases b0 : (Decidable.decide ((↑(ByteArray.size v3) : Int) < 5)) = true
    · rw [if_pos b0] at h
      obtain ⟨s0, h⟩ := h
      exact AtV.runN tabOk ext18Ok mixed (p18_1 v3) ⟨b0, s0, trivial⟩ (ih2 _ _ h w0 O q)
    · rw [if_neg b0] at h
      replace b0 := Bool.eq_false_iff.2 b0
      subst h
      exact AtV.fin Tryd.func18 tabOk ext18Ok mixed (p18_2 v3) ⟨b0, trivial⟩



def f518 : Nat → ByteArray → ByteArray
  | 0, s => s
  | k + 1, s => if s.size < 5 then f518 k (ByteArray.mk #[48] ++ s) else s
def g18_0 (x0 : Int) : ByteArray := f518 5 (g31_0 x0)
def P18 (x0 : Int) : Prop := True

theorem run18 : ∀ (k : Nat) (s : ByteArray), 5 ≤ s.size + k → R18_2 (k + 1) s [⟨.str, f518 k s⟩] := by
  intro k
  have i48 : (ByteArray.mk #[48]).size = 1 := rfl
  induction k with
  | zero =>
    intro s h
    rw [R18_2, if_neg (by simp; omega)]
    rfl
  | succ k ih =>
    intro s h
    rw [R18_2]
    unfold f518
    by_cases hc : s.size < 5
    · rw [if_pos (by simp; omega), if_pos hc]
      exact ⟨by omega, ih _ (by rw [ByteArray.size_append, i48]; omega)⟩
    · rw [if_neg (by simp; omega), if_neg hc]

theorem top18 (x0 : Int) : R18 7 x0 [⟨.str, g18_0 x0⟩] := by
  rw [R18]
  exact run18 5 _ (by omega)

def S18 : Am.Spec := { sig := sig18, pre := fun ⟨x0, _⟩ => P18 x0, res := fun ⟨x0, _⟩ => [⟨Ty.str, g18_0 x0⟩] }
theorem con18 : Contract Tryd.prog 18 S18 := contract_of Tryd.func18 hb18 (Nat.le_of_ble_eq_true (by kernel_rfl)) (fun ⟨x0, _⟩ h hwf w0 O q =>
  (snd18 _).1 x0 _ (top18 x0) w0 O q)

end Go.Proofs.YticibijneahllaaDoor

/- Function 49 (spec.l01Small): its runs between cut points. Written by a program of this repo (gen). -/
set_option linter.unusedVariables false
set_option linter.unusedSimpArgs false
set_option maxRecDepth 100000
namespace Go.Proofs.YticibijneahllaaDoor
open Go Go.Am Go.Proofs
def ext49 : Ext := []
theorem ext49Ok : ExtOk Tryd.prog ext49 := trivial
/-! Function 49. -/
noncomputable def b49 : Code := bodyOf Tryd.f49
theorem hb49 : Tryd.f49.body = some b49 := by kernel_rfl
def sig49 : List AT := [AT.v (Ty.int IntKind.u8)]
def tys49 : List Ty := [Ty.bool]
def P49 (x0 : Int) : Prop := True
def g49_0 (x0 : Int) : Bool := (if (Decidable.decide (x0 ≥ 97)) = true then Decidable.decide (x0 ≤ 122) else Bool.false)
theorem p49_0 (x0 : Int) : runF tab ext49 false 9 [] 2000 [] tys49 Tryd.f49.results [true] [.code b49] (entE 0 0 sig49 (x0, ())) (entL sig49 (x0, ())) = some ([Dyn.mk Ty.bool (Decidable.decide (x0 ≤ 122))], [], [Decidable.decide (x0 ≥ 97) = Bool.true]) := by kernel_rfl
theorem p49_1 (x0 : Int) : runF tab ext49 false 9 [] 2000 [] tys49 Tryd.f49.results [false] [.code b49] (entE 0 0 sig49 (x0, ())) (entL sig49 (x0, ())) = some ([Dyn.mk Ty.bool Bool.false], [], [Decidable.decide (x0 ≥ 97) = Bool.false]) := by kernel_rfl
theorem at49 (x0 : Int) (h : P49 x0) (w0 : World) (O : List Nat) (q : Nat → Value) : AtV Tryd.prog 49 (PostR [⟨Ty.bool, g49_0 x0⟩] [] [] q w0 O) 9 w0 O q [] [.code b49] (entE 0 0 sig49 (x0, ())) (entL sig49 (x0, ())) := by
  unfold P49 at h
  unfold g49_0
  by_cases b0 : (Decidable.decide (x0 ≥ 97)) = true
  · try simp only [if_pos b0] at h ⊢
    exact AtV.fin Tryd.func49 tabOk ext49Ok mixed (p49_0 x0) ⟨b0, trivial⟩
  · try simp only [if_neg b0] at h ⊢
    replace b0 := Bool.eq_false_iff.2 b0
    exact AtV.fin Tryd.func49 tabOk ext49Ok mixed (p49_1 x0) ⟨b0, trivial⟩

def S49 : Am.Spec := { sig := sig49, pre := fun ⟨x0, _⟩ => P49 x0, res := fun ⟨x0, _⟩ => [⟨Ty.bool, g49_0 x0⟩] }
theorem con49 : Contract Tryd.prog 49 S49 := contract_of Tryd.func49 hb49 (Nat.le_of_ble_eq_true (by kernel_rfl)) (fun ⟨x0, _⟩ h _ w0 O q => at49 x0 h w0 O q)


end Go.Proofs.YticibijneahllaaDoor

/- Function 50 (spec.l01Digit): its runs between cut points. Written by a program of this repo (gen). -/
set_option linter.unusedVariables false
set_option linter.unusedSimpArgs false
set_option maxRecDepth 100000
namespace Go.Proofs.YticibijneahllaaDoor
open Go Go.Am Go.Proofs
def ext50 : Ext := []
theorem ext50Ok : ExtOk Tryd.prog ext50 := trivial
/-! Function 50. -/
noncomputable def b50 : Code := bodyOf Tryd.f50
theorem hb50 : Tryd.f50.body = some b50 := by kernel_rfl
def sig50 : List AT := [AT.v (Ty.int IntKind.u8)]
def tys50 : List Ty := [Ty.bool]
def P50 (x0 : Int) : Prop := True
def g50_0 (x0 : Int) : Bool := (if (Decidable.decide (x0 ≥ 48)) = true then Decidable.decide (x0 ≤ 57) else Bool.false)
theorem p50_0 (x0 : Int) : runF tab ext50 false 9 [] 2000 [] tys50 Tryd.f50.results [true] [.code b50] (entE 0 0 sig50 (x0, ())) (entL sig50 (x0, ())) = some ([Dyn.mk Ty.bool (Decidable.decide (x0 ≤ 57))], [], [Decidable.decide (x0 ≥ 48) = Bool.true]) := by kernel_rfl
theorem p50_1 (x0 : Int) : runF tab ext50 false 9 [] 2000 [] tys50 Tryd.f50.results [false] [.code b50] (entE 0 0 sig50 (x0, ())) (entL sig50 (x0, ())) = some ([Dyn.mk Ty.bool Bool.false], [], [Decidable.decide (x0 ≥ 48) = Bool.false]) := by kernel_rfl
theorem at50 (x0 : Int) (h : P50 x0) (w0 : World) (O : List Nat) (q : Nat → Value) : AtV Tryd.prog 50 (PostR [⟨Ty.bool, g50_0 x0⟩] [] [] q w0 O) 9 w0 O q [] [.code b50] (entE 0 0 sig50 (x0, ())) (entL sig50 (x0, ())) := by
  unfold P50 at h
  unfold g50_0
  by_cases b0 : (Decidable.decide (x0 ≥ 48)) = true
  · try simp only [if_pos b0] at h ⊢
    exact AtV.fin Tryd.func50 tabOk ext50Ok mixed (p50_0 x0) ⟨b0, trivial⟩
  · try simp only [if_neg b0] at h ⊢
    replace b0 := Bool.eq_false_iff.2 b0
    exact AtV.fin Tryd.func50 tabOk ext50Ok mixed (p50_1 x0) ⟨b0, trivial⟩

def S50 : Am.Spec := { sig := sig50, pre := fun ⟨x0, _⟩ => P50 x0, res := fun ⟨x0, _⟩ => [⟨Ty.bool, g50_0 x0⟩] }
theorem con50 : Contract Tryd.prog 50 S50 := contract_of Tryd.func50 hb50 (Nat.le_of_ble_eq_true (by kernel_rfl)) (fun ⟨x0, _⟩ h _ w0 O q => at50 x0 h w0 O q)


end Go.Proofs.YticibijneahllaaDoor

/- Function 32 (spec.l01Name): its runs between cut points. Written by a program of this repo (gen). -/
set_option linter.unusedVariables false
set_option linter.unusedSimpArgs false
set_option maxRecDepth 100000
namespace Go.Proofs.YticibijneahllaaDoor
open Go Go.Am Go.Proofs
def ext32 : Ext := [(49, S49), (50, S50)]
theorem call32_49 : Callable Tryd.prog 49 := ⟨Tryd.f49, Tryd.func49, by kernel_rfl, by kernel_rfl⟩
theorem call32_50 : Callable Tryd.prog 50 := ⟨Tryd.f50, Tryd.func50, by kernel_rfl, by kernel_rfl⟩
theorem ext32Ok : ExtOk Tryd.prog ext32 := ⟨⟨call32_49, con49⟩, ⟨call32_50, con50⟩, trivial⟩
/-! Function 32. -/
noncomputable def b32 : Code := bodyOf Tryd.f32
theorem hb32 : Tryd.f32.body = some b32 := by kernel_rfl
def sig32 : List AT := [AT.v (Ty.str)]
def tys32 : List Ty := [Ty.bool]
def E32_4 (v3 : Int) (x0 : ByteArray) : Env := [(0, PV.a (Atom.val (Value.string x0))), (3, PV.a (Atom.val (Value.int IntKind.i64 v3)))]
def L32_4 (v3 : Int) (x0 : ByteArray) : Heap := []
mutual
def R32 : Nat → ByteArray → List Dyn → Prop
  | 0, _, _ => False
  | n + 1, x0, ds => (if (ByteArray.toList x0 == ByteArray.toList (ByteArray.mk #[])) = true then (ds = [Dyn.mk Ty.bool Bool.false]) else (if (Decidable.decide ((↑(ByteArray.size x0) : Int) > 10)) = true then (ds = [Dyn.mk Ty.bool Bool.false]) else ((0 < (↑(ByteArray.size x0) : Int)) ∧ (if (!g49_0 (↑(UInt8.toNat (List.getD (Array.toList (ByteArray.data x0)) 0 0)) : Int)) = true then (ds = [Dyn.mk Ty.bool Bool.false]) else (R32_4 n (0) (x0) ds)))))
def R32_4 : Nat → Int → ByteArray → List Dyn → Prop
  | 0, _, _, _ => False
  | n + 1, v3, x0, ds => (if (Decidable.decide (v3 < (↑(ByteArray.size x0) : Int))) = true then ((0 ≤ v3) ∧ (v3 < (↑(ByteArray.size x0) : Int)) ∧ (if (!g49_0 (↑(UInt8.toNat (List.getD (Array.toList (ByteArray.data x0)) (Int.toNat v3) 0)) : Int)) = true then ((0 ≤ v3) ∧ (v3 < (↑(ByteArray.size x0) : Int)) ∧ (if (!g50_0 (↑(UInt8.toNat (List.getD (Array.toList (ByteArray.data x0)) (Int.toNat v3) 0)) : Int)) = true then (ds = [Dyn.mk Ty.bool Bool.false]) else ((InR IntKind.i64 (v3 + 1)) ∧ (R32_4 n (v3 + 1) (x0) ds)))) else ((InR IntKind.i64 (v3 + 1)) ∧ (R32_4 n (v3 + 1) (x0) ds)))) else (ds = [Dyn.mk Ty.bool Bool.true]))
end
theorem p32_0 (x0 : ByteArray) : runF tab ext32 false 35 [] 2000 [] tys32 Tryd.f32.results [true, true, true] [.code b32] (entE 0 0 sig32 (x0, ())) (entL sig32 (x0, ())) = some ([Dyn.mk Ty.bool Bool.false], [], [(ByteArray.toList x0 == ByteArray.toList (ByteArray.mk #[])) = Bool.true, Bool.true = Bool.true, Bool.true = Bool.true]) := by kernel_rfl
theorem p32_1 (x0 : ByteArray) : runF tab ext32 false 35 [] 2000 [] tys32 Tryd.f32.results [false, true, true] [.code b32] (entE 0 0 sig32 (x0, ())) (entL sig32 (x0, ())) = some ([Dyn.mk Ty.bool Bool.false], [], [(ByteArray.toList x0 == ByteArray.toList (ByteArray.mk #[])) = Bool.false, Decidable.decide ((↑(ByteArray.size x0) : Int) > 10) = Bool.true, Bool.true = Bool.true]) := by kernel_rfl
theorem p32_2 (x0 : ByteArray) : runF tab ext32 false 35 [] 2000 [] tys32 Tryd.f32.results [false, false, true] [.code b32] (entE 0 0 sig32 (x0, ())) (entL sig32 (x0, ())) = some ([Dyn.mk Ty.bool Bool.false], [], [(ByteArray.toList x0 == ByteArray.toList (ByteArray.mk #[])) = Bool.false, Decidable.decide ((↑(ByteArray.size x0) : Int) > 10) = Bool.false, (0 : Int) ≤ (0 : Int), 0 < (↑(ByteArray.size x0) : Int), True, (!g49_0 (↑(UInt8.toNat (List.getD (Array.toList (ByteArray.data x0)) 0 0)) : Int)) = Bool.true]) := by kernel_rfl
theorem p32_3 (x0 : ByteArray) : Am.runN tab ext32 false 35 [] 2000 [] [] [0, 3] [] [false, false, false] [.code b32] (entE 0 0 sig32 (x0, ())) (entL sig32 (x0, ())) = some (cutAt b32 4, E32_4 (0) (x0), L32_4 (0) (x0), [(ByteArray.toList x0 == ByteArray.toList (ByteArray.mk #[])) = Bool.false, Decidable.decide ((↑(ByteArray.size x0) : Int) > 10) = Bool.false, (0 : Int) ≤ (0 : Int), 0 < (↑(ByteArray.size x0) : Int), True, (!g49_0 (↑(UInt8.toNat (List.getD (Array.toList (ByteArray.data x0)) 0 0)) : Int)) = Bool.false]) := by kernel_rfl
theorem p32_4 (v3 : Int) (x0 : ByteArray) : runF tab ext32 false 35 [] 2000 [] tys32 Tryd.f32.results [true, true, true] (cutAt b32 4) (E32_4 v3 x0) (L32_4 v3 x0) = some ([Dyn.mk Ty.bool Bool.false], [], [Decidable.decide (v3 < (↑(ByteArray.size x0) : Int)) = Bool.true, 0 ≤ v3, v3 < (↑(ByteArray.size x0) : Int), True, (!g49_0 (↑(UInt8.toNat (List.getD (Array.toList (ByteArray.data x0)) (Int.toNat v3) 0)) : Int)) = Bool.true, 0 ≤ v3, v3 < (↑(ByteArray.size x0) : Int), True, (!g50_0 (↑(UInt8.toNat (List.getD (Array.toList (ByteArray.data x0)) (Int.toNat v3) 0)) : Int)) = Bool.true]) := by kernel_rfl
theorem p32_5 (v3 : Int) (x0 : ByteArray) : Am.runN tab ext32 false 35 [] 2000 [] [] [0, 3] [] [true, true, false] (cutAt b32 4) (E32_4 v3 x0) (L32_4 v3 x0) = some (cutAt b32 4, E32_4 (v3 + 1) (x0), L32_4 (v3 + 1) (x0), [Decidable.decide (v3 < (↑(ByteArray.size x0) : Int)) = Bool.true, 0 ≤ v3, v3 < (↑(ByteArray.size x0) : Int), True, (!g49_0 (↑(UInt8.toNat (List.getD (Array.toList (ByteArray.data x0)) (Int.toNat v3) 0)) : Int)) = Bool.true, 0 ≤ v3, v3 < (↑(ByteArray.size x0) : Int), True, (!g50_0 (↑(UInt8.toNat (List.getD (Array.toList (ByteArray.data x0)) (Int.toNat v3) 0)) : Int)) = Bool.false, InR IntKind.i64 (v3 + 1)]) := by kernel_rfl
theorem p32_6 (v3 : Int) (x0 : ByteArray) : Am.runN tab ext32 false 35 [] 2000 [] [] [0, 3] [] [true, false, false] (cutAt b32 4) (E32_4 v3 x0) (L32_4 v3 x0) = some (cutAt b32 4, E32_4 (v3 + 1) (x0), L32_4 (v3 + 1) (x0), [Decidable.decide (v3 < (↑(ByteArray.size x0) : Int)) = Bool.true, 0 ≤ v3, v3 < (↑(ByteArray.size x0) : Int), True, (!g49_0 (↑(UInt8.toNat (List.getD (Array.toList (ByteArray.data x0)) (Int.toNat v3) 0)) : Int)) = Bool.false, Bool.false = Bool.false, InR IntKind.i64 (v3 + 1)]) := by kernel_rfl
theorem p32_7 (v3 : Int) (x0 : ByteArray) : runF tab ext32 false 35 [] 2000 [] tys32 Tryd.f32.results [false] (cutAt b32 4) (E32_4 v3 x0) (L32_4 v3 x0) = some ([Dyn.mk Ty.bool Bool.true], [], [Decidable.decide (v3 < (↑(ByteArray.size x0) : Int)) = Bool.false]) := by kernel_rfl
theorem snd32 : ∀ n, (∀ (x0 : ByteArray) ds, R32 n x0 ds → ∀ w0 O q, AtV Tryd.prog 32 (PostR ds [] [] q w0 O) 35 w0 O q [] [.code b32] (entE 0 0 sig32 (x0, ())) (entL sig32 (x0, ()))) ∧ (∀ (v3 : Int) (x0 : ByteArray) ds, R32_4 n v3 x0 ds → ∀ w0 O q, AtV Tryd.prog 32 (PostR ds [] [] q w0 O) 35 w0 O q [] (cutAt b32 4) (E32_4 v3 x0) (L32_4 v3 x0)) := by
  intro n
  induction n with
  | zero => exact ⟨fun _ _ h => by simp only [R32] at h, fun _ _ _ h => by simp only [R32_4] at h⟩
  | succ n ih =>
  obtain ⟨ih, ih4⟩ := ih
  refine ⟨?_, ?_⟩
  · intro x0 ds h w0 O q
    rw [R32] at h
    by_cases b0 : (ByteArray.toList x0 == ByteArray.toList (ByteArray.mk #[])) = true
    · rw [if_pos b0] at h
      subst h
      exact AtV.fin Tryd.func32 tabOk ext32Ok mixed (p32_0 x0) ⟨b0, rfl, rfl, trivial⟩
    · rw [if_neg b0] at h
      replace b0 := Bool.eq_false_iff.2 b0
      by_cases b1 : (Decidable.decide ((↑(ByteArray.size x0) : Int) > 10)) = true
      · rw [if_pos b1] at h
        subst h
        exact AtV.fin Tryd.func32 tabOk ext32Ok mixed (p32_1 x0) ⟨b0, b1, rfl, trivial⟩
      · rw [if_neg b1] at h
        replace b1 := Bool.eq_false_iff.2 b1
        obtain ⟨s0, h⟩ := h
        by_cases b2 : (!g49_0 (↑(UInt8.toNat (List.getD (Array.toList (ByteArray.data x0)) 0 0)) : Int)) = true
        · rw [if_pos b2] at h
          subst h
          exact AtV.fin Tryd.func32 tabOk ext32Ok mixed (p32_2 x0) ⟨b0, b1, (by decide), s0, trivial, b2, trivial⟩
        · rw [if_neg b2] at h
          replace b2 := Bool.eq_false_iff.2 b2
          exact AtV.runN tabOk ext32Ok mixed (p32_3 x0) ⟨b0, b1, (by decide), s0, trivial, b2, trivial⟩ (ih4 _ _ _ h w0 O q)

  · intro v3 x0 ds h w0 O q
    rw [R32_4] at h
    by_cases b0 : (Decidable.decide (v3 < (↑(ByteArray.size x0) : Int))) = true
    · rw [if_pos b0] at h
      obtain ⟨s0, s1, h⟩ := h
      by_cases b1 : (!g49_0 (↑(UInt8.toNat (List.getD (Array.toList (ByteArray.data x0)) (Int.toNat v3) 0)) : Int)) = true
      · rw [if_pos b1] at h
        obtain ⟨s2, s3, h⟩ := h
        by_cases b2 : (!g50_0 (↑(UInt8.toNat (List.getD (Array.toList (ByteArray.data x0)) (Int.toNat v3) 0)) : Int)) = true
        · rw [if_pos b2] at h
          subst h
          exact AtV.fin Tryd.func32 tabOk ext32Ok mixed (p32_4 v3 x0) ⟨b0, s0, s1, trivial, b1, s2, s3, trivial, b2, trivial⟩
        · rw [if_neg b2] at h
          replace b2 := Bool.eq_false_iff.2 b2
          obtain ⟨s4, h⟩ := h
          exact AtV.runN tabOk ext32Ok mixed (p32_5 v3 x0) ⟨b0, s0, s1, trivial, b1, s2, s3, trivial, b2, s4, trivial⟩ (ih4 _ _ _ h w0 O q)
      · rw [if_neg b1] at h
        replace b1 := Bool.eq_false_iff.2 b1
        obtain ⟨s2, h⟩ := h
        exact AtV.runN tabOk ext32Ok mixed (p32_6 v3 x0) ⟨b0, s0, s1, trivial, b1, rfl, s2, trivial⟩ (ih4 _ _ _ h w0 O q)
    · rw [if_neg b0] at h
      replace b0 := Bool.eq_false_iff.2 b0
      subst h
      exact AtV.fin Tryd.func32 tabOk ext32Ok mixed (p32_7 v3 x0) ⟨b0, trivial⟩



def g32_0 (x0 : ByteArray) : Bool := decide (1 ≤ x0.size) && decide (x0.size ≤ 10) && g49_0 ((bytesOf x0).getD 0 0) && (bytesOf x0).all fun b => g49_0 b || g50_0 b
def P32 (x0 : ByteArray) : Prop := True

theorem top32 (x0 : ByteArray) (hw : Wf .str x0) : R32 (x0.size + 1 + 1) x0 [⟨.bool, g32_0 x0⟩] := by
  have hl := bytesOf_length x0
  rw [R32]
  by_cases h0 : x0 = ByteArray.mk #[]
  · rw [if_pos ((bytes_eq _ _).2 h0)]
    subst h0
    rfl
  · rw [if_neg (fun h => h0 ((bytes_eq _ _).1 h))]
    have hs : 1 ≤ x0.size := by
      rcases Nat.lt_or_ge 0 x0.size with h | h
      · exact h
      · exact absurd (bytesOf_inj (s := x0) (t := ByteArray.mk #[]) (List.eq_nil_of_length_eq_zero (by rw [hl]; omega))) h0
    by_cases h1 : (x0.size : Int) > 10
    · rw [if_pos (by simpa using h1)]
      have : ¬ x0.size ≤ 10 := by omega
      simp [g32_0, this]
    · rw [if_neg (by simpa using h1)]
      refine ⟨by omega, ?_⟩
      rw [byte_get]
      cases h2 : g49_0 ((bytesOf x0).getD 0 0) with
      | false =>
        rw [if_pos (by simp)]
        simp [g32_0, h2, -List.getD_eq_getElem?_getD]
      | true =>
        rw [if_neg (by simp)]
        have key := loop_test (bytesOf x0) 0 (fun b => g49_0 b || g50_0 b) [(⟨.bool, false⟩ : Dyn)] [⟨.bool, true⟩] (fun n i ds => R32_4 n i x0 ds) (fun n => ?_) (fun n i hi hok ds hr => ?_) (fun n i hi hok => ?_)
        · rw [hl] at key
          have e : g32_0 x0 = (bytesOf x0).all fun b => g49_0 b || g50_0 b := by
            have : x0.size ≤ 10 := by omega
            unfold g32_0
            simp only [hs, this, decide_true, Bool.true_and, h2]
          rw [e]
          cases h : (bytesOf x0).all fun b => g49_0 b || g50_0 b with
          | true => rw [if_pos h] at key; exact key
          | false => rw [if_neg (by rw [h]; simp)] at key; exact key
        · show R32_4 (n + 1) ((bytesOf x0).length : Int) x0 _
          rw [R32_4, hl, if_neg (by simp)]
        · rw [R32_4, if_pos (by simp; omega)]
          simp only [Int.toNat_natCast, byte_get]
          generalize (bytesOf x0).getD i 0 = c at *
          refine ⟨by omega, by omega, ?_⟩
          have hu := inR_up (xs := bytesOf x0) (by rw [hl]; exact hw) hi
          cases h3 : g49_0 c with
          | true => rw [if_neg (by simp)]; exact ⟨hu, hr⟩
          | false =>
            rw [if_pos (by simp)]
            rw [h3, Bool.false_or] at hok
            refine ⟨by omega, by omega, ?_⟩
            rw [if_neg (by rw [hok]; simp)]
            exact ⟨hu, hr⟩
        · simp only [Bool.or_eq_false_iff] at hok
          rw [R32_4, if_pos (by simp; omega)]
          simp only [Int.toNat_natCast, byte_get]
          refine ⟨by omega, by omega, ?_⟩
          rw [if_pos (by rw [hok.1]; rfl)]
          refine ⟨by omega, by omega, ?_⟩
          rw [if_pos (by rw [hok.2]; rfl)] <;> trivial

def S32 : Am.Spec := { sig := sig32, pre := fun ⟨x0, _⟩ => P32 x0, res := fun ⟨x0, _⟩ => [⟨Ty.bool, g32_0 x0⟩] }
theorem con32 : Contract Tryd.prog 32 S32 := contract_of Tryd.func32 hb32 (Nat.le_of_ble_eq_true (by kernel_rfl)) (fun ⟨x0, _⟩ h hwf w0 O q =>
  (snd32 _).1 x0 _ (top32 x0 hwf.1) w0 O q)

end Go.Proofs.YticibijneahllaaDoor

/- Function 20 (spec.l29One): its runs between cut points. Written by a program of this repo (gen). -/
set_option linter.unusedVariables false
set_option linter.unusedSimpArgs false
set_option maxRecDepth 100000
namespace Go.Proofs.YticibijneahllaaDoor
open Go Go.Am Go.Proofs
def ext20 : Ext := [(32, S32)]
theorem call20_32 : Callable Tryd.prog 32 := ⟨Tryd.f32, Tryd.func32, by kernel_rfl, by kernel_rfl⟩
theorem ext20Ok : ExtOk Tryd.prog ext20 := ⟨⟨call20_32, con32⟩, trivial⟩
/-! Function 20. -/
noncomputable def b20 : Code := bodyOf Tryd.f20
theorem hb20 : Tryd.f20.body = some b20 := by kernel_rfl
def sig20 : List AT := [AT.p (Ty.cons Ty.str (Ty.cons Ty.str (Ty.cons Ty.str Ty.unit)))]
def tys20 : List Ty := [Ty.bool]
def E20_2 (v3 : Int) (x0 : ByteArray × ByteArray × ByteArray × Unit) : Env := [(0, PV.a (Atom.ptr (Ty.cons Ty.str (Ty.cons Ty.str (Ty.cons Ty.str Ty.unit))) x0)), (3, PV.a (Atom.val (Value.int IntKind.i64 v3)))]
def L20_2 (v3 : Int) (x0 : ByteArray × ByteArray × ByteArray × Unit) : Heap := []
mutual
def R20 : Nat → ByteArray × ByteArray × ByteArray × Unit → List Dyn → Prop
  | 0, _, _ => False
  | n + 1, x0, ds => (R20_2 n (0) (x0) ds)
def R20_2 : Nat → Int → ByteArray × ByteArray × ByteArray × Unit → List Dyn → Prop
  | 0, _, _, _ => False
  | n + 1, v3, x0, ds => (if (Decidable.decide (v3 < (↑(ByteArray.size (Prod.fst (Prod.snd (Prod.snd x0)))) : Int))) = true then ((0 ≤ v3) ∧ (v3 < (↑(ByteArray.size (Prod.fst (Prod.snd (Prod.snd x0)))) : Int)) ∧ (if ((↑(UInt8.toNat (List.getD (Array.toList (ByteArray.data (Prod.fst (Prod.snd (Prod.snd x0))))) (Int.toNat v3) 0)) : Int) == 10) = true then (ds = [Dyn.mk Ty.bool Bool.false]) else ((InR IntKind.i64 (v3 + 1)) ∧ (R20_2 n (v3 + 1) (x0) ds)))) else (if (g32_0 (Prod.fst x0)) = true then (if (g32_0 (Prod.fst (Prod.snd x0))) = true then (ds = [Dyn.mk Ty.bool (Decidable.decide ((↑(ByteArray.size (Prod.fst (Prod.snd (Prod.snd x0)))) : Int) ≤ 400))]) else (ds = [Dyn.mk Ty.bool Bool.false])) else (ds = [Dyn.mk Ty.bool Bool.false])))
end
theorem p20_0 (x0 : ByteArray × ByteArray × ByteArray × Unit) : Am.runN tab ext20 false 40 [] 2000 [] [] [0, 3] [] [] [.code b20] (entE 0 0 sig20 (x0, ())) (entL sig20 (x0, ())) = some (cutAt b20 2, E20_2 (0) (x0), L20_2 (0) (x0), []) := by kernel_rfl
theorem p20_1 (v3 : Int) (x0 : ByteArray × ByteArray × ByteArray × Unit) : runF tab ext20 false 40 [] 2000 [] tys20 Tryd.f20.results [true, true] (cutAt b20 2) (E20_2 v3 x0) (L20_2 v3 x0) = some ([Dyn.mk Ty.bool Bool.false], [], [Decidable.decide (v3 < (↑(ByteArray.size (Prod.fst (Prod.snd (Prod.snd x0)))) : Int)) = Bool.true, 0 ≤ v3, v3 < (↑(ByteArray.size (Prod.fst (Prod.snd (Prod.snd x0)))) : Int), ((↑(UInt8.toNat (List.getD (Array.toList (ByteArray.data (Prod.fst (Prod.snd (Prod.snd x0))))) (Int.toNat v3) 0)) : Int) == 10) = Bool.true]) := by kernel_rfl
theorem p20_2 (v3 : Int) (x0 : ByteArray × ByteArray × ByteArray × Unit) : Am.runN tab ext20 false 40 [] 2000 [] [] [0, 3] [] [true, false] (cutAt b20 2) (E20_2 v3 x0) (L20_2 v3 x0) = some (cutAt b20 2, E20_2 (v3 + 1) (x0), L20_2 (v3 + 1) (x0), [Decidable.decide (v3 < (↑(ByteArray.size (Prod.fst (Prod.snd (Prod.snd x0)))) : Int)) = Bool.true, 0 ≤ v3, v3 < (↑(ByteArray.size (Prod.fst (Prod.snd (Prod.snd x0)))) : Int), ((↑(UInt8.toNat (List.getD (Array.toList (ByteArray.data (Prod.fst (Prod.snd (Prod.snd x0))))) (Int.toNat v3) 0)) : Int) == 10) = Bool.false, InR IntKind.i64 (v3 + 1)]) := by kernel_rfl
theorem p20_3 (v3 : Int) (x0 : ByteArray × ByteArray × ByteArray × Unit) : runF tab ext20 false 40 [] 2000 [] tys20 Tryd.f20.results [false, true, true] (cutAt b20 2) (E20_2 v3 x0) (L20_2 v3 x0) = some ([Dyn.mk Ty.bool (Decidable.decide ((↑(ByteArray.size (Prod.fst (Prod.snd (Prod.snd x0)))) : Int) ≤ 400))], [], [Decidable.decide (v3 < (↑(ByteArray.size (Prod.fst (Prod.snd (Prod.snd x0)))) : Int)) = Bool.false, True, g32_0 (Prod.fst x0) = Bool.true, True, g32_0 (Prod.fst (Prod.snd x0)) = Bool.true]) := by kernel_rfl
theorem p20_4 (v3 : Int) (x0 : ByteArray × ByteArray × ByteArray × Unit) : runF tab ext20 false 40 [] 2000 [] tys20 Tryd.f20.results [false, true, false] (cutAt b20 2) (E20_2 v3 x0) (L20_2 v3 x0) = some ([Dyn.mk Ty.bool Bool.false], [], [Decidable.decide (v3 < (↑(ByteArray.size (Prod.fst (Prod.snd (Prod.snd x0)))) : Int)) = Bool.false, True, g32_0 (Prod.fst x0) = Bool.true, True, g32_0 (Prod.fst (Prod.snd x0)) = Bool.false]) := by kernel_rfl
theorem p20_5 (v3 : Int) (x0 : ByteArray × ByteArray × ByteArray × Unit) : runF tab ext20 false 40 [] 2000 [] tys20 Tryd.f20.results [false, false, false] (cutAt b20 2) (E20_2 v3 x0) (L20_2 v3 x0) = some ([Dyn.mk Ty.bool Bool.false], [], [Decidable.decide (v3 < (↑(ByteArray.size (Prod.fst (Prod.snd (Prod.snd x0)))) : Int)) = Bool.false, True, g32_0 (Prod.fst x0) = Bool.false, Bool.false = Bool.false]) := by kernel_rfl
theorem snd20 : ∀ n, (∀ (x0 : ByteArray × ByteArray × ByteArray × Unit) ds, R20 n x0 ds → ∀ w0 O q, AtV Tryd.prog 20 (PostR ds [] [] q w0 O) 40 w0 O q [] [.code b20] (entE 0 0 sig20 (x0, ())) (entL sig20 (x0, ()))) ∧ (∀ (v3 : Int) (x0 : ByteArray × ByteArray × ByteArray × Unit) ds, R20_2 n v3 x0 ds → ∀ w0 O q, AtV Tryd.prog 20 (PostR ds [] [] q w0 O) 40 w0 O q [] (cutAt b20 2) (E20_2 v3 x0) (L20_2 v3 x0)) := by
  intro n
  induction n with
  | zero => exact ⟨fun _ _ h => by simp only [R20] at h, fun _ _ _ h => by simp only [R20_2] at h⟩
  | succ n ih =>
  obtain ⟨ih, ih2⟩ := ih
  refine ⟨?_, ?_⟩
  · intro x0 ds h w0 O q
    rw [R20] at h
    exact AtV.runN tabOk ext20Ok mixed (p20_0 x0) trivial (ih2 _ _ _ h w0 O q)

  · intro v3 x0 ds h w0 O q
    rw [R20_2] at h
    by_cases b0 : (Decidable.decide (v3 < (↑(ByteArray.size (Prod.fst (Prod.snd (Prod.snd x0)))) : Int))) = true
    · rw [if_pos b0] at h
      obtain ⟨s0, s1, h⟩ := h
      by_cases b1 : ((↑(UInt8.toNat (List.getD (Array.toList (ByteArray.data (Prod.fst (Prod.snd (Prod.snd x0))))) (Int.toNat v3) 0)) : Int) == 10) = true
      · rw [if_pos b1] at h
        subst h
        exact AtV.fin Tryd.func20 tabOk ext20Ok mixed (p20_1 v3 x0) ⟨b0, s0, s1, b1, trivial⟩
      · rw [if_neg b1] at h
        replace b1 := Bool.eq_false_iff.2 b1
        obtain ⟨s2, h⟩ := h
        exact AtV.runN tabOk ext20Ok mixed (p20_2 v3 x0) ⟨b0, s0, s1, b1, s2, trivial⟩ (ih2 _ _ _ h w0 O q)
    · rw [if_neg b0] at h
      replace b0 := Bool.eq_false_iff.2 b0
      by_cases b1 : (g32_0 (Prod.fst x0)) = true
      · rw [if_pos b1] at h
        by_cases b2 : (g32_0 (Prod.fst (Prod.snd x0))) = true
        · rw [if_pos b2] at h
          subst h
          exact AtV.fin Tryd.func20 tabOk ext20Ok mixed (p20_3 v3 x0) ⟨b0, trivial, b1, trivial, b2, trivial⟩
        · rw [if_neg b2] at h
          replace b2 := Bool.eq_false_iff.2 b2
          subst h
          exact AtV.fin Tryd.func20 tabOk ext20Ok mixed (p20_4 v3 x0) ⟨b0, trivial, b1, trivial, b2, trivial⟩
      · rw [if_neg b1] at h
        replace b1 := Bool.eq_false_iff.2 b1
        subst h
        exact AtV.fin Tryd.func20 tabOk ext20Ok mixed (p20_5 v3 x0) ⟨b0, trivial, b1, rfl, trivial⟩



def g20_0 (x0 : ByteArray × ByteArray × ByteArray × Unit) : Bool := (bytesOf x0.2.2.1).all (fun b => !(b == 10)) && g32_0 x0.1 && g32_0 x0.2.1 && decide (x0.2.2.1.size ≤ 400)
def P20 (x0 : ByteArray × ByteArray × ByteArray × Unit) : Prop := True

theorem top20 (x0 : ByteArray × ByteArray × ByteArray × Unit) (hw : Wf (.cons .str (.cons .str (.cons .str .unit))) x0) : R20 (x0.2.2.1.size + 1 + 1) x0 [⟨.bool, g20_0 x0⟩] := by
  have hl := bytesOf_length x0.2.2.1
  have hw3 : Wf .str x0.2.2.1 := hw.2.2.1
  rw [R20]
  have key := loop_test (bytesOf x0.2.2.1) 0 (fun b => !(b == 10)) [(⟨.bool, false⟩ : Dyn)] [⟨.bool, g32_0 x0.1 && g32_0 x0.2.1 && decide (x0.2.2.1.size ≤ 400)⟩] (fun n i ds => R20_2 n i x0 ds) (fun n => ?_) (fun n i hi hok ds hr => ?_) (fun n i hi hok => ?_)
  · rw [hl] at key
    unfold g20_0
    cases h : (bytesOf x0.2.2.1).all fun b => !(b == 10) with
    | true => rw [if_pos h] at key; simpa using key
    | false => rw [if_neg (by rw [h]; simp)] at key; simpa using key
  · show R20_2 (n + 1) ((bytesOf x0.2.2.1).length : Int) x0 _
    rw [R20_2, hl, if_neg (by simp)]
    have hc : decide ((x0.2.2.1.size : Int) ≤ 400) = decide (x0.2.2.1.size ≤ 400) := by
      congr 1; exact propext ⟨fun h => by omega, fun h => by omega⟩
    rw [hc]
    cases g32_0 x0.1 <;> cases g32_0 x0.2.1 <;> simp
  · rw [R20_2, if_pos (by simp; omega)]
    simp only [Int.toNat_natCast, byte_get]
    refine ⟨by omega, by omega, ?_⟩
    rw [if_neg (by intro h; rw [h] at hok; cases hok)]
    exact ⟨inR_up (xs := bytesOf x0.2.2.1) (by rw [hl]; exact hw3) hi, hr⟩
  · rw [R20_2, if_pos (by simp; omega)]
    simp only [Int.toNat_natCast, byte_get]
    refine ⟨by omega, by omega, ?_⟩
    rw [if_pos (by rw [Bool.not_eq_false'] at hok; exact hok)] <;> trivial

def S20 : Am.Spec := { sig := sig20, pre := fun ⟨x0, _⟩ => P20 x0, res := fun ⟨x0, _⟩ => [⟨Ty.bool, g20_0 x0⟩] }
theorem con20 : Contract Tryd.prog 20 S20 := contract_of Tryd.func20 hb20 (Nat.le_of_ble_eq_true (by kernel_rfl)) (fun ⟨x0, _⟩ h hwf w0 O q =>
  (snd20 _).1 x0 _ (top20 x0 hwf.1) w0 O q)

end Go.Proofs.YticibijneahllaaDoor

/- Function 10 (spec.l29Parse): its runs between cut points. Written by a program of this repo (gen). -/
set_option linter.unusedVariables false
set_option linter.unusedSimpArgs false
set_option maxRecDepth 100000
namespace Go.Proofs.YticibijneahllaaDoor
open Go Go.Am Go.Proofs
def ext10 : Ext := [(19, S19), (18, S18), (20, S20)]
theorem call10_19 : Callable Tryd.prog 19 := ⟨Tryd.f19, Tryd.func19, by kernel_rfl, by kernel_rfl⟩
theorem call10_18 : Callable Tryd.prog 18 := ⟨Tryd.f18, Tryd.func18, by kernel_rfl, by kernel_rfl⟩
theorem call10_20 : Callable Tryd.prog 20 := ⟨Tryd.f20, Tryd.func20, by kernel_rfl, by kernel_rfl⟩
theorem ext10Ok : ExtOk Tryd.prog ext10 := ⟨⟨call10_19, con19⟩, ⟨call10_18, con18⟩, ⟨call10_20, con20⟩, trivial⟩
/-! Function 10. -/
noncomputable def b10 : Code := bodyOf Tryd.f10
theorem hb10 : Tryd.f10.body = some b10 := by kernel_rfl
def sig10 : List AT := [AT.v (Ty.str)]
def tys10 : List Ty := [Ty.cons Ty.str (Ty.cons Ty.str (Ty.cons Ty.str Ty.unit)), Ty.int IntKind.i64]
def E10_7 (v5 : Int) (x0 : ByteArray) : Env := [(2, PV.a (Atom.optr 0 0 [])), (4, PV.a (Atom.val (Value.string (ByteArray.extract x0 6 (Int.toNat (↑(ByteArray.size x0) : Int)))))), (5, PV.a (Atom.val (Value.int IntKind.i64 v5)))]
def L10_7 (v5 : Int) (x0 : ByteArray) : Heap := [Option.some (Arr.mk (Ty.cons Ty.str (Ty.cons Ty.str (Ty.cons Ty.str Ty.unit))) [(ByteArray.empty, ByteArray.empty, ByteArray.empty, ())] Bool.true)]
def E10_10 (v6 : Int) (x0 : ByteArray) (v5 : Int) : Env := [(2, PV.a (Atom.optr 0 0 [])), (4, PV.a (Atom.val (Value.string (ByteArray.extract x0 6 (Int.toNat (↑(ByteArray.size x0) : Int)))))), (5, PV.a (Atom.val (Value.int IntKind.i64 v5))), (6, PV.a (Atom.val (Value.int IntKind.i64 v6)))]
def L10_10 (v6 : Int) (x0 : ByteArray) (v5 : Int) : Heap := [Option.some (Arr.mk (Ty.cons Ty.str (Ty.cons Ty.str (Ty.cons Ty.str Ty.unit))) [(ByteArray.empty, ByteArray.empty, ByteArray.empty, ())] Bool.true)]
mutual
def R10 : Nat → ByteArray → List Dyn → Prop
  | 0, _, _ => False
  | n + 1, x0, ds => (if (Decidable.decide ((↑(ByteArray.size x0) : Int) < 6)) = true then (ds = [Dyn.mk (Ty.cons Ty.str (Ty.cons Ty.str (Ty.cons Ty.str Ty.unit))) (ByteArray.empty, ByteArray.empty, ByteArray.empty, ()), Dyn.mk (Ty.int IntKind.i64) 9]) else ((5 < (↑(ByteArray.size x0) : Int)) ∧ (if ((↑(UInt8.toNat (List.getD (Array.toList (ByteArray.data x0)) 5 0)) : Int) != 32) = true then (ds = [Dyn.mk (Ty.cons Ty.str (Ty.cons Ty.str (Ty.cons Ty.str Ty.unit))) (ByteArray.empty, ByteArray.empty, ByteArray.empty, ()), Dyn.mk (Ty.int IntKind.i64) 9]) else ((6 ≤ (↑(ByteArray.size x0) : Int)) ∧ ((5 ≤ (↑(ByteArray.size x0) : Int)) ∧ (if (!ByteArray.toList (ByteArray.extract x0 0 5) == ByteArray.toList (g18_0 (g19_0 (ByteArray.extract x0 6 (Int.toNat (↑(ByteArray.size x0) : Int))) 65535))) = true then (ds = [Dyn.mk (Ty.cons Ty.str (Ty.cons Ty.str (Ty.cons Ty.str Ty.unit))) (ByteArray.empty, ByteArray.empty, ByteArray.empty, ()), Dyn.mk (Ty.int IntKind.i64) 10]) else (R10_7 n (0) (x0) ds)))))))
def R10_7 : Nat → Int → ByteArray → List Dyn → Prop
  | 0, _, _, _ => False
  | n + 1, v5, x0, ds => (if (Decidable.decide (v5 < (↑(ByteArray.size (ByteArray.extract x0 6 (Int.toNat (↑(ByteArray.size x0) : Int)))) : Int))) = true then ((0 ≤ v5) ∧ (v5 < (↑(ByteArray.size (ByteArray.extract x0 6 (Int.toNat (↑(ByteArray.size x0) : Int)))) : Int)) ∧ (if ((↑(UInt8.toNat (List.getD (Array.toList (ByteArray.data (ByteArray.extract x0 6 (Int.toNat (↑(ByteArray.size x0) : Int))))) (Int.toNat v5) 0)) : Int) != 32) = true then ((InR IntKind.i64 (v5 + 1)) ∧ (R10_7 n (v5 + 1) (x0) ds)) else ((InR IntKind.i64 (v5 + 1)) ∧ (R10_10 n (v5 + 1) (x0) (v5) ds)))) else ((InR IntKind.i64 (v5 + 1)) ∧ (R10_10 n (v5 + 1) (x0) (v5) ds)))
def R10_10 : Nat → Int → ByteArray → Int → List Dyn → Prop
  | 0, _, _, _, _ => False
  | n + 1, v6, x0, v5, ds => (if (Decidable.decide (v6 < (↑(ByteArray.size (ByteArray.extract x0 6 (Int.toNat (↑(ByteArray.size x0) : Int)))) : Int))) = true then ((0 ≤ v6) ∧ (v6 < (↑(ByteArray.size (ByteArray.extract x0 6 (Int.toNat (↑(ByteArray.size x0) : Int)))) : Int)) ∧ (if ((↑(UInt8.toNat (List.getD (Array.toList (ByteArray.data (ByteArray.extract x0 6 (Int.toNat (↑(ByteArray.size x0) : Int))))) (Int.toNat v6) 0)) : Int) != 32) = true then ((InR IntKind.i64 (v6 + 1)) ∧ (R10_10 n (v6 + 1) (x0) (v5) ds)) else (if (Decidable.decide (v6 ≥ (↑(ByteArray.size (ByteArray.extract x0 6 (Int.toNat (↑(ByteArray.size x0) : Int)))) : Int))) = true then (ds = [Dyn.mk (Ty.cons Ty.str (Ty.cons Ty.str (Ty.cons Ty.str Ty.unit))) (ByteArray.empty, ByteArray.empty, ByteArray.empty, ()), Dyn.mk (Ty.int IntKind.i64) 9]) else ((0 ≤ v5) ∧ (v5 ≤ (↑(ByteArray.size (ByteArray.extract x0 6 (Int.toNat (↑(ByteArray.size x0) : Int)))) : Int)) ∧ ((InR IntKind.i64 (v5 + 1)) ∧ ((0 ≤ v5 + 1) ∧ (v5 + 1 ≤ v6) ∧ (v6 ≤ (↑(ByteArray.size (ByteArray.extract x0 6 (Int.toNat (↑(ByteArray.size x0) : Int)))) : Int)) ∧ ((InR IntKind.i64 (v6 + 1)) ∧ ((0 ≤ v6 + 1) ∧ (v6 + 1 ≤ (↑(ByteArray.size (ByteArray.extract x0 6 (Int.toNat (↑(ByteArray.size x0) : Int)))) : Int)) ∧ (if (!g20_0 (ByteArray.extract (ByteArray.extract x0 6 (Int.toNat (↑(ByteArray.size x0) : Int))) 0 (Int.toNat v5), ByteArray.extract (ByteArray.extract x0 6 (Int.toNat (↑(ByteArray.size x0) : Int))) (Int.toNat (v5 + 1)) (Int.toNat v6), ByteArray.extract (ByteArray.extract x0 6 (Int.toNat (↑(ByteArray.size x0) : Int))) (Int.toNat (v6 + 1)) (Int.toNat (↑(ByteArray.size (ByteArray.extract x0 6 (Int.toNat (↑(ByteArray.size x0) : Int)))) : Int)), ())) = true then (ds = [Dyn.mk (Ty.cons Ty.str (Ty.cons Ty.str (Ty.cons Ty.str Ty.unit))) (ByteArray.empty, ByteArray.empty, ByteArray.empty, ()), Dyn.mk (Ty.int IntKind.i64) 9]) else (ds = [Dyn.mk (Ty.cons Ty.str (Ty.cons Ty.str (Ty.cons Ty.str Ty.unit))) (ByteArray.extract (ByteArray.extract x0 6 (Int.toNat (↑(ByteArray.size x0) : Int))) 0 (Int.toNat v5), ByteArray.extract (ByteArray.extract x0 6 (Int.toNat (↑(ByteArray.size x0) : Int))) (Int.toNat (v5 + 1)) (Int.toNat v6), ByteArray.extract (ByteArray.extract x0 6 (Int.toNat (↑(ByteArray.size x0) : Int))) (Int.toNat (v6 + 1)) (Int.toNat (↑(ByteArray.size (ByteArray.extract x0 6 (Int.toNat (↑(ByteArray.size x0) : Int)))) : Int)), ()), Dyn.mk (Ty.int IntKind.i64) 0])))))))))) else (if (Decidable.decide (v6 ≥ (↑(ByteArray.size (ByteArray.extract x0 6 (Int.toNat (↑(ByteArray.size x0) : Int)))) : Int))) = true then (ds = [Dyn.mk (Ty.cons Ty.str (Ty.cons Ty.str (Ty.cons Ty.str Ty.unit))) (ByteArray.empty, ByteArray.empty, ByteArray.empty, ()), Dyn.mk (Ty.int IntKind.i64) 9]) else ((0 ≤ v5) ∧ (v5 ≤ (↑(ByteArray.size (ByteArray.extract x0 6 (Int.toNat (↑(ByteArray.size x0) : Int)))) : Int)) ∧ ((InR IntKind.i64 (v5 + 1)) ∧ ((0 ≤ v5 + 1) ∧ (v5 + 1 ≤ v6) ∧ (v6 ≤ (↑(ByteArray.size (ByteArray.extract x0 6 (Int.toNat (↑(ByteArray.size x0) : Int)))) : Int)) ∧ ((InR IntKind.i64 (v6 + 1)) ∧ ((0 ≤ v6 + 1) ∧ (v6 + 1 ≤ (↑(ByteArray.size (ByteArray.extract x0 6 (Int.toNat (↑(ByteArray.size x0) : Int)))) : Int)) ∧ (if (!g20_0 (ByteArray.extract (ByteArray.extract x0 6 (Int.toNat (↑(ByteArray.size x0) : Int))) 0 (Int.toNat v5), ByteArray.extract (ByteArray.extract x0 6 (Int.toNat (↑(ByteArray.size x0) : Int))) (Int.toNat (v5 + 1)) (Int.toNat v6), ByteArray.extract (ByteArray.extract x0 6 (Int.toNat (↑(ByteArray.size x0) : Int))) (Int.toNat (v6 + 1)) (Int.toNat (↑(ByteArray.size (ByteArray.extract x0 6 (Int.toNat (↑(ByteArray.size x0) : Int)))) : Int)), ())) = true then (ds = [Dyn.mk (Ty.cons Ty.str (Ty.cons Ty.str (Ty.cons Ty.str Ty.unit))) (ByteArray.empty, ByteArray.empty, ByteArray.empty, ()), Dyn.mk (Ty.int IntKind.i64) 9]) else (ds = [Dyn.mk (Ty.cons Ty.str (Ty.cons Ty.str (Ty.cons Ty.str Ty.unit))) (ByteArray.extract (ByteArray.extract x0 6 (Int.toNat (↑(ByteArray.size x0) : Int))) 0 (Int.toNat v5), ByteArray.extract (ByteArray.extract x0 6 (Int.toNat (↑(ByteArray.size x0) : Int))) (Int.toNat (v5 + 1)) (Int.toNat v6), ByteArray.extract (ByteArray.extract x0 6 (Int.toNat (↑(ByteArray.size x0) : Int))) (Int.toNat (v6 + 1)) (Int.toNat (↑(ByteArray.size (ByteArray.extract x0 6 (Int.toNat (↑(ByteArray.size x0) : Int)))) : Int)), ()), Dyn.mk (Ty.int IntKind.i64) 0])))))))))
end
theorem p10_0 (x0 : ByteArray) : runF tab ext10 false 74 [] 2000 [] tys10 Tryd.f10.results [true, true] [.code b10] (entE 0 0 sig10 (x0, ())) (entL sig10 (x0, ())) = some ([Dyn.mk (Ty.cons Ty.str (Ty.cons Ty.str (Ty.cons Ty.str Ty.unit))) (ByteArray.empty, ByteArray.empty, ByteArray.empty, ()), Dyn.mk (Ty.int IntKind.i64) 9], [], [Decidable.decide ((↑(ByteArray.size x0) : Int) < 6) = Bool.true, Bool.true = Bool.true]) := by kernel_rfl
theorem p10_1 (x0 : ByteArray) : runF tab ext10 false 74 [] 2000 [] tys10 Tryd.f10.results [false, true] [.code b10] (entE 0 0 sig10 (x0, ())) (entL sig10 (x0, ())) = some ([Dyn.mk (Ty.cons Ty.str (Ty.cons Ty.str (Ty.cons Ty.str Ty.unit))) (ByteArray.empty, ByteArray.empty, ByteArray.empty, ()), Dyn.mk (Ty.int IntKind.i64) 9], [], [Decidable.decide ((↑(ByteArray.size x0) : Int) < 6) = Bool.false, (0 : Int) ≤ (5 : Int), 5 < (↑(ByteArray.size x0) : Int), ((↑(UInt8.toNat (List.getD (Array.toList (ByteArray.data x0)) 5 0)) : Int) != 32) = Bool.true]) := by kernel_rfl
theorem p10_2 (x0 : ByteArray) : runF tab ext10 false 74 [] 2000 [] tys10 Tryd.f10.results [false, false, true] [.code b10] (entE 0 0 sig10 (x0, ())) (entL sig10 (x0, ())) = some ([Dyn.mk (Ty.cons Ty.str (Ty.cons Ty.str (Ty.cons Ty.str Ty.unit))) (ByteArray.empty, ByteArray.empty, ByteArray.empty, ()), Dyn.mk (Ty.int IntKind.i64) 10], [], [Decidable.decide ((↑(ByteArray.size x0) : Int) < 6) = Bool.false, (0 : Int) ≤ (5 : Int), 5 < (↑(ByteArray.size x0) : Int), ((↑(UInt8.toNat (List.getD (Array.toList (ByteArray.data x0)) 5 0)) : Int) != 32) = Bool.false, (0 : Int) ≤ (6 : Int), 6 ≤ (↑(ByteArray.size x0) : Int), (0 : Int) ≤ (5 : Int), 5 ≤ (↑(ByteArray.size x0) : Int), True, True, (!ByteArray.toList (ByteArray.extract x0 0 5) == ByteArray.toList (g18_0 (g19_0 (ByteArray.extract x0 6 (Int.toNat (↑(ByteArray.size x0) : Int))) 65535))) = Bool.true]) := by kernel_rfl
theorem p10_3 (x0 : ByteArray) : Am.runN tab ext10 false 74 [] 2000 [] [] [2, 4, 5] [0] [false, false, false] [.code b10] (entE 0 0 sig10 (x0, ())) (entL sig10 (x0, ())) = some (cutAt b10 7, E10_7 (0) (x0), L10_7 (0) (x0), [Decidable.decide ((↑(ByteArray.size x0) : Int) < 6) = Bool.false, (0 : Int) ≤ (5 : Int), 5 < (↑(ByteArray.size x0) : Int), ((↑(UInt8.toNat (List.getD (Array.toList (ByteArray.data x0)) 5 0)) : Int) != 32) = Bool.false, (0 : Int) ≤ (6 : Int), 6 ≤ (↑(ByteArray.size x0) : Int), (0 : Int) ≤ (5 : Int), 5 ≤ (↑(ByteArray.size x0) : Int), True, True, (!ByteArray.toList (ByteArray.extract x0 0 5) == ByteArray.toList (g18_0 (g19_0 (ByteArray.extract x0 6 (Int.toNat (↑(ByteArray.size x0) : Int))) 65535))) = Bool.false]) := by kernel_rfl
theorem p10_4 (v5 : Int) (x0 : ByteArray) : Am.runN tab ext10 false 74 [] 2000 [] [] [2, 4, 5] [0] [true, true] (cutAt b10 7) (E10_7 v5 x0) (L10_7 v5 x0) = some (cutAt b10 7, E10_7 (v5 + 1) (x0), L10_7 (v5 + 1) (x0), [Decidable.decide (v5 < (↑(ByteArray.size (ByteArray.extract x0 6 (Int.toNat (↑(ByteArray.size x0) : Int)))) : Int)) = Bool.true, 0 ≤ v5, v5 < (↑(ByteArray.size (ByteArray.extract x0 6 (Int.toNat (↑(ByteArray.size x0) : Int)))) : Int), ((↑(UInt8.toNat (List.getD (Array.toList (ByteArray.data (ByteArray.extract x0 6 (Int.toNat (↑(ByteArray.size x0) : Int))))) (Int.toNat v5) 0)) : Int) != 32) = Bool.true, InR IntKind.i64 (v5 + 1)]) := by kernel_rfl
theorem p10_5 (v5 : Int) (x0 : ByteArray) : Am.runN tab ext10 false 74 [] 2000 [] [] [2, 4, 5, 6] [0] [true, false] (cutAt b10 7) (E10_7 v5 x0) (L10_7 v5 x0) = some (cutAt b10 10, E10_10 (v5 + 1) (x0) (v5), L10_10 (v5 + 1) (x0) (v5), [Decidable.decide (v5 < (↑(ByteArray.size (ByteArray.extract x0 6 (Int.toNat (↑(ByteArray.size x0) : Int)))) : Int)) = Bool.true, 0 ≤ v5, v5 < (↑(ByteArray.size (ByteArray.extract x0 6 (Int.toNat (↑(ByteArray.size x0) : Int)))) : Int), ((↑(UInt8.toNat (List.getD (Array.toList (ByteArray.data (ByteArray.extract x0 6 (Int.toNat (↑(ByteArray.size x0) : Int))))) (Int.toNat v5) 0)) : Int) != 32) = Bool.false, InR IntKind.i64 (v5 + 1)]) := by kernel_rfl
theorem p10_6 (v5 : Int) (x0 : ByteArray) : Am.runN tab ext10 false 74 [] 2000 [] [] [2, 4, 5, 6] [0] [false, false] (cutAt b10 7) (E10_7 v5 x0) (L10_7 v5 x0) = some (cutAt b10 10, E10_10 (v5 + 1) (x0) (v5), L10_10 (v5 + 1) (x0) (v5), [Decidable.decide (v5 < (↑(ByteArray.size (ByteArray.extract x0 6 (Int.toNat (↑(ByteArray.size x0) : Int)))) : Int)) = Bool.false, Bool.false = Bool.false, InR IntKind.i64 (v5 + 1)]) := by kernel_rfl
theorem p10_7 (v6 : Int) (x0 : ByteArray) (v5 : Int) : Am.runN tab ext10 false 74 [] 2000 [] [] [2, 4, 5, 6] [0] [true, true] (cutAt b10 10) (E10_10 v6 x0 v5) (L10_10 v6 x0 v5) = some (cutAt b10 10, E10_10 (v6 + 1) (x0) (v5), L10_10 (v6 + 1) (x0) (v5), [Decidable.decide (v6 < (↑(ByteArray.size (ByteArray.extract x0 6 (Int.toNat (↑(ByteArray.size x0) : Int)))) : Int)) = Bool.true, 0 ≤ v6, v6 < (↑(ByteArray.size (ByteArray.extract x0 6 (Int.toNat (↑(ByteArray.size x0) : Int)))) : Int), ((↑(UInt8.toNat (List.getD (Array.toList (ByteArray.data (ByteArray.extract x0 6 (Int.toNat (↑(ByteArray.size x0) : Int))))) (Int.toNat v6) 0)) : Int) != 32) = Bool.true, InR IntKind.i64 (v6 + 1)]) := by kernel_rfl
theorem p10_8 (v6 : Int) (x0 : ByteArray) (v5 : Int) : runF tab ext10 false 74 [] 2000 [] tys10 Tryd.f10.results [true, false, true] (cutAt b10 10) (E10_10 v6 x0 v5) (L10_10 v6 x0 v5) = some ([Dyn.mk (Ty.cons Ty.str (Ty.cons Ty.str (Ty.cons Ty.str Ty.unit))) (ByteArray.empty, ByteArray.empty, ByteArray.empty, ()), Dyn.mk (Ty.int IntKind.i64) 9], [], [Decidable.decide (v6 < (↑(ByteArray.size (ByteArray.extract x0 6 (Int.toNat (↑(ByteArray.size x0) : Int)))) : Int)) = Bool.true, 0 ≤ v6, v6 < (↑(ByteArray.size (ByteArray.extract x0 6 (Int.toNat (↑(ByteArray.size x0) : Int)))) : Int), ((↑(UInt8.toNat (List.getD (Array.toList (ByteArray.data (ByteArray.extract x0 6 (Int.toNat (↑(ByteArray.size x0) : Int))))) (Int.toNat v6) 0)) : Int) != 32) = Bool.false, Decidable.decide (v6 ≥ (↑(ByteArray.size (ByteArray.extract x0 6 (Int.toNat (↑(ByteArray.size x0) : Int)))) : Int)) = Bool.true]) := by kernel_rfl
theorem p10_9 (v6 : Int) (x0 : ByteArray) (v5 : Int) : runF tab ext10 false 74 [] 2000 [] tys10 Tryd.f10.results [true, false, false, true] (cutAt b10 10) (E10_10 v6 x0 v5) (L10_10 v6 x0 v5) = some ([Dyn.mk (Ty.cons Ty.str (Ty.cons Ty.str (Ty.cons Ty.str Ty.unit))) (ByteArray.empty, ByteArray.empty, ByteArray.empty, ()), Dyn.mk (Ty.int IntKind.i64) 9], [], [Decidable.decide (v6 < (↑(ByteArray.size (ByteArray.extract x0 6 (Int.toNat (↑(ByteArray.size x0) : Int)))) : Int)) = Bool.true, 0 ≤ v6, v6 < (↑(ByteArray.size (ByteArray.extract x0 6 (Int.toNat (↑(ByteArray.size x0) : Int)))) : Int), ((↑(UInt8.toNat (List.getD (Array.toList (ByteArray.data (ByteArray.extract x0 6 (Int.toNat (↑(ByteArray.size x0) : Int))))) (Int.toNat v6) 0)) : Int) != 32) = Bool.false, Decidable.decide (v6 ≥ (↑(ByteArray.size (ByteArray.extract x0 6 (Int.toNat (↑(ByteArray.size x0) : Int)))) : Int)) = Bool.false, 0 ≤ v5, v5 ≤ (↑(ByteArray.size (ByteArray.extract x0 6 (Int.toNat (↑(ByteArray.size x0) : Int)))) : Int), InR IntKind.i64 (v5 + 1), 0 ≤ v5 + 1, v5 + 1 ≤ v6, v6 ≤ (↑(ByteArray.size (ByteArray.extract x0 6 (Int.toNat (↑(ByteArray.size x0) : Int)))) : Int), InR IntKind.i64 (v6 + 1), 0 ≤ v6 + 1, v6 + 1 ≤ (↑(ByteArray.size (ByteArray.extract x0 6 (Int.toNat (↑(ByteArray.size x0) : Int)))) : Int), True, (!g20_0 (ByteArray.extract (ByteArray.extract x0 6 (Int.toNat (↑(ByteArray.size x0) : Int))) 0 (Int.toNat v5), ByteArray.extract (ByteArray.extract x0 6 (Int.toNat (↑(ByteArray.size x0) : Int))) (Int.toNat (v5 + 1)) (Int.toNat v6), ByteArray.extract (ByteArray.extract x0 6 (Int.toNat (↑(ByteArray.size x0) : Int))) (Int.toNat (v6 + 1)) (Int.toNat (↑(ByteArray.size (ByteArray.extract x0 6 (Int.toNat (↑(ByteArray.size x0) : Int)))) : Int)), ())) = Bool.true]) := by kernel_rfl
theorem p10_10 (v6 : Int) (x0 : ByteArray) (v5 : Int) : runF tab ext10 false 74 [] 2000 [] tys10 Tryd.f10.results [true, false, false, false] (cutAt b10 10) (E10_10 v6 x0 v5) (L10_10 v6 x0 v5) = some ([Dyn.mk (Ty.cons Ty.str (Ty.cons Ty.str (Ty.cons Ty.str Ty.unit))) (ByteArray.extract (ByteArray.extract x0 6 (Int.toNat (↑(ByteArray.size x0) : Int))) 0 (Int.toNat v5), ByteArray.extract (ByteArray.extract x0 6 (Int.toNat (↑(ByteArray.size x0) : Int))) (Int.toNat (v5 + 1)) (Int.toNat v6), ByteArray.extract (ByteArray.extract x0 6 (Int.toNat (↑(ByteArray.size x0) : Int))) (Int.toNat (v6 + 1)) (Int.toNat (↑(ByteArray.size (ByteArray.extract x0 6 (Int.toNat (↑(ByteArray.size x0) : Int)))) : Int)), ()), Dyn.mk (Ty.int IntKind.i64) 0], [], [Decidable.decide (v6 < (↑(ByteArray.size (ByteArray.extract x0 6 (Int.toNat (↑(ByteArray.size x0) : Int)))) : Int)) = Bool.true, 0 ≤ v6, v6 < (↑(ByteArray.size (ByteArray.extract x0 6 (Int.toNat (↑(ByteArray.size x0) : Int)))) : Int), ((↑(UInt8.toNat (List.getD (Array.toList (ByteArray.data (ByteArray.extract x0 6 (Int.toNat (↑(ByteArray.size x0) : Int))))) (Int.toNat v6) 0)) : Int) != 32) = Bool.false, Decidable.decide (v6 ≥ (↑(ByteArray.size (ByteArray.extract x0 6 (Int.toNat (↑(ByteArray.size x0) : Int)))) : Int)) = Bool.false, 0 ≤ v5, v5 ≤ (↑(ByteArray.size (ByteArray.extract x0 6 (Int.toNat (↑(ByteArray.size x0) : Int)))) : Int), InR IntKind.i64 (v5 + 1), 0 ≤ v5 + 1, v5 + 1 ≤ v6, v6 ≤ (↑(ByteArray.size (ByteArray.extract x0 6 (Int.toNat (↑(ByteArray.size x0) : Int)))) : Int), InR IntKind.i64 (v6 + 1), 0 ≤ v6 + 1, v6 + 1 ≤ (↑(ByteArray.size (ByteArray.extract x0 6 (Int.toNat (↑(ByteArray.size x0) : Int)))) : Int), True, (!g20_0 (ByteArray.extract (ByteArray.extract x0 6 (Int.toNat (↑(ByteArray.size x0) : Int))) 0 (Int.toNat v5), ByteArray.extract (ByteArray.extract x0 6 (Int.toNat (↑(ByteArray.size x0) : Int))) (Int.toNat (v5 + 1)) (Int.toNat v6), ByteArray.extract (ByteArray.extract x0 6 (Int.toNat (↑(ByteArray.size x0) : Int))) (Int.toNat (v6 + 1)) (Int.toNat (↑(ByteArray.size (ByteArray.extract x0 6 (Int.toNat (↑(ByteArray.size x0) : Int)))) : Int)), ())) = Bool.false]) := by kernel_rfl
theorem p10_11 (v6 : Int) (x0 : ByteArray) (v5 : Int) : runF tab ext10 false 74 [] 2000 [] tys10 Tryd.f10.results [false, false, true] (cutAt b10 10) (E10_10 v6 x0 v5) (L10_10 v6 x0 v5) = some ([Dyn.mk (Ty.cons Ty.str (Ty.cons Ty.str (Ty.cons Ty.str Ty.unit))) (ByteArray.empty, ByteArray.empty, ByteArray.empty, ()), Dyn.mk (Ty.int IntKind.i64) 9], [], [Decidable.decide (v6 < (↑(ByteArray.size (ByteArray.extract x0 6 (Int.toNat (↑(ByteArray.size x0) : Int)))) : Int)) = Bool.false, Bool.false = Bool.false, Decidable.decide (v6 ≥ (↑(ByteArray.size (ByteArray.extract x0 6 (Int.toNat (↑(ByteArray.size x0) : Int)))) : Int)) = Bool.true]) := by kernel_rfl
theorem p10_12 (v6 : Int) (x0 : ByteArray) (v5 : Int) : runF tab ext10 false 74 [] 2000 [] tys10 Tryd.f10.results [false, false, false, true] (cutAt b10 10) (E10_10 v6 x0 v5) (L10_10 v6 x0 v5) = some ([Dyn.mk (Ty.cons Ty.str (Ty.cons Ty.str (Ty.cons Ty.str Ty.unit))) (ByteArray.empty, ByteArray.empty, ByteArray.empty, ()), Dyn.mk (Ty.int IntKind.i64) 9], [], [Decidable.decide (v6 < (↑(ByteArray.size (ByteArray.extract x0 6 (Int.toNat (↑(ByteArray.size x0) : Int)))) : Int)) = Bool.false, Bool.false = Bool.false, Decidable.decide (v6 ≥ (↑(ByteArray.size (ByteArray.extract x0 6 (Int.toNat (↑(ByteArray.size x0) : Int)))) : Int)) = Bool.false, 0 ≤ v5, v5 ≤ (↑(ByteArray.size (ByteArray.extract x0 6 (Int.toNat (↑(ByteArray.size x0) : Int)))) : Int), InR IntKind.i64 (v5 + 1), 0 ≤ v5 + 1, v5 + 1 ≤ v6, v6 ≤ (↑(ByteArray.size (ByteArray.extract x0 6 (Int.toNat (↑(ByteArray.size x0) : Int)))) : Int), InR IntKind.i64 (v6 + 1), 0 ≤ v6 + 1, v6 + 1 ≤ (↑(ByteArray.size (ByteArray.extract x0 6 (Int.toNat (↑(ByteArray.size x0) : Int)))) : Int), True, (!g20_0 (ByteArray.extract (ByteArray.extract x0 6 (Int.toNat (↑(ByteArray.size x0) : Int))) 0 (Int.toNat v5), ByteArray.extract (ByteArray.extract x0 6 (Int.toNat (↑(ByteArray.size x0) : Int))) (Int.toNat (v5 + 1)) (Int.toNat v6), ByteArray.extract (ByteArray.extract x0 6 (Int.toNat (↑(ByteArray.size x0) : Int))) (Int.toNat (v6 + 1)) (Int.toNat (↑(ByteArray.size (ByteArray.extract x0 6 (Int.toNat (↑(ByteArray.size x0) : Int)))) : Int)), ())) = Bool.true]) := by kernel_rfl
theorem p10_13 (v6 : Int) (x0 : ByteArray) (v5 : Int) : runF tab ext10 false 74 [] 2000 [] tys10 Tryd.f10.results [false, false, false, false] (cutAt b10 10) (E10_10 v6 x0 v5) (L10_10 v6 x0 v5) = some ([Dyn.mk (Ty.cons Ty.str (Ty.cons Ty.str (Ty.cons Ty.str Ty.unit))) (ByteArray.extract (ByteArray.extract x0 6 (Int.toNat (↑(ByteArray.size x0) : Int))) 0 (Int.toNat v5), ByteArray.extract (ByteArray.extract x0 6 (Int.toNat (↑(ByteArray.size x0) : Int))) (Int.toNat (v5 + 1)) (Int.toNat v6), ByteArray.extract (ByteArray.extract x0 6 (Int.toNat (↑(ByteArray.size x0) : Int))) (Int.toNat (v6 + 1)) (Int.toNat (↑(ByteArray.size (ByteArray.extract x0 6 (Int.toNat (↑(ByteArray.size x0) : Int)))) : Int)), ()), Dyn.mk (Ty.int IntKind.i64) 0], [], [Decidable.decide (v6 < (↑(ByteArray.size (ByteArray.extract x0 6 (Int.toNat (↑(ByteArray.size x0) : Int)))) : Int)) = Bool.false, Bool.false = Bool.false, Decidable.decide (v6 ≥ (↑(ByteArray.size (ByteArray.extract x0 6 (Int.toNat (↑(ByteArray.size x0) : Int)))) : Int)) = Bool.false, 0 ≤ v5, v5 ≤ (↑(ByteArray.size (ByteArray.extract x0 6 (Int.toNat (↑(ByteArray.size x0) : Int)))) : Int), InR IntKind.i64 (v5 + 1), 0 ≤ v5 + 1, v5 + 1 ≤ v6, v6 ≤ (↑(ByteArray.size (ByteArray.extract x0 6 (Int.toNat (↑(ByteArray.size x0) : Int)))) : Int), InR IntKind.i64 (v6 + 1), 0 ≤ v6 + 1, v6 + 1 ≤ (↑(ByteArray.size (ByteArray.extract x0 6 (Int.toNat (↑(ByteArray.size x0) : Int)))) : Int), True, (!g20_0 (ByteArray.extract (ByteArray.extract x0 6 (Int.toNat (↑(ByteArray.size x0) : Int))) 0 (Int.toNat v5), ByteArray.extract (ByteArray.extract x0 6 (Int.toNat (↑(ByteArray.size x0) : Int))) (Int.toNat (v5 + 1)) (Int.toNat v6), ByteArray.extract (ByteArray.extract x0 6 (Int.toNat (↑(ByteArray.size x0) : Int))) (Int.toNat (v6 + 1)) (Int.toNat (↑(ByteArray.size (ByteArray.extract x0 6 (Int.toNat (↑(ByteArray.size x0) : Int)))) : Int)), ())) = Bool.false]) := by kernel_rfl
theorem snd10 : ∀ n, (∀ (x0 : ByteArray) ds, R10 n x0 ds → ∀ w0 O q, AtV Tryd.prog 10 (PostR ds [] [] q w0 O) 74 w0 O q [] [.code b10] (entE 0 0 sig10 (x0, ())) (entL sig10 (x0, ()))) ∧ (∀ (v5 : Int) (x0 : ByteArray) ds, R10_7 n v5 x0 ds → ∀ w0 O q, AtV Tryd.prog 10 (PostR ds [] [] q w0 O) 74 w0 O q [] (cutAt b10 7) (E10_7 v5 x0) (L10_7 v5 x0)) ∧ (∀ (v6 : Int) (x0 : ByteArray) (v5 : Int) ds, R10_10 n v6 x0 v5 ds → ∀ w0 O q, AtV Tryd.prog 10 (PostR ds [] [] q w0 O) 74 w0 O q [] (cutAt b10 10) (E10_10 v6 x0 v5) (L10_10 v6 x0 v5)) := by
  intro n
  induction n with
  | zero => exact ⟨fun _ _ h => by simp only [R10] at h, fun _ _ _ h => by simp only [R10_7] at h, fun _ _ _ _ h => by simp only [R10_10] at h⟩
  | succ n ih =>
  obtain ⟨ih, ih7, ih10⟩ := ih
  refine ⟨?_, ?_, ?_⟩
  · intro x0 ds h w0 O q
    rw [R10] at h
    by_cases b0 : (Decidable.decide ((↑(ByteArray.size x0) : Int) < 6)) = true
    · rw [if_pos b0] at h
      subst h
      exact AtV.fin Tryd.func10 tabOk ext10Ok mixed (p10_0 x0) ⟨b0, rfl, trivial⟩
    · rw [if_neg b0] at h
      replace b0 := Bool.eq_false_iff.2 b0
      obtain ⟨s0, h⟩ := h
      by_cases b1 : ((↑(UInt8.toNat (List.getD (Array.toList (ByteArray.data x0)) 5 0)) : Int) != 32) = true
      · rw [if_pos b1] at h
        subst h
        exact AtV.fin Tryd.func10 tabOk ext10Ok mixed (p10_1 x0) ⟨b0, (by decide), s0, b1, trivial⟩
      · rw [if_neg b1] at h
        replace b1 := Bool.eq_false_iff.2 b1
        obtain ⟨s1, h⟩ := h
        obtain ⟨s2, h⟩ := h
        by_cases b2 : (!ByteArray.toList (ByteArray.extract x0 0 5) == ByteArray.toList (g18_0 (g19_0 (ByteArray.extract x0 6 (Int.toNat (↑(ByteArray.size x0) : Int))) 65535))) = true
        · rw [if_pos b2] at h
          subst h
          exact AtV.fin Tryd.func10 tabOk ext10Ok mixed (p10_2 x0) ⟨b0, (by decide), s0, b1, (by decide), s1, (by decide), s2, trivial, trivial, b2, trivial⟩
        · rw [if_neg b2] at h
          replace b2 := Bool.eq_false_iff.2 b2
          exact AtV.runN tabOk ext10Ok mixed (p10_3 x0) ⟨b0, (by decide), s0, b1, (by decide), s1, (by decide), s2, trivial, trivial, b2, trivial⟩ (ih7 _ _ _ h w0 O q)

  · intro v5 x0 ds h w0 O q
    rw [R10_7] at h
    by_cases b0 : (Decidable.decide (v5 < (↑(ByteArray.size (ByteArray.extract x0 6 (Int.toNat (↑(ByteArray.size x0) : Int)))) : Int))) = true
    · rw [if_pos b0] at h
      obtain ⟨s0, s1, h⟩ := h
      by_cases b1 : ((↑(UInt8.toNat (List.getD (Array.toList (ByteArray.data (ByteArray.extract x0 6 (Int.toNat (↑(ByteArray.size x0) : Int))))) (Int.toNat v5) 0)) : Int) != 32) = true
      · rw [if_pos b1] at h
        obtain ⟨s2, h⟩ := h
        exact AtV.runN tabOk ext10Ok mixed (p10_4 v5 x0) ⟨b0, s0, s1, b1, s2, trivial⟩ (ih7 _ _ _ h w0 O q)
      · rw [if_neg b1] at h
        replace b1 := Bool.eq_false_iff.2 b1
        obtain ⟨s2, h⟩ := h
        exact AtV.runN tabOk ext10Ok mixed (p10_5 v5 x0) ⟨b0, s0, s1, b1, s2, trivial⟩ (ih10 _ _ _ _ h w0 O q)
    · rw [if_neg b0] at h
      replace b0 := Bool.eq_false_iff.2 b0
      obtain ⟨s0, h⟩ := h
      exact AtV.runN tabOk ext10Ok mixed (p10_6 v5 x0) ⟨b0, rfl, s0, trivial⟩ (ih10 _ _ _ _ h w0 O q)

  · intro v6 x0 v5 ds h w0 O q
    rw [R10_10] at h
    by_cases b0 : (Decidable.decide (v6 < (↑(ByteArray.size (ByteArray.extract x0 6 (Int.toNat (↑(ByteArray.size x0) : Int)))) : Int))) = true
    · rw [if_pos b0] at h
      obtain ⟨s0, s1, h⟩ := h
      by_cases b1 : ((↑(UInt8.toNat (List.getD (Array.toList (ByteArray.data (ByteArray.extract x0 6 (Int.toNat (↑(ByteArray.size x0) : Int))))) (Int.toNat v6) 0)) : Int) != 32) = true
      · rw [if_pos b1] at h
        obtain ⟨s2, h⟩ := h
        exact AtV.runN tabOk ext10Ok mixed (p10_7 v6 x0 v5) ⟨b0, s0, s1, b1, s2, trivial⟩ (ih10 _ _ _ _ h w0 O q)
      · rw [if_neg b1] at h
        replace b1 := Bool.eq_false_iff.2 b1
        by_cases b2 : (Decidable.decide (v6 ≥ (↑(ByteArray.size (ByteArray.extract x0 6 (Int.toNat (↑(ByteArray.size x0) : Int)))) : Int))) = true
        · rw [if_pos b2] at h
          subst h
          exact AtV.fin Tryd.func10 tabOk ext10Ok mixed (p10_8 v6 x0 v5) ⟨b0, s0, s1, b1, b2, trivial⟩
        · rw [if_neg b2] at h
          replace b2 := Bool.eq_false_iff.2 b2
          obtain ⟨s2, s3, h⟩ := h
          obtain ⟨s4, h⟩ := h
          obtain ⟨s5, s6, s7, h⟩ := h
          obtain ⟨s8, h⟩ := h
          obtain ⟨s9, s10, h⟩ := h
          by_cases b3 : (!g20_0 (ByteArray.extract (ByteArray.extract x0 6 (Int.toNat (↑(ByteArray.size x0) : Int))) 0 (Int.toNat v5), ByteArray.extract (ByteArray.extract x0 6 (Int.toNat (↑(ByteArray.size x0) : Int))) (Int.toNat (v5 + 1)) (Int.toNat v6), ByteArray.extract (ByteArray.extract x0 6 (Int.toNat (↑(ByteArray.size x0) : Int))) (Int.toNat (v6 + 1)) (Int.toNat (↑(ByteArray.size (ByteArray.extract x0 6 (Int.toNat (↑(ByteArray.size x0) : Int)))) : Int)), ())) = true
          · rw [if_pos b3] at h
            subst h
            exact AtV.fin Tryd.func10 tabOk ext10Ok mixed (p10_9 v6 x0 v5) ⟨b0, s0, s1, b1, b2, s2, s3, s4, s5, s6, s7, s8, s9, s10, trivial, b3, trivial⟩
          · rw [if_neg b3] at h
            replace b3 := Bool.eq_false_iff.2 b3
            subst h
            exact AtV.fin Tryd.func10 tabOk ext10Ok mixed (p10_10 v6 x0 v5) ⟨b0, s0, s1, b1, b2, s2, s3, s4, s5, s6, s7, s8, s9, s10, trivial, b3, trivial⟩
    · rw [if_neg b0] at h
      replace b0 := Bool.eq_false_iff.2 b0
      by_cases b1 : (Decidable.decide (v6 ≥ (↑(ByteArray.size (ByteArray.extract x0 6 (Int.toNat (↑(ByteArray.size x0) : Int)))) : Int))) = true
      · rw [if_pos b1] at h
        subst h
        exact AtV.fin Tryd.func10 tabOk ext10Ok mixed (p10_11 v6 x0 v5) ⟨b0, rfl, b1, trivial⟩
      · rw [if_neg b1] at h
        replace b1 := Bool.eq_false_iff.2 b1
        obtain ⟨s0, s1, h⟩ := h
        obtain ⟨s2, h⟩ := h
        obtain ⟨s3, s4, s5, h⟩ := h
        obtain ⟨s6, h⟩ := h
        obtain ⟨s7, s8, h⟩ := h
        by_cases b2 : (!g20_0 (ByteArray.extract (ByteArray.extract x0 6 (Int.toNat (↑(ByteArray.size x0) : Int))) 0 (Int.toNat v5), ByteArray.extract (ByteArray.extract x0 6 (Int.toNat (↑(ByteArray.size x0) : Int))) (Int.toNat (v5 + 1)) (Int.toNat v6), ByteArray.extract (ByteArray.extract x0 6 (Int.toNat (↑(ByteArray.size x0) : Int))) (Int.toNat (v6 + 1)) (Int.toNat (↑(ByteArray.size (ByteArray.extract x0 6 (Int.toNat (↑(ByteArray.size x0) : Int)))) : Int)), ())) = true
        · rw [if_pos b2] at h
          subst h
          exact AtV.fin Tryd.func10 tabOk ext10Ok mixed (p10_12 v6 x0 v5) ⟨b0, rfl, b1, s0, s1, s2, s3, s4, s5, s6, s7, s8, trivial, b2, trivial⟩
        · rw [if_neg b2] at h
          replace b2 := Bool.eq_false_iff.2 b2
          subst h
          exact AtV.fin Tryd.func10 tabOk ext10Ok mixed (p10_13 v6 x0 v5) ⟨b0, rfl, b1, s0, s1, s2, s3, s4, s5, s6, s7, s8, trivial, b2, trivial⟩



/-- How many bytes stand ahead of the next blank. -/
def nx10 : List UInt8 → Nat
  | [] => 0
  | b :: r => if b.toNat = 32 then 0 else nx10 r + 1
def rs10 (x0 : ByteArray) : ByteArray := ByteArray.extract x0 6 x0.size
def blk10 (r : ByteArray) (i k : Nat) : (ByteArray × ByteArray × ByteArray × Unit) := (ByteArray.extract r 0 i, ByteArray.extract r (i + 1) k, ByteArray.extract r (k + 1) r.size, ())
def ok10 (r : ByteArray) (i k : Nat) : Bool := decide (k < r.size) && g20_0 (blk10 r i k)
def fb10 (r : ByteArray) (i k : Nat) : (ByteArray × ByteArray × ByteArray × Unit) := if ok10 r i k = true then blk10 r i k else (ByteArray.empty, ByteArray.empty, ByteArray.empty, ())
def fc10 (r : ByteArray) (i k : Nat) : Int := if ok10 r i k = true then 0 else 9
def at10 (r : ByteArray) : Nat := nx10 r.data.toList
def to10 (r : ByteArray) : Nat := at10 r + 1 + nx10 (r.data.toList.drop (at10 r + 1))
def sum10 (x0 : ByteArray) : Bool := (!ByteArray.toList (ByteArray.extract x0 0 5) == ByteArray.toList (g18_0 (g19_0 (rs10 x0) 65535)))
def g10_0 (x0 : ByteArray) : (ByteArray × ByteArray × ByteArray × Unit) := if x0.size < 6 then (ByteArray.empty, ByteArray.empty, ByteArray.empty, ()) else if (x0.data.toList.getD 5 0).toNat ≠ 32 then (ByteArray.empty, ByteArray.empty, ByteArray.empty, ()) else if sum10 x0 = true then (ByteArray.empty, ByteArray.empty, ByteArray.empty, ()) else fb10 (rs10 x0) (at10 (rs10 x0)) (to10 (rs10 x0))
def g10_1 (x0 : ByteArray) : Int := if x0.size < 6 then 9 else if (x0.data.toList.getD 5 0).toNat ≠ 32 then 9 else if sum10 x0 = true then 10 else fc10 (rs10 x0) (at10 (rs10 x0)) (to10 (rs10 x0))
def P10 (x0 : ByteArray) : Prop := True

theorem end10 (r : ByteArray) (hr : r.size ≤ 9223372036854775801) (i k : Nat) (hi : i ≤ r.size) (hik : i + 1 ≤ k) (ds : List Dyn) (hd : ds = [⟨(.cons .str (.cons .str (.cons .str .unit))), fb10 r i k⟩, ⟨.int .i64, fc10 r i k⟩]) :
    (if (Decidable.decide ((k : Int) ≥ (r.size : Int))) = true then (ds = [Dyn.mk (.cons .str (.cons .str (.cons .str .unit))) (ByteArray.empty, ByteArray.empty, ByteArray.empty, ()), Dyn.mk (Ty.int IntKind.i64) 9]) else ((0 ≤ (i : Int)) ∧ ((i : Int) ≤ (r.size : Int)) ∧ ((InR IntKind.i64 ((i : Int) + 1)) ∧ ((0 ≤ (i : Int) + 1) ∧ ((i : Int) + 1 ≤ (k : Int)) ∧ ((k : Int) ≤ (r.size : Int)) ∧ ((InR IntKind.i64 ((k : Int) + 1)) ∧ ((0 ≤ (k : Int) + 1) ∧ ((k : Int) + 1 ≤ (r.size : Int)) ∧ (if (!g20_0 (ByteArray.extract r 0 i, ByteArray.extract r (Int.toNat ((i : Int) + 1)) k, ByteArray.extract r (Int.toNat ((k : Int) + 1)) r.size, ())) = true then (ds = [Dyn.mk (.cons .str (.cons .str (.cons .str .unit))) (ByteArray.empty, ByteArray.empty, ByteArray.empty, ()), Dyn.mk (Ty.int IntKind.i64) 9]) else (ds = [Dyn.mk (.cons .str (.cons .str (.cons .str .unit))) (ByteArray.extract r 0 i, ByteArray.extract r (Int.toNat ((i : Int) + 1)) k, ByteArray.extract r (Int.toNat ((k : Int) + 1)) r.size, ()), Dyn.mk (Ty.int IntKind.i64) 0])))))))) := by
  have e1 : Int.toNat ((i : Int) + 1) = i + 1 := by omega
  have e2 : Int.toNat ((k : Int) + 1) = k + 1 := by omega
  rw [e1, e2]
  unfold fb10 fc10 ok10 at hd
  by_cases hk : k < r.size
  · rw [if_neg (by simp; omega)]
    refine ⟨by omega, by omega, by rw [i64_iff]; omega, by omega, by omega, by omega, by rw [i64_iff]; omega, by omega, by omega, ?_⟩
    change if (!g20_0 (blk10 r i k)) = true then ds = [Dyn.mk (.cons .str (.cons .str (.cons .str .unit))) (ByteArray.empty, ByteArray.empty, ByteArray.empty, ()), Dyn.mk (Ty.int IntKind.i64) 9] else ds = [Dyn.mk (.cons .str (.cons .str (.cons .str .unit))) (blk10 r i k), Dyn.mk (Ty.int IntKind.i64) 0]
    rw [decide_eq_true hk, Bool.true_and] at hd
    cases hb : g20_0 (blk10 r i k) with
    | true => rw [hb] at hd; simpa using hd
    | false => rw [hb] at hd; simpa using hd
  · rw [if_pos (by simp; omega)]
    rw [decide_eq_false hk, Bool.false_and] at hd
    simpa using hd

theorem byte10 {b : UInt8} : (((b.toNat : Nat) : Int) != 32) = true ↔ b.toNat ≠ 32 := by
  rw [bne_iff_ne]
  constructor
  · intro h e; apply h; rw [e]; rfl
  · intro h e; apply h; omega

theorem runB10 (x0 : ByteArray) (hr : (rs10 x0).size ≤ 9223372036854775801) (i : Nat) (hi : i ≤ (rs10 x0).size) : ∀ (f k : Nat), i + 1 ≤ k → k ≤ (rs10 x0).size + 1 → (rs10 x0).size ≤ f + k →
    R10_10 (f + 1) (k : Int) x0 (i : Int) [⟨(.cons .str (.cons .str (.cons .str .unit))), fb10 (rs10 x0) i (k + nx10 ((rs10 x0).data.toList.drop k))⟩, ⟨.int .i64, fc10 (rs10 x0) i (k + nx10 ((rs10 x0).data.toList.drop k))⟩] := by
  have hll : (rs10 x0).data.toList.length = (rs10 x0).size := rfl
  have e0 : ByteArray.extract x0 6 x0.size = rs10 x0 := rfl
  intro f
  induction f with
  | zero =>
    intro k hk hk2 hf
    rw [R10_10]
    simp only [Int.toNat_natCast, e0]
    rw [if_neg (by simp; omega), List.drop_of_length_le (by omega)]
    exact end10 _ hr i k hi hk _ rfl
  | succ f ih =>
    intro k hk hk2 hf
    rw [R10_10]
    simp only [Int.toNat_natCast, e0]
    by_cases hlt : k < (rs10 x0).size
    · rw [if_pos (by simp; omega)]
      refine ⟨by omega, by omega, ?_⟩
      rw [drop_get (rs10 x0).data.toList k 0 (by omega)]
      by_cases hb : ((rs10 x0).data.toList.getD k 0).toNat = 32
      · rw [if_neg (by rw [byte10]; exact fun h => h hb)]
        unfold nx10
        rw [if_pos hb]
        exact end10 _ hr i k hi hk _ rfl
      · rw [if_pos (by rw [byte10]; exact hb)]
        unfold nx10
        rw [if_neg hb]
        have e1 : (k : Int) + 1 = ((k + 1 : Nat) : Int) := by omega
        have e2 : k + (nx10 (List.drop (k + 1) (rs10 x0).data.toList) + 1) = k + 1 + nx10 (List.drop (k + 1) (rs10 x0).data.toList) := by omega
        rw [e1, e2]
        exact ⟨by rw [i64_iff]; omega, ih (k + 1) (by omega) (by omega) (by omega)⟩
    · rw [if_neg (by simp; omega), List.drop_of_length_le (by omega)]
      exact end10 _ hr i k hi hk _ rfl

theorem runA10 (x0 : ByteArray) (hr : (rs10 x0).size ≤ 9223372036854775801) : ∀ (j i : Nat), i + j = (rs10 x0).size →
    R10_7 (j + 1 + ((rs10 x0).size + 1)) (i : Int) x0 [⟨(.cons .str (.cons .str (.cons .str .unit))), fb10 (rs10 x0) (i + nx10 ((rs10 x0).data.toList.drop i)) (i + nx10 ((rs10 x0).data.toList.drop i) + 1 + nx10 ((rs10 x0).data.toList.drop (i + nx10 ((rs10 x0).data.toList.drop i) + 1)))⟩, ⟨.int .i64, fc10 (rs10 x0) (i + nx10 ((rs10 x0).data.toList.drop i)) (i + nx10 ((rs10 x0).data.toList.drop i) + 1 + nx10 ((rs10 x0).data.toList.drop (i + nx10 ((rs10 x0).data.toList.drop i) + 1)))⟩] := by
  have hll : (rs10 x0).data.toList.length = (rs10 x0).size := rfl
  have e0 : ByteArray.extract x0 6 x0.size = rs10 x0 := rfl
  intro j
  induction j with
  | zero =>
    intro i hi
    rw [show 0 + 1 + ((rs10 x0).size + 1) = ((rs10 x0).size + 1) + 1 by omega, R10_7]
    simp only [Int.toNat_natCast, e0]
    rw [if_neg (by simp; omega), List.drop_of_length_le (show (rs10 x0).data.toList.length ≤ i by omega)]
    have e1 : (i : Int) + 1 = ((i + 1 : Nat) : Int) := by omega
    rw [e1]
    exact ⟨by rw [i64_iff]; omega, runB10 x0 hr i (by omega) _ (i + 1) (by omega) (by omega) (by omega)⟩
  | succ j ih =>
    intro i hi
    rw [show j + 1 + 1 + ((rs10 x0).size + 1) = (j + 1 + ((rs10 x0).size + 1)) + 1 by omega, R10_7]
    simp only [Int.toNat_natCast, e0]
    have e1 : (i : Int) + 1 = ((i + 1 : Nat) : Int) := by omega
    rw [if_pos (by simp; omega)]
    refine ⟨by omega, by omega, ?_⟩
    rw [drop_get (rs10 x0).data.toList i 0 (by omega)]
    by_cases hb : ((rs10 x0).data.toList.getD i 0).toNat = 32
    · rw [if_neg (by rw [byte10]; exact fun h => h hb)]
      have en : nx10 ((rs10 x0).data.toList.getD i 0 :: List.drop (i + 1) (rs10 x0).data.toList) = 0 := by unfold nx10; rw [if_pos hb]
      rw [en, e1]
      exact ⟨by rw [i64_iff]; omega, by rw [show j + 1 + ((rs10 x0).size + 1) = (j + 1 + (rs10 x0).size) + 1 by omega]; exact runB10 x0 hr i (by omega) _ (i + 1) (by omega) (by omega) (by omega)⟩
    · rw [if_pos (by rw [byte10]; exact hb)]
      have en : nx10 ((rs10 x0).data.toList.getD i 0 :: List.drop (i + 1) (rs10 x0).data.toList) = nx10 (List.drop (i + 1) (rs10 x0).data.toList) + 1 := by
        conv => lhs; unfold nx10
        rw [if_neg hb]
      rw [en, e1, show i + (nx10 (List.drop (i + 1) (rs10 x0).data.toList) + 1) = i + 1 + nx10 (List.drop (i + 1) (rs10 x0).data.toList) by omega]
      exact ⟨by rw [i64_iff]; omega, ih (i + 1) (by omega)⟩

theorem top10 (x0 : ByteArray) (hm : x0.size ≤ maxLen) : ∃ n, R10 n x0 [⟨(.cons .str (.cons .str (.cons .str .unit))), g10_0 x0⟩, ⟨.int .i64, g10_1 x0⟩] := by
  have e0 : ByteArray.extract x0 6 x0.size = rs10 x0 := rfl
  have hr : (rs10 x0).size ≤ 9223372036854775801 := by
    have hm' : x0.size ≤ 9223372036854775807 := hm
    have es : (rs10 x0).size = min x0.size x0.size - 6 := ByteArray.size_extract
    rw [es, Nat.min_self]; omega
  refine ⟨((rs10 x0).size + 1 + ((rs10 x0).size + 1)) + 1, ?_⟩
  rw [R10]
  simp only [Int.toNat_natCast, e0]
  unfold g10_0 g10_1
  by_cases h1 : x0.size < 6
  · rw [if_pos (by simp; omega), if_pos h1, if_pos h1]
  · rw [if_neg (by simp; omega), if_neg h1, if_neg h1]
    refine ⟨by omega, ?_⟩
    by_cases h2 : (x0.data.toList.getD 5 0).toNat = 32
    · rw [if_neg (by rw [byte10]; exact fun h => h h2), if_neg (show ¬ ((x0.data.toList.getD 5 0).toNat ≠ 32) from fun h => h h2), if_neg (show ¬ ((x0.data.toList.getD 5 0).toNat ≠ 32) from fun h => h h2)]
      refine ⟨by omega, by omega, ?_⟩
      by_cases h3 : sum10 x0 = true
      · have h3' : (!ByteArray.toList (ByteArray.extract x0 0 5) == ByteArray.toList (g18_0 (g19_0 (rs10 x0) 65535))) = true := h3
        rw [if_pos h3, if_pos h3, if_pos h3']
      · have h3' : ¬ (!ByteArray.toList (ByteArray.extract x0 0 5) == ByteArray.toList (g18_0 (g19_0 (rs10 x0) 65535))) = true := h3
        rw [if_neg h3, if_neg h3, if_neg h3']
        have := runA10 x0 hr (rs10 x0).size 0 (by omega)
        simp only [Nat.zero_add, List.drop_zero] at this
        exact this
    · rw [if_pos (by rw [byte10]; exact h2), if_pos h2, if_pos h2]

def S10 : Am.Spec := { sig := sig10, pre := fun ⟨x0, _⟩ => P10 x0, res := fun ⟨x0, _⟩ => [⟨(.cons .str (.cons .str (.cons .str .unit))), g10_0 x0⟩, ⟨.int .i64, g10_1 x0⟩] }
theorem con10 : Contract Tryd.prog 10 S10 := contract_of Tryd.func10 hb10 (Nat.le_of_ble_eq_true (by kernel_rfl)) (fun ⟨x0, _⟩ h hwf w0 O q =>
  let ⟨n, hn⟩ := top10 x0 hwf.1
  (snd10 n).1 x0 _ hn w0 O q)

end Go.Proofs.YticibijneahllaaDoor

/- Function 21 (spec.l29Before): its runs between cut points. Written by a program of this repo (gen). -/
set_option linter.unusedVariables false
set_option linter.unusedSimpArgs false
set_option maxRecDepth 100000
namespace Go.Proofs.YticibijneahllaaDoor
open Go Go.Am Go.Proofs
def ext21 : Ext := []
theorem ext21Ok : ExtOk Tryd.prog ext21 := trivial
/-! Function 21. -/
noncomputable def b21 : Code := bodyOf Tryd.f21
theorem hb21 : Tryd.f21.body = some b21 := by kernel_rfl
def sig21 : List AT := [AT.p (Ty.cons Ty.str (Ty.cons Ty.str (Ty.cons Ty.str Ty.unit))), AT.p (Ty.cons Ty.str (Ty.cons Ty.str (Ty.cons Ty.str Ty.unit)))]
def tys21 : List Ty := [Ty.bool]
def P21 (x0 : ByteArray × ByteArray × ByteArray × Unit) (x1 : ByteArray × ByteArray × ByteArray × Unit) : Prop := True
def g21_0 (x0 : ByteArray × ByteArray × ByteArray × Unit) (x1 : ByteArray × ByteArray × ByteArray × Unit) : Bool := (if (Op.bytesLess (ByteArray.toList (Prod.fst x0)) (ByteArray.toList (Prod.fst x1))) = true then Bool.true else (if (ByteArray.toList (Prod.fst x0) == ByteArray.toList (Prod.fst x1)) = true then Op.bytesLess (ByteArray.toList (Prod.fst (Prod.snd x0))) (ByteArray.toList (Prod.fst (Prod.snd x1))) else Bool.false))
theorem p21_0 (x0 : ByteArray × ByteArray × ByteArray × Unit) (x1 : ByteArray × ByteArray × ByteArray × Unit) : runF tab ext21 false 36 [] 2000 [] tys21 Tryd.f21.results [true] [.code b21] (entE 0 0 sig21 (x0, x1, ())) (entL sig21 (x0, x1, ())) = some ([Dyn.mk Ty.bool Bool.true], [], [Op.bytesLess (ByteArray.toList (Prod.fst x0)) (ByteArray.toList (Prod.fst x1)) = Bool.true]) := by kernel_rfl
theorem p21_1 (x0 : ByteArray × ByteArray × ByteArray × Unit) (x1 : ByteArray × ByteArray × ByteArray × Unit) : runF tab ext21 false 36 [] 2000 [] tys21 Tryd.f21.results [false, true] [.code b21] (entE 0 0 sig21 (x0, x1, ())) (entL sig21 (x0, x1, ())) = some ([Dyn.mk Ty.bool (Op.bytesLess (ByteArray.toList (Prod.fst (Prod.snd x0))) (ByteArray.toList (Prod.fst (Prod.snd x1))))], [], [Op.bytesLess (ByteArray.toList (Prod.fst x0)) (ByteArray.toList (Prod.fst x1)) = Bool.false, (ByteArray.toList (Prod.fst x0) == ByteArray.toList (Prod.fst x1)) = Bool.true]) := by kernel_rfl
theorem p21_2 (x0 : ByteArray × ByteArray × ByteArray × Unit) (x1 : ByteArray × ByteArray × ByteArray × Unit) : runF tab ext21 false 36 [] 2000 [] tys21 Tryd.f21.results [false, false] [.code b21] (entE 0 0 sig21 (x0, x1, ())) (entL sig21 (x0, x1, ())) = some ([Dyn.mk Ty.bool Bool.false], [], [Op.bytesLess (ByteArray.toList (Prod.fst x0)) (ByteArray.toList (Prod.fst x1)) = Bool.false, (ByteArray.toList (Prod.fst x0) == ByteArray.toList (Prod.fst x1)) = Bool.false]) := by kernel_rfl
theorem at21 (x0 : ByteArray × ByteArray × ByteArray × Unit) (x1 : ByteArray × ByteArray × ByteArray × Unit) (h : P21 x0 x1) (w0 : World) (O : List Nat) (q : Nat → Value) : AtV Tryd.prog 21 (PostR [⟨Ty.bool, g21_0 x0 x1⟩] [] [] q w0 O) 36 w0 O q [] [.code b21] (entE 0 0 sig21 (x0, x1, ())) (entL sig21 (x0, x1, ())) := by
  unfold P21 at h
  unfold g21_0
  by_cases b0 : (Op.bytesLess (ByteArray.toList (Prod.fst x0)) (ByteArray.toList (Prod.fst x1))) = true
  · try simp only [if_pos b0] at h ⊢
    exact AtV.fin Tryd.func21 tabOk ext21Ok mixed (p21_0 x0 x1) ⟨b0, trivial⟩
  · try simp only [if_neg b0] at h ⊢
    replace b0 := Bool.eq_false_iff.2 b0
    by_cases b1 : (ByteArray.toList (Prod.fst x0) == ByteArray.toList (Prod.fst x1)) = true
    · try simp only [if_pos b1] at h ⊢
      exact AtV.fin Tryd.func21 tabOk ext21Ok mixed (p21_1 x0 x1) ⟨b0, b1, trivial⟩
    · try simp only [if_neg b1] at h ⊢
      replace b1 := Bool.eq_false_iff.2 b1
      exact AtV.fin Tryd.func21 tabOk ext21Ok mixed (p21_2 x0 x1) ⟨b0, b1, trivial⟩

def S21 : Am.Spec := { sig := sig21, pre := fun ⟨x0, x1, _⟩ => P21 x0 x1, res := fun ⟨x0, x1, _⟩ => [⟨Ty.bool, g21_0 x0 x1⟩] }
theorem con21 : Contract Tryd.prog 21 S21 := contract_of Tryd.func21 hb21 (Nat.le_of_ble_eq_true (by kernel_rfl)) (fun ⟨x0, x1, _⟩ h _ w0 O q => at21 x0 x1 h w0 O q)


end Go.Proofs.YticibijneahllaaDoor

/- Function 11 (spec.l29Put): its runs between cut points. Written by a program of this repo (gen). -/
set_option linter.unusedVariables false
set_option linter.unusedSimpArgs false
set_option maxRecDepth 100000
namespace Go.Proofs.YticibijneahllaaDoor
open Go Go.Am Go.Proofs
def ext11 : Ext := [(21, S21)]
theorem call11_21 : Callable Tryd.prog 21 := ⟨Tryd.f21, Tryd.func21, by kernel_rfl, by kernel_rfl⟩
theorem ext11Ok : ExtOk Tryd.prog ext11 := ⟨⟨call11_21, con21⟩, trivial⟩
/-! Function 11. -/
noncomputable def b11 : Code := bodyOf Tryd.f11
theorem hb11 : Tryd.f11.body = some b11 := by kernel_rfl
def sig11 : List AT := [AT.v (Ty.sl (Ty.cons Ty.str (Ty.cons Ty.str (Ty.cons Ty.str Ty.unit)))), AT.v (Ty.cons Ty.str (Ty.cons Ty.str (Ty.cons Ty.str Ty.unit)))]
def tys11 : List Ty := [Ty.sl (Ty.cons Ty.str (Ty.cons Ty.str (Ty.cons Ty.str Ty.unit)))]
def E11_4 (v6 : Bool) (v7 : Int) (h1 : List (ByteArray × ByteArray × ByteArray × Unit)) (x0 : List (ByteArray × ByteArray × ByteArray × Unit)) (x1 : ByteArray × ByteArray × ByteArray × Unit) : Env := [(0, PV.a (Atom.sl (Ty.cons Ty.str (Ty.cons Ty.str (Ty.cons Ty.str Ty.unit))) x0)), (3, PV.a (Atom.optr 0 0 [])), (5, PV.a (Atom.osl 1 Option.none)), (6, PV.a (Atom.val (Value.bool v6))), (7, PV.a (Atom.val (Value.int IntKind.i64 v7)))]
def L11_4 (v6 : Bool) (v7 : Int) (h1 : List (ByteArray × ByteArray × ByteArray × Unit)) (x0 : List (ByteArray × ByteArray × ByteArray × Unit)) (x1 : ByteArray × ByteArray × ByteArray × Unit) : Heap := [Option.some (Arr.mk (Ty.cons Ty.str (Ty.cons Ty.str (Ty.cons Ty.str Ty.unit))) [x1] Bool.true), Option.some (Arr.mk (Ty.cons Ty.str (Ty.cons Ty.str (Ty.cons Ty.str Ty.unit))) h1 Bool.false)]
mutual
def R11 : Nat → List (ByteArray × ByteArray × ByteArray × Unit) → ByteArray × ByteArray × ByteArray × Unit → List Dyn → Prop
  | 0, _, _, _ => False
  | n + 1, x0, x1, ds => (R11_4 n (Bool.false) (0) ([]) (x0) (x1) ds)
def R11_4 : Nat → Bool → Int → List (ByteArray × ByteArray × ByteArray × Unit) → List (ByteArray × ByteArray × ByteArray × Unit) → ByteArray × ByteArray × ByteArray × Unit → List Dyn → Prop
  | 0, _, _, _, _, _, _ => False
  | n + 1, v6, v7, h1, x0, x1, ds => (if (Decidable.decide (v7 < (↑(List.length x0) : Int))) = true then (if (!v6) = true then ((0 ≤ v7) ∧ (v7 < (↑(List.length x0) : Int)) ∧ (if (!g21_0 (List.getD x0 (Int.toNat v7) (ByteArray.empty, ByteArray.empty, ByteArray.empty, ())) x1) = true then (((List.length h1 + 1) * 48 ≤ 140737488355328) ∧ ((0 ≤ v7) ∧ (v7 < (↑(List.length x0) : Int)) ∧ (if (!ByteArray.toList (Prod.fst (List.getD x0 (Int.toNat v7) (ByteArray.empty, ByteArray.empty, ByteArray.empty, ()))) == ByteArray.toList (Prod.fst x1)) = true then ((0 ≤ v7) ∧ (v7 < (↑(List.length x0) : Int)) ∧ (((List.length (h1 ++ [x1]) + 1) * 48 ≤ 140737488355328) ∧ ((InR IntKind.i64 (v7 + 1)) ∧ (R11_4 n (Bool.true) (v7 + 1) (h1 ++ [x1] ++ [List.getD x0 (Int.toNat v7) (ByteArray.empty, ByteArray.empty, ByteArray.empty, ())]) (x0) (x1) ds)))) else ((0 ≤ v7) ∧ (v7 < (↑(List.length x0) : Int)) ∧ (if (!ByteArray.toList (Prod.fst (Prod.snd (List.getD x0 (Int.toNat v7) (ByteArray.empty, ByteArray.empty, ByteArray.empty, ())))) == ByteArray.toList (Prod.fst (Prod.snd x1))) = true then ((0 ≤ v7) ∧ (v7 < (↑(List.length x0) : Int)) ∧ (((List.length (h1 ++ [x1]) + 1) * 48 ≤ 140737488355328) ∧ ((InR IntKind.i64 (v7 + 1)) ∧ (R11_4 n (Bool.true) (v7 + 1) (h1 ++ [x1] ++ [List.getD x0 (Int.toNat v7) (ByteArray.empty, ByteArray.empty, ByteArray.empty, ())]) (x0) (x1) ds)))) else ((InR IntKind.i64 (v7 + 1)) ∧ (R11_4 n (Bool.true) (v7 + 1) (h1 ++ [x1]) (x0) (x1) ds))))))) else ((0 ≤ v7) ∧ (v7 < (↑(List.length x0) : Int)) ∧ (if (!ByteArray.toList (Prod.fst (List.getD x0 (Int.toNat v7) (ByteArray.empty, ByteArray.empty, ByteArray.empty, ()))) == ByteArray.toList (Prod.fst x1)) = true then ((0 ≤ v7) ∧ (v7 < (↑(List.length x0) : Int)) ∧ (((List.length h1 + 1) * 48 ≤ 140737488355328) ∧ ((InR IntKind.i64 (v7 + 1)) ∧ (R11_4 n (v6) (v7 + 1) (h1 ++ [List.getD x0 (Int.toNat v7) (ByteArray.empty, ByteArray.empty, ByteArray.empty, ())]) (x0) (x1) ds)))) else ((0 ≤ v7) ∧ (v7 < (↑(List.length x0) : Int)) ∧ (if (!ByteArray.toList (Prod.fst (Prod.snd (List.getD x0 (Int.toNat v7) (ByteArray.empty, ByteArray.empty, ByteArray.empty, ())))) == ByteArray.toList (Prod.fst (Prod.snd x1))) = true then ((0 ≤ v7) ∧ (v7 < (↑(List.length x0) : Int)) ∧ (((List.length h1 + 1) * 48 ≤ 140737488355328) ∧ ((InR IntKind.i64 (v7 + 1)) ∧ (R11_4 n (v6) (v7 + 1) (h1 ++ [List.getD x0 (Int.toNat v7) (ByteArray.empty, ByteArray.empty, ByteArray.empty, ())]) (x0) (x1) ds)))) else ((InR IntKind.i64 (v7 + 1)) ∧ (R11_4 n (v6) (v7 + 1) (h1) (x0) (x1) ds)))))))) else ((0 ≤ v7) ∧ (v7 < (↑(List.length x0) : Int)) ∧ (if (!ByteArray.toList (Prod.fst (List.getD x0 (Int.toNat v7) (ByteArray.empty, ByteArray.empty, ByteArray.empty, ()))) == ByteArray.toList (Prod.fst x1)) = true then ((0 ≤ v7) ∧ (v7 < (↑(List.length x0) : Int)) ∧ (((List.length h1 + 1) * 48 ≤ 140737488355328) ∧ ((InR IntKind.i64 (v7 + 1)) ∧ (R11_4 n (v6) (v7 + 1) (h1 ++ [List.getD x0 (Int.toNat v7) (ByteArray.empty, ByteArray.empty, ByteArray.empty, ())]) (x0) (x1) ds)))) else ((0 ≤ v7) ∧ (v7 < (↑(List.length x0) : Int)) ∧ (if (!ByteArray.toList (Prod.fst (Prod.snd (List.getD x0 (Int.toNat v7) (ByteArray.empty, ByteArray.empty, ByteArray.empty, ())))) == ByteArray.toList (Prod.fst (Prod.snd x1))) = true then ((0 ≤ v7) ∧ (v7 < (↑(List.length x0) : Int)) ∧ (((List.length h1 + 1) * 48 ≤ 140737488355328) ∧ ((InR IntKind.i64 (v7 + 1)) ∧ (R11_4 n (v6) (v7 + 1) (h1 ++ [List.getD x0 (Int.toNat v7) (ByteArray.empty, ByteArray.empty, ByteArray.empty, ())]) (x0) (x1) ds)))) else ((InR IntKind.i64 (v7 + 1)) ∧ (R11_4 n (v6) (v7 + 1) (h1) (x0) (x1) ds))))))) else (if (!v6) = true then (((List.length h1 + 1) * 48 ≤ 140737488355328) ∧ (ds = [Dyn.mk (Ty.sl (Ty.cons Ty.str (Ty.cons Ty.str (Ty.cons Ty.str Ty.unit)))) (h1 ++ [x1])])) else (ds = [Dyn.mk (Ty.sl (Ty.cons Ty.str (Ty.cons Ty.str (Ty.cons Ty.str Ty.unit)))) h1])))
end
theorem p11_0 (x0 : List (ByteArray × ByteArray × ByteArray × Unit)) (x1 : ByteArray × ByteArray × ByteArray × Unit) : Am.runN tab ext11 false 60 [] 2000 [] [] [0, 3, 5, 6, 7] [0, 1] [] [.code b11] (entE 0 0 sig11 (x0, x1, ())) (entL sig11 (x0, x1, ())) = some (cutAt b11 4, E11_4 (Bool.false) (0) ([]) (x0) (x1), L11_4 (Bool.false) (0) ([]) (x0) (x1), []) := by kernel_rfl
theorem p11_1 (v6 : Bool) (v7 : Int) (h1 : List (ByteArray × ByteArray × ByteArray × Unit)) (x0 : List (ByteArray × ByteArray × ByteArray × Unit)) (x1 : ByteArray × ByteArray × ByteArray × Unit) : Am.runN tab ext11 false 60 [] 2000 [] [] [0, 3, 5, 6, 7] [0, 1] [true, true, true, true, true] (cutAt b11 4) (E11_4 v6 v7 h1 x0 x1) (L11_4 v6 v7 h1 x0 x1) = some (cutAt b11 4, E11_4 (Bool.true) (v7 + 1) (h1 ++ [x1] ++ [List.getD x0 (Int.toNat v7) (ByteArray.empty, ByteArray.empty, ByteArray.empty, ())]) (x0) (x1), L11_4 (Bool.true) (v7 + 1) (h1 ++ [x1] ++ [List.getD x0 (Int.toNat v7) (ByteArray.empty, ByteArray.empty, ByteArray.empty, ())]) (x0) (x1), [Decidable.decide (v7 < (↑(List.length x0) : Int)) = Bool.true, (!v6) = Bool.true, 0 ≤ v7, v7 < (↑(List.length x0) : Int), True, (!g21_0 (List.getD x0 (Int.toNat v7) (ByteArray.empty, ByteArray.empty, ByteArray.empty, ())) x1) = Bool.true, (List.length h1 + 1) * 48 ≤ 140737488355328, 0 ≤ v7, v7 < (↑(List.length x0) : Int), (!ByteArray.toList (Prod.fst (List.getD x0 (Int.toNat v7) (ByteArray.empty, ByteArray.empty, ByteArray.empty, ()))) == ByteArray.toList (Prod.fst x1)) = Bool.true, Bool.true = Bool.true, 0 ≤ v7, v7 < (↑(List.length x0) : Int), (List.length (h1 ++ [x1]) + 1) * 48 ≤ 140737488355328, InR IntKind.i64 (v7 + 1)]) := by kernel_rfl
theorem p11_2 (v6 : Bool) (v7 : Int) (h1 : List (ByteArray × ByteArray × ByteArray × Unit)) (x0 : List (ByteArray × ByteArray × ByteArray × Unit)) (x1 : ByteArray × ByteArray × ByteArray × Unit) : Am.runN tab ext11 false 60 [] 2000 [] [] [0, 3, 5, 6, 7] [0, 1] [true, true, true, false, true] (cutAt b11 4) (E11_4 v6 v7 h1 x0 x1) (L11_4 v6 v7 h1 x0 x1) = some (cutAt b11 4, E11_4 (Bool.true) (v7 + 1) (h1 ++ [x1] ++ [List.getD x0 (Int.toNat v7) (ByteArray.empty, ByteArray.empty, ByteArray.empty, ())]) (x0) (x1), L11_4 (Bool.true) (v7 + 1) (h1 ++ [x1] ++ [List.getD x0 (Int.toNat v7) (ByteArray.empty, ByteArray.empty, ByteArray.empty, ())]) (x0) (x1), [Decidable.decide (v7 < (↑(List.length x0) : Int)) = Bool.true, (!v6) = Bool.true, 0 ≤ v7, v7 < (↑(List.length x0) : Int), True, (!g21_0 (List.getD x0 (Int.toNat v7) (ByteArray.empty, ByteArray.empty, ByteArray.empty, ())) x1) = Bool.true, (List.length h1 + 1) * 48 ≤ 140737488355328, 0 ≤ v7, v7 < (↑(List.length x0) : Int), (!ByteArray.toList (Prod.fst (List.getD x0 (Int.toNat v7) (ByteArray.empty, ByteArray.empty, ByteArray.empty, ()))) == ByteArray.toList (Prod.fst x1)) = Bool.false, 0 ≤ v7, v7 < (↑(List.length x0) : Int), (!ByteArray.toList (Prod.fst (Prod.snd (List.getD x0 (Int.toNat v7) (ByteArray.empty, ByteArray.empty, ByteArray.empty, ())))) == ByteArray.toList (Prod.fst (Prod.snd x1))) = Bool.true, 0 ≤ v7, v7 < (↑(List.length x0) : Int), (List.length (h1 ++ [x1]) + 1) * 48 ≤ 140737488355328, InR IntKind.i64 (v7 + 1)]) := by kernel_rfl
theorem p11_3 (v6 : Bool) (v7 : Int) (h1 : List (ByteArray × ByteArray × ByteArray × Unit)) (x0 : List (ByteArray × ByteArray × ByteArray × Unit)) (x1 : ByteArray × ByteArray × ByteArray × Unit) : Am.runN tab ext11 false 60 [] 2000 [] [] [0, 3, 5, 6, 7] [0, 1] [true, true, true, false, false] (cutAt b11 4) (E11_4 v6 v7 h1 x0 x1) (L11_4 v6 v7 h1 x0 x1) = some (cutAt b11 4, E11_4 (Bool.true) (v7 + 1) (h1 ++ [x1]) (x0) (x1), L11_4 (Bool.true) (v7 + 1) (h1 ++ [x1]) (x0) (x1), [Decidable.decide (v7 < (↑(List.length x0) : Int)) = Bool.true, (!v6) = Bool.true, 0 ≤ v7, v7 < (↑(List.length x0) : Int), True, (!g21_0 (List.getD x0 (Int.toNat v7) (ByteArray.empty, ByteArray.empty, ByteArray.empty, ())) x1) = Bool.true, (List.length h1 + 1) * 48 ≤ 140737488355328, 0 ≤ v7, v7 < (↑(List.length x0) : Int), (!ByteArray.toList (Prod.fst (List.getD x0 (Int.toNat v7) (ByteArray.empty, ByteArray.empty, ByteArray.empty, ()))) == ByteArray.toList (Prod.fst x1)) = Bool.false, 0 ≤ v7, v7 < (↑(List.length x0) : Int), (!ByteArray.toList (Prod.fst (Prod.snd (List.getD x0 (Int.toNat v7) (ByteArray.empty, ByteArray.empty, ByteArray.empty, ())))) == ByteArray.toList (Prod.fst (Prod.snd x1))) = Bool.false, InR IntKind.i64 (v7 + 1)]) := by kernel_rfl
theorem p11_4 (v6 : Bool) (v7 : Int) (h1 : List (ByteArray × ByteArray × ByteArray × Unit)) (x0 : List (ByteArray × ByteArray × ByteArray × Unit)) (x1 : ByteArray × ByteArray × ByteArray × Unit) : Am.runN tab ext11 false 60 [] 2000 [] [] [0, 3, 5, 6, 7] [0, 1] [true, true, false, true, true] (cutAt b11 4) (E11_4 v6 v7 h1 x0 x1) (L11_4 v6 v7 h1 x0 x1) = some (cutAt b11 4, E11_4 (v6) (v7 + 1) (h1 ++ [List.getD x0 (Int.toNat v7) (ByteArray.empty, ByteArray.empty, ByteArray.empty, ())]) (x0) (x1), L11_4 (v6) (v7 + 1) (h1 ++ [List.getD x0 (Int.toNat v7) (ByteArray.empty, ByteArray.empty, ByteArray.empty, ())]) (x0) (x1), [Decidable.decide (v7 < (↑(List.length x0) : Int)) = Bool.true, (!v6) = Bool.true, 0 ≤ v7, v7 < (↑(List.length x0) : Int), True, (!g21_0 (List.getD x0 (Int.toNat v7) (ByteArray.empty, ByteArray.empty, ByteArray.empty, ())) x1) = Bool.false, 0 ≤ v7, v7 < (↑(List.length x0) : Int), (!ByteArray.toList (Prod.fst (List.getD x0 (Int.toNat v7) (ByteArray.empty, ByteArray.empty, ByteArray.empty, ()))) == ByteArray.toList (Prod.fst x1)) = Bool.true, Bool.true = Bool.true, 0 ≤ v7, v7 < (↑(List.length x0) : Int), (List.length h1 + 1) * 48 ≤ 140737488355328, InR IntKind.i64 (v7 + 1)]) := by kernel_rfl
theorem p11_5 (v6 : Bool) (v7 : Int) (h1 : List (ByteArray × ByteArray × ByteArray × Unit)) (x0 : List (ByteArray × ByteArray × ByteArray × Unit)) (x1 : ByteArray × ByteArray × ByteArray × Unit) : Am.runN tab ext11 false 60 [] 2000 [] [] [0, 3, 5, 6, 7] [0, 1] [true, true, false, false, true] (cutAt b11 4) (E11_4 v6 v7 h1 x0 x1) (L11_4 v6 v7 h1 x0 x1) = some (cutAt b11 4, E11_4 (v6) (v7 + 1) (h1 ++ [List.getD x0 (Int.toNat v7) (ByteArray.empty, ByteArray.empty, ByteArray.empty, ())]) (x0) (x1), L11_4 (v6) (v7 + 1) (h1 ++ [List.getD x0 (Int.toNat v7) (ByteArray.empty, ByteArray.empty, ByteArray.empty, ())]) (x0) (x1), [Decidable.decide (v7 < (↑(List.length x0) : Int)) = Bool.true, (!v6) = Bool.true, 0 ≤ v7, v7 < (↑(List.length x0) : Int), True, (!g21_0 (List.getD x0 (Int.toNat v7) (ByteArray.empty, ByteArray.empty, ByteArray.empty, ())) x1) = Bool.false, 0 ≤ v7, v7 < (↑(List.length x0) : Int), (!ByteArray.toList (Prod.fst (List.getD x0 (Int.toNat v7) (ByteArray.empty, ByteArray.empty, ByteArray.empty, ()))) == ByteArray.toList (Prod.fst x1)) = Bool.false, 0 ≤ v7, v7 < (↑(List.length x0) : Int), (!ByteArray.toList (Prod.fst (Prod.snd (List.getD x0 (Int.toNat v7) (ByteArray.empty, ByteArray.empty, ByteArray.empty, ())))) == ByteArray.toList (Prod.fst (Prod.snd x1))) = Bool.true, 0 ≤ v7, v7 < (↑(List.length x0) : Int), (List.length h1 + 1) * 48 ≤ 140737488355328, InR IntKind.i64 (v7 + 1)]) := by kernel_rfl
theorem p11_6 (v6 : Bool) (v7 : Int) (h1 : List (ByteArray × ByteArray × ByteArray × Unit)) (x0 : List (ByteArray × ByteArray × ByteArray × Unit)) (x1 : ByteArray × ByteArray × ByteArray × Unit) : Am.runN tab ext11 false 60 [] 2000 [] [] [0, 3, 5, 6, 7] [0, 1] [true, true, false, false, false] (cutAt b11 4) (E11_4 v6 v7 h1 x0 x1) (L11_4 v6 v7 h1 x0 x1) = some (cutAt b11 4, E11_4 (v6) (v7 + 1) (h1) (x0) (x1), L11_4 (v6) (v7 + 1) (h1) (x0) (x1), [Decidable.decide (v7 < (↑(List.length x0) : Int)) = Bool.true, (!v6) = Bool.true, 0 ≤ v7, v7 < (↑(List.length x0) : Int), True, (!g21_0 (List.getD x0 (Int.toNat v7) (ByteArray.empty, ByteArray.empty, ByteArray.empty, ())) x1) = Bool.false, 0 ≤ v7, v7 < (↑(List.length x0) : Int), (!ByteArray.toList (Prod.fst (List.getD x0 (Int.toNat v7) (ByteArray.empty, ByteArray.empty, ByteArray.empty, ()))) == ByteArray.toList (Prod.fst x1)) = Bool.false, 0 ≤ v7, v7 < (↑(List.length x0) : Int), (!ByteArray.toList (Prod.fst (Prod.snd (List.getD x0 (Int.toNat v7) (ByteArray.empty, ByteArray.empty, ByteArray.empty, ())))) == ByteArray.toList (Prod.fst (Prod.snd x1))) = Bool.false, InR IntKind.i64 (v7 + 1)]) := by kernel_rfl
theorem p11_7 (v6 : Bool) (v7 : Int) (h1 : List (ByteArray × ByteArray × ByteArray × Unit)) (x0 : List (ByteArray × ByteArray × ByteArray × Unit)) (x1 : ByteArray × ByteArray × ByteArray × Unit) : Am.runN tab ext11 false 60 [] 2000 [] [] [0, 3, 5, 6, 7] [0, 1] [true, false, false, true, true] (cutAt b11 4) (E11_4 v6 v7 h1 x0 x1) (L11_4 v6 v7 h1 x0 x1) = some (cutAt b11 4, E11_4 (v6) (v7 + 1) (h1 ++ [List.getD x0 (Int.toNat v7) (ByteArray.empty, ByteArray.empty, ByteArray.empty, ())]) (x0) (x1), L11_4 (v6) (v7 + 1) (h1 ++ [List.getD x0 (Int.toNat v7) (ByteArray.empty, ByteArray.empty, ByteArray.empty, ())]) (x0) (x1), [Decidable.decide (v7 < (↑(List.length x0) : Int)) = Bool.true, (!v6) = Bool.false, Bool.false = Bool.false, 0 ≤ v7, v7 < (↑(List.length x0) : Int), (!ByteArray.toList (Prod.fst (List.getD x0 (Int.toNat v7) (ByteArray.empty, ByteArray.empty, ByteArray.empty, ()))) == ByteArray.toList (Prod.fst x1)) = Bool.true, Bool.true = Bool.true, 0 ≤ v7, v7 < (↑(List.length x0) : Int), (List.length h1 + 1) * 48 ≤ 140737488355328, InR IntKind.i64 (v7 + 1)]) := by kernel_rfl
theorem p11_8 (v6 : Bool) (v7 : Int) (h1 : List (ByteArray × ByteArray × ByteArray × Unit)) (x0 : List (ByteArray × ByteArray × ByteArray × Unit)) (x1 : ByteArray × ByteArray × ByteArray × Unit) : Am.runN tab ext11 false 60 [] 2000 [] [] [0, 3, 5, 6, 7] [0, 1] [true, false, false, false, true] (cutAt b11 4) (E11_4 v6 v7 h1 x0 x1) (L11_4 v6 v7 h1 x0 x1) = some (cutAt b11 4, E11_4 (v6) (v7 + 1) (h1 ++ [List.getD x0 (Int.toNat v7) (ByteArray.empty, ByteArray.empty, ByteArray.empty, ())]) (x0) (x1), L11_4 (v6) (v7 + 1) (h1 ++ [List.getD x0 (Int.toNat v7) (ByteArray.empty, ByteArray.empty, ByteArray.empty, ())]) (x0) (x1), [Decidable.decide (v7 < (↑(List.length x0) : Int)) = Bool.true, (!v6) = Bool.false, Bool.false = Bool.false, 0 ≤ v7, v7 < (↑(List.length x0) : Int), (!ByteArray.toList (Prod.fst (List.getD x0 (Int.toNat v7) (ByteArray.empty, ByteArray.empty, ByteArray.empty, ()))) == ByteArray.toList (Prod.fst x1)) = Bool.false, 0 ≤ v7, v7 < (↑(List.length x0) : Int), (!ByteArray.toList (Prod.fst (Prod.snd (List.getD x0 (Int.toNat v7) (ByteArray.empty, ByteArray.empty, ByteArray.empty, ())))) == ByteArray.toList (Prod.fst (Prod.snd x1))) = Bool.true, 0 ≤ v7, v7 < (↑(List.length x0) : Int), (List.length h1 + 1) * 48 ≤ 140737488355328, InR IntKind.i64 (v7 + 1)]) := by kernel_rfl
theorem p11_9 (v6 : Bool) (v7 : Int) (h1 : List (ByteArray × ByteArray × ByteArray × Unit)) (x0 : List (ByteArray × ByteArray × ByteArray × Unit)) (x1 : ByteArray × ByteArray × ByteArray × Unit) : Am.runN tab ext11 false 60 [] 2000 [] [] [0, 3, 5, 6, 7] [0, 1] [true, false, false, false, false] (cutAt b11 4) (E11_4 v6 v7 h1 x0 x1) (L11_4 v6 v7 h1 x0 x1) = some (cutAt b11 4, E11_4 (v6) (v7 + 1) (h1) (x0) (x1), L11_4 (v6) (v7 + 1) (h1) (x0) (x1), [Decidable.decide (v7 < (↑(List.length x0) : Int)) = Bool.true, (!v6) = Bool.false, Bool.false = Bool.false, 0 ≤ v7, v7 < (↑(List.length x0) : Int), (!ByteArray.toList (Prod.fst (List.getD x0 (Int.toNat v7) (ByteArray.empty, ByteArray.empty, ByteArray.empty, ()))) == ByteArray.toList (Prod.fst x1)) = Bool.false, 0 ≤ v7, v7 < (↑(List.length x0) : Int), (!ByteArray.toList (Prod.fst (Prod.snd (List.getD x0 (Int.toNat v7) (ByteArray.empty, ByteArray.empty, ByteArray.empty, ())))) == ByteArray.toList (Prod.fst (Prod.snd x1))) = Bool.false, InR IntKind.i64 (v7 + 1)]) := by kernel_rfl
theorem p11_10 (v6 : Bool) (v7 : Int) (h1 : List (ByteArray × ByteArray × ByteArray × Unit)) (x0 : List (ByteArray × ByteArray × ByteArray × Unit)) (x1 : ByteArray × ByteArray × ByteArray × Unit) : runF tab ext11 false 60 [] 2000 [] tys11 Tryd.f11.results [false, true] (cutAt b11 4) (E11_4 v6 v7 h1 x0 x1) (L11_4 v6 v7 h1 x0 x1) = some ([Dyn.mk (Ty.sl (Ty.cons Ty.str (Ty.cons Ty.str (Ty.cons Ty.str Ty.unit)))) (h1 ++ [x1])], [], [Decidable.decide (v7 < (↑(List.length x0) : Int)) = Bool.false, (!v6) = Bool.true, (List.length h1 + 1) * 48 ≤ 140737488355328]) := by kernel_rfl
theorem p11_11 (v6 : Bool) (v7 : Int) (h1 : List (ByteArray × ByteArray × ByteArray × Unit)) (x0 : List (ByteArray × ByteArray × ByteArray × Unit)) (x1 : ByteArray × ByteArray × ByteArray × Unit) : runF tab ext11 false 60 [] 2000 [] tys11 Tryd.f11.results [false, false] (cutAt b11 4) (E11_4 v6 v7 h1 x0 x1) (L11_4 v6 v7 h1 x0 x1) = some ([Dyn.mk (Ty.sl (Ty.cons Ty.str (Ty.cons Ty.str (Ty.cons Ty.str Ty.unit)))) h1], [], [Decidable.decide (v7 < (↑(List.length x0) : Int)) = Bool.false, (!v6) = Bool.false]) := by kernel_rfl
theorem snd11 : ∀ n, (∀ (x0 : List (ByteArray × ByteArray × ByteArray × Unit)) (x1 : ByteArray × ByteArray × ByteArray × Unit) ds, R11 n x0 x1 ds → ∀ w0 O q, AtV Tryd.prog 11 (PostR ds [] [] q w0 O) 60 w0 O q [] [.code b11] (entE 0 0 sig11 (x0, x1, ())) (entL sig11 (x0, x1, ()))) ∧ (∀ (v6 : Bool) (v7 : Int) (h1 : List (ByteArray × ByteArray × ByteArray × Unit)) (x0 : List (ByteArray × ByteArray × ByteArray × Unit)) (x1 : ByteArray × ByteArray × ByteArray × Unit) ds, R11_4 n v6 v7 h1 x0 x1 ds → ∀ w0 O q, AtV Tryd.prog 11 (PostR ds [] [] q w0 O) 60 w0 O q [] (cutAt b11 4) (E11_4 v6 v7 h1 x0 x1) (L11_4 v6 v7 h1 x0 x1)) := by
  intro n
  induction n with
  | zero => exact ⟨fun _ _ _ h => by simp only [R11] at h, fun _ _ _ _ _ _ h => by simp only [R11_4] at h⟩
  | succ n ih =>
  obtain ⟨ih, ih4⟩ := ih
  refine ⟨?_, ?_⟩
  · intro x0 x1 ds h w0 O q
    rw [R11] at h
    exact AtV.runN tabOk ext11Ok mixed (p11_0 x0 x1) trivial (ih4 _ _ _ _ _ _ h w0 O q)

  · intro v6 v7 h1 x0 x1 ds h w0 O q
    rw [R11_4] at h
    by_cases b0 : (Decidable.decide (v7 < (↑(List.length x0) : Int))) = true
    · rw [if_pos b0] at h
      by_cases b1 : (!v6) = true
      · rw [if_pos b1] at h
        obtain ⟨s0, s1, h⟩ := h
        by_cases b2 : (!g21_0 (List.getD x0 (Int.toNat v7) (ByteArray.empty, ByteArray.empty, ByteArray.empty, ())) x1) = true
        · rw [if_pos b2] at h
          obtain ⟨s2, h⟩ := h
          obtain ⟨s3, s4, h⟩ := h
          by_cases b3 : (!ByteArray.toList (Prod.fst (List.getD x0 (Int.toNat v7) (ByteArray.empty, ByteArray.empty, ByteArray.empty, ()))) == ByteArray.toList (Prod.fst x1)) = true
          · rw [if_pos b3] at h
            obtain ⟨s5, s6, h⟩ := h
            obtain ⟨s7, h⟩ := h
            obtain ⟨s8, h⟩ := h
            exact AtV.runN tabOk ext11Ok mixed (p11_1 v6 v7 h1 x0 x1) ⟨b0, b1, s0, s1, trivial, b2, s2, s3, s4, b3, rfl, s5, s6, s7, s8, trivial⟩ (ih4 _ _ _ _ _ _ h w0 O q)
          · rw [if_neg b3] at h
            replace b3 := Bool.eq_false_iff.2 b3
            obtain ⟨s5, s6, h⟩ := h
            by_cases b4 : (!ByteArray.toList (Prod.fst (Prod.snd (List.getD x0 (Int.toNat v7) (ByteArray.empty, ByteArray.empty, ByteArray.empty, ())))) == ByteArray.toList (Prod.fst (Prod.snd x1))) = true
            · rw [if_pos b4] at h
              obtain ⟨s7, s8, h⟩ := h
              obtain ⟨s9, h⟩ := h
              obtain ⟨s10, h⟩ := h
              exact AtV.runN tabOk ext11Ok mixed (p11_2 v6 v7 h1 x0 x1) ⟨b0, b1, s0, s1, trivial, b2, s2, s3, s4, b3, s5, s6, b4, s7, s8, s9, s10, trivial⟩ (ih4 _ _ _ _ _ _ h w0 O q)
            · rw [if_neg b4] at h
              replace b4 := Bool.eq_false_iff.2 b4
              obtain ⟨s7, h⟩ := h
              exact AtV.runN tabOk ext11Ok mixed (p11_3 v6 v7 h1 x0 x1) ⟨b0, b1, s0, s1, trivial, b2, s2, s3, s4, b3, s5, s6, b4, s7, trivial⟩ (ih4 _ _ _ _ _ _ h w0 O q)
        · rw [if_neg b2] at h
          replace b2 := Bool.eq_false_iff.2 b2
          obtain ⟨s2, s3, h⟩ := h
          by_cases b3 : (!ByteArray.toList (Prod.fst (List.getD x0 (Int.toNat v7) (ByteArray.empty, ByteArray.empty, ByteArray.empty, ()))) == ByteArray.toList (Prod.fst x1)) = true
          · rw [if_pos b3] at h
            obtain ⟨s4, s5, h⟩ := h
            obtain ⟨s6, h⟩ := h
            obtain ⟨s7, h⟩ := h
            exact AtV.runN tabOk ext11Ok mixed (p11_4 v6 v7 h1 x0 x1) ⟨b0, b1, s0, s1, trivial, b2, s2, s3, b3, rfl, s4, s5, s6, s7, trivial⟩ (ih4 _ _ _ _ _ _ h w0 O q)
          · rw [if_neg b3] at h
            replace b3 := Bool.eq_false_iff.2 b3
            obtain ⟨s4, s5, h⟩ := h
            by_cases b4 : (!ByteArray.toList (Prod.fst (Prod.snd (List.getD x0 (Int.toNat v7) (ByteArray.empty, ByteArray.empty, ByteArray.empty, ())))) == ByteArray.toList (Prod.fst (Prod.snd x1))) = true
            · rw [if_pos b4] at h
              obtain ⟨s6, s7, h⟩ := h
              obtain ⟨s8, h⟩ := h
              obtain ⟨s9, h⟩ := h
              exact AtV.runN tabOk ext11Ok mixed (p11_5 v6 v7 h1 x0 x1) ⟨b0, b1, s0, s1, trivial, b2, s2, s3, b3, s4, s5, b4, s6, s7, s8, s9, trivial⟩ (ih4 _ _ _ _ _ _ h w0 O q)
            · rw [if_neg b4] at h
              replace b4 := Bool.eq_false_iff.2 b4
              obtain ⟨s6, h⟩ := h
              exact AtV.runN tabOk ext11Ok mixed (p11_6 v6 v7 h1 x0 x1) ⟨b0, b1, s0, s1, trivial, b2, s2, s3, b3, s4, s5, b4, s6, trivial⟩ (ih4 _ _ _ _ _ _ h w0 O q)
      · rw [if_neg b1] at h
        replace b1 := Bool.eq_false_iff.2 b1
        obtain ⟨s0, s1, h⟩ := h
        by_cases b2 : (!ByteArray.toList (Prod.fst (List.getD x0 (Int.toNat v7) (ByteArray.empty, ByteArray.empty, ByteArray.empty, ()))) == ByteArray.toList (Prod.fst x1)) = true
        · rw [if_pos b2] at h
          obtain ⟨s2, s3, h⟩ := h
          obtain ⟨s4, h⟩ := h
          obtain ⟨s5, h⟩ := h
          exact AtV.runN tabOk ext11Ok mixed (p11_7 v6 v7 h1 x0 x1) ⟨b0, b1, rfl, s0, s1, b2, rfl, s2, s3, s4, s5, trivial⟩ (ih4 _ _ _ _ _ _ h w0 O q)
        · rw [if_neg b2] at h
          replace b2 := Bool.eq_false_iff.2 b2
          obtain ⟨s2, s3, h⟩ := h
          by_cases b3 : (!ByteArray.toList (Prod.fst (Prod.snd (List.getD x0 (Int.toNat v7) (ByteArray.empty, ByteArray.empty, ByteArray.empty, ())))) == ByteArray.toList (Prod.fst (Prod.snd x1))) = true
          · rw [if_pos b3] at h
            obtain ⟨s4, s5, h⟩ := h
            obtain ⟨s6, h⟩ := h
            obtain ⟨s7, h⟩ := h
            exact AtV.runN tabOk ext11Ok mixed (p11_8 v6 v7 h1 x0 x1) ⟨b0, b1, rfl, s0, s1, b2, s2, s3, b3, s4, s5, s6, s7, trivial⟩ (ih4 _ _ _ _ _ _ h w0 O q)
          · rw [if_neg b3] at h
            replace b3 := Bool.eq_false_iff.2 b3
            obtain ⟨s4, h⟩ := h
            exact AtV.runN tabOk ext11Ok mixed (p11_9 v6 v7 h1 x0 x1) ⟨b0, b1, rfl, s0, s1, b2, s2, s3, b3, s4, trivial⟩ (ih4 _ _ _ _ _ _ h w0 O q)
    · rw [if_neg b0] at h
      replace b0 := Bool.eq_false_iff.2 b0
      by_cases b1 : (!v6) = true
      · rw [if_pos b1] at h
        obtain ⟨s0, h⟩ := h
        subst h
        exact AtV.fin Tryd.func11 tabOk ext11Ok mixed (p11_10 v6 v7 h1 x0 x1) ⟨b0, b1, s0, trivial⟩
      · rw [if_neg b1] at h
        replace b1 := Bool.eq_false_iff.2 b1
        subst h
        exact AtV.fin Tryd.func11 tabOk ext11Ok mixed (p11_11 v6 v7 h1 x0 x1) ⟨b0, b1, trivial⟩



def st11 (t : (ByteArray × ByteArray × ByteArray × Unit)) (s : List (ByteArray × ByteArray × ByteArray × Unit) × Bool) (x : (ByteArray × ByteArray × ByteArray × Unit)) : List (ByteArray × ByteArray × ByteArray × Unit) × Bool :=
  (if (ByteArray.toList x.1 == ByteArray.toList t.1 && ByteArray.toList x.2.1 == ByteArray.toList t.2.1) = true then (if (!s.2 && !g21_0 x t) = true then s.1 ++ [t] else s.1) else (if (!s.2 && !g21_0 x t) = true then s.1 ++ [t] else s.1) ++ [x], s.2 || !g21_0 x t)

def fin11 (t : (ByteArray × ByteArray × ByteArray × Unit)) (s : List (ByteArray × ByteArray × ByteArray × Unit) × Bool) : List (ByteArray × ByteArray × ByteArray × Unit) := if s.2 = true then s.1 else s.1 ++ [t]
def g11_0 (x0 : List (ByteArray × ByteArray × ByteArray × Unit)) (x1 : (ByteArray × ByteArray × ByteArray × Unit)) : List (ByteArray × ByteArray × ByteArray × Unit) := fin11 x1 (x0.foldl (st11 x1) ([], false))
def P11 (x0 : List (ByteArray × ByteArray × ByteArray × Unit)) (x1 : (ByteArray × ByteArray × ByteArray × Unit)) : Prop := x0.length ≤ 1048576

theorem stl11 (t : (ByteArray × ByteArray × ByteArray × Unit)) (s : List (ByteArray × ByteArray × ByteArray × Unit) × Bool) (x : (ByteArray × ByteArray × ByteArray × Unit)) (i : Nat) (h : s.1.length ≤ 2 * i) : (st11 t s x).1.length ≤ 2 * (i + 1) := by
  unfold st11
  cases (ByteArray.toList x.1 == ByteArray.toList t.1 && ByteArray.toList x.2.1 == ByteArray.toList t.2.1) <;> cases (!s.2 && !g21_0 x t) <;> simp <;> omega

set_option maxHeartbeats 1000000 in
theorem top11 (x0 : List (ByteArray × ByteArray × ByteArray × Unit)) (x1 : (ByteArray × ByteArray × ByteArray × Unit)) (hp : P11 x0 x1) : R11 (x0.length + 1 + 1) x0 x1 [⟨.sl (.cons .str (.cons .str (.cons .str .unit))), g11_0 x0 x1⟩] := by
  have hl : x0.length ≤ 1048576 := hp
  have hm : x0.length ≤ maxLen := by unfold maxLen; omega
  rw [R11]
  have key : ∀ d : List Dyn, d = [(⟨.sl (.cons .str (.cons .str (.cons .str .unit))), fin11 x1 (x0.foldl (st11 x1) ([], false))⟩ : Dyn)] → R11_4 (x0.length + 1) false 0 [] x0 x1 d → R11_4 (x0.length + 1) false 0 [] x0 x1 [⟨.sl (.cons .str (.cons .str (.cons .str .unit))), g11_0 x0 x1⟩] := fun d hd h => by rw [hd] at h; exact h
  refine key _ rfl ?_
  clear key
  refine loop_fold (β := List (ByteArray × ByteArray × ByteArray × Unit) × Bool) (δ := List Dyn) (b := ([], false)) x0 (ByteArray.empty, ByteArray.empty, ByteArray.empty, ()) (st11 x1) (fun s => [(⟨.sl (.cons .str (.cons .str (.cons .str .unit))), fin11 x1 s⟩ : Dyn)]) (fun n s => s.1.length ≤ 2 * n) (fun n i s ds => R11_4 n s.2 i s.1 x0 x1 ds) (by simp) (fun n s hs => ?_) (fun n i s hi hs => ⟨stl11 x1 s _ i hs, fun ds hr => ?_⟩)
  · show R11_4 (n + 1) s.2 (x0.length : Int) s.1 x0 x1 _
    rw [R11_4, if_neg (by simp)]
    obtain ⟨h, d⟩ := s
    simp only at hs ⊢
    unfold fin11
    cases d with
    | true => simp
    | false =>
      exact ⟨by omega, rfl⟩
  · have hup := inR_up hm hi
    obtain ⟨h, d⟩ := s
    simp only at hs
    have b0 : (0 : Int) ≤ (i : Int) := by omega
    have b1 : (i : Int) < (x0.length : Int) := by omega
    have c1 : ((h.length + 1 : Nat) : Nat) * 48 ≤ 140737488355328 := by omega
    have c2 : ((h ++ [x1]).length + 1) * 48 ≤ 140737488355328 := by
      have e : (h ++ [x1]).length = h.length + 1 := by rw [List.length_append, List.length_singleton]
      omega
    show R11_4 (n + 1) d (i : Int) h x0 x1 ds
    rw [R11_4, if_pos (by simp only [decide_eq_true_eq]; omega)]
    unfold st11 at hr
    simp only [Int.toNat_natCast] at hr ⊢
    generalize x0.getD i (ByteArray.empty, ByteArray.empty, ByteArray.empty, ()) = y at *
    cases d <;> cases hb : g21_0 y x1 <;> cases hk : (ByteArray.toList y.1 == ByteArray.toList x1.1) <;> cases hn : (ByteArray.toList y.2.1 == ByteArray.toList x1.2.1) <;>
      simp only [hb, hk, hn, Bool.not_true, Bool.not_false, Bool.and_true, Bool.and_false, Bool.true_and, Bool.false_and, Bool.or_true, Bool.or_false, Bool.true_or, Bool.false_or, if_true, if_false, Bool.false_eq_true, b0, b1, c1, c2, hup, true_and] at hr ⊢ <;> exact hr

def S11 : Am.Spec := { sig := sig11, pre := fun ⟨x0, x1, _⟩ => P11 x0 x1, res := fun ⟨x0, x1, _⟩ => [⟨.sl (.cons .str (.cons .str (.cons .str .unit))), g11_0 x0 x1⟩] }
theorem con11 : Contract Tryd.prog 11 S11 := contract_of Tryd.func11 hb11 (Nat.le_of_ble_eq_true (by kernel_rfl)) (fun ⟨x0, x1, _⟩ h hwf w0 O q =>
  (snd11 _).1 x0 x1 _ (top11 x0 x1 h) w0 O q)

theorem len11 (x0 : List (ByteArray × ByteArray × ByteArray × Unit)) (x1 : (ByteArray × ByteArray × ByteArray × Unit)) : (g11_0 x0 x1).length ≤ x0.length + 1 := by
  have key : ∀ (l : List (ByteArray × ByteArray × ByteArray × Unit)) (s : List (ByteArray × ByteArray × ByteArray × Unit) × Bool) (n : Nat), s.1.length ≤ n + (if s.2 = true then 1 else 0) → (l.foldl (st11 x1) s).1.length ≤ n + l.length + (if (l.foldl (st11 x1) s).2 = true then 1 else 0) := by
    intro l
    induction l with
    | nil => intro s n h; exact h
    | cons y r ih =>
      intro s n h
      rw [List.foldl_cons]
      have := ih (st11 x1 s y) (n + 1) (by
        obtain ⟨a, d⟩ := s
        simp only at h
        unfold st11
        cases (ByteArray.toList y.1 == ByteArray.toList x1.1 && ByteArray.toList y.2.1 == ByteArray.toList x1.2.1) <;> cases g21_0 y x1 <;> cases d <;> simp at h ⊢ <;> omega)
      rw [List.length_cons]
      omega
  have := key x0 ([], false) 0 (by simp)
  unfold g11_0 fin11
  generalize x0.foldl (st11 x1) ([], false) = s at *
  obtain ⟨a, d⟩ := s
  cases d with
  | true => simp at this ⊢; omega
  | false => simp at this ⊢; omega

end Go.Proofs.YticibijneahllaaDoor

/- The contracts of the library that this program uses, laid at this program. Written by a tool of the kit. -/
set_option linter.unusedVariables false
set_option maxRecDepth 100000
namespace Go.Proofs
open Go.Shelf
def Tryd.lays169_ren : Go.Shelf.Ren := ⟨fun | 169 => 42 | n => n, fun | 70 => 62 | 9 => 9 | 0 => 0 | 72 => 64 | 37 => 54 | 127 => 86 | 3 => 3 | 5 => 5 | n => n, fun | n => n⟩
theorem Tryd.lays169 : Go.Proofs.Lays.n169 Tryd.prog Tryd.lays169_ren := {
  mixed := by kernel_rfl
  f169 := Tryd.func42.trans (congrArg some (by kernel_rfl))
  t0 := Tryd.underlying0
  a0 := Tryd.isAgg0
  z0 := Tryd.sizeOf0
  v0 := Tryd.zeroValue0
  t3 := Tryd.underlying3
  a3 := Tryd.isAgg3
  z3 := Tryd.sizeOf3
  v3 := Tryd.zeroValue3
  t9 := Tryd.underlying9
  a9 := Tryd.isAgg9
  z9 := Tryd.sizeOf9
  v9 := Tryd.zeroValue9
  t37 := Tryd.underlying54
  a37 := Tryd.isAgg54
  z37 := Tryd.sizeOf54
  v37 := Tryd.zeroValue54
  t70 := Tryd.underlying62
  a70 := Tryd.isAgg62
  z70 := Tryd.sizeOf62
  v70 := Tryd.zeroValue62
  t72 := Tryd.underlying64
  a72 := Tryd.isAgg64
  z72 := Tryd.sizeOf64
  v72 := Tryd.zeroValue64
  t127 := Tryd.underlying86
  a127 := Tryd.isAgg86
  z127 := Tryd.sizeOf86
  v127 := Tryd.zeroValue86 }
theorem Tryd.Builder_Extra_169 : Builder.Extra Tryd.prog Tryd.lays169_ren := {
  sizeBuilder := by kernel_rfl
  liesBuilder := by kernel_rfl
  t5 := Tryd.underlying5
  a5 := Tryd.isAgg5
  z5 := Tryd.sizeOf5
  v5 := Tryd.zeroValue5
  infoByte := by kernel_rfl
  cellsByte := by kernel_rfl
  sizeByte := by kernel_rfl
  neB5 := by decide }
open Go.RowKit in theorem Tryd.Builder_String_any_k (B b : Nat) (l : List UInt8) (w : World) (h : Lib.IsBuilderF 64 5 B b (Lib.byteCells l) w) (hBw : B ≤ w.heap.size) :
    Calls Tryd.prog 42 #[.pointer (some ⟨b, 0, none⟩)] w fun e w' => e = .returned (.string ⟨l.toArray⟩) ∧ (Lib.IsBuilderF 64 5 B b (Lib.byteCells l) w' ∧ Below B w w' ∧ Lib.OthersKept 5 (some b) w w') := Any.Builder_String_any_k Tryd.lays169 Tryd.Builder_Extra_169 B b l w h hBw
def Tryd.laysM173_ren : Go.Shelf.Ren := ⟨fun | 173 => 35 | 246 => 55 | 283 => 73 | 284 => 74 | 285 => 75 | 286 => 76 | 129 => 85 | 317 => 84 | 318 => 86 | 319 => 87 | 320 => 88 | 337 => 90 | 338 => 91 | n => n, fun | 2 => 2 | 3 => 3 | 9 => 9 | 4 => 4 | 171 => 95 | 0 => 0 | 53 => 83 | 37 => 54 | 5 => 5 | 173 => 98 | 212 => 106 | 51 => 80 | 20 => 20 | 213 => 107 | 46 => 55 | 232 => 116 | 233 => 117 | n => n, fun | 17 => 1 | 18 => 4 | 19 => 5 | n => n⟩
theorem Tryd.laysM173 : Go.Proofs.LaysM.n173 Tryd.prog Tryd.laysM173_ren := {
  mixed := by kernel_rfl
  f129 := Tryd.func85.trans (congrArg some (by kernel_rfl))
  f173 := Tryd.func35.trans (congrArg some (by kernel_rfl))
  f246 := Tryd.func55.trans (congrArg some (by kernel_rfl))
  f283 := Tryd.func73.trans (congrArg some (by kernel_rfl))
  f284 := Tryd.func74.trans (congrArg some (by kernel_rfl))
  f285 := Tryd.func75.trans (congrArg some (by kernel_rfl))
  f286 := Tryd.func76.trans (congrArg some (by kernel_rfl))
  f317 := Tryd.func84.trans (congrArg some (by kernel_rfl))
  f318 := Tryd.func86.trans (congrArg some (by kernel_rfl))
  f319 := Tryd.func87.trans (congrArg some (by kernel_rfl))
  f320 := Tryd.func88.trans (congrArg some (by kernel_rfl))
  f337 := Tryd.func90.trans (congrArg some (by kernel_rfl))
  f338 := Tryd.func91.trans (congrArg some (by kernel_rfl))
  t0 := Tryd.underlying0
  a0 := Tryd.isAgg0
  z0 := Tryd.sizeOf0
  v0 := Tryd.zeroValue0
  t2 := Tryd.underlying2
  a2 := Tryd.isAgg2
  z2 := Tryd.sizeOf2
  v2 := Tryd.zeroValue2
  t3 := Tryd.underlying3
  a3 := Tryd.isAgg3
  z3 := Tryd.sizeOf3
  v3 := Tryd.zeroValue3
  t4 := Tryd.underlying4
  a4 := Tryd.isAgg4
  z4 := Tryd.sizeOf4
  v4 := Tryd.zeroValue4
  t5 := Tryd.underlying5
  a5 := Tryd.isAgg5
  z5 := Tryd.sizeOf5
  v5 := Tryd.zeroValue5
  t9 := Tryd.underlying9
  a9 := Tryd.isAgg9
  z9 := Tryd.sizeOf9
  v9 := Tryd.zeroValue9
  t20 := Tryd.underlying20
  a20 := Tryd.isAgg20
  z20 := Tryd.sizeOf20
  v20 := Tryd.zeroValue20
  t37 := Tryd.underlying54
  a37 := Tryd.isAgg54
  z37 := Tryd.sizeOf54
  v37 := Tryd.zeroValue54
  t46 := Tryd.underlying55
  a46 := Tryd.isAgg55
  z46 := Tryd.sizeOf55
  v46 := Tryd.zeroValue55
  t51 := Tryd.underlying80
  a51 := Tryd.isAgg80
  z51 := Tryd.sizeOf80
  v51 := Tryd.zeroValue80
  t53 := Tryd.underlying83
  a53 := Tryd.isAgg83
  z53 := Tryd.sizeOf83
  v53 := Tryd.zeroValue83
  t171 := Tryd.underlying95
  a171 := Tryd.isAgg95
  z171 := Tryd.sizeOf95
  v171 := Tryd.zeroValue95
  t173 := Tryd.underlying98
  a173 := Tryd.isAgg98
  z173 := Tryd.sizeOf98
  v173 := Tryd.zeroValue98
  t212 := Tryd.underlying106
  a212 := Tryd.isAgg106
  z212 := Tryd.sizeOf106
  v212 := Tryd.zeroValue106
  t213 := Tryd.underlying107
  a213 := Tryd.isAgg107
  z213 := Tryd.sizeOf107
  t232 := Tryd.underlying116
  a232 := Tryd.isAgg116
  z232 := Tryd.sizeOf116
  v232 := Tryd.zeroValue116
  t233 := Tryd.underlying117
  a233 := Tryd.isAgg117
  z233 := Tryd.sizeOf117
  v233 := Tryd.zeroValue117
  g17 := by kernel_rfl
  g18 := by kernel_rfl
  g19 := by kernel_rfl
  i0 := by kernel_rfl
  i2 := by kernel_rfl
  i3 := by kernel_rfl
  i4 := by kernel_rfl
  i5 := by kernel_rfl
  i9 := by kernel_rfl
  i20 := by kernel_rfl
  i37 := by kernel_rfl
  i46 := by kernel_rfl
  i51 := by kernel_rfl
  i53 := by kernel_rfl
  i171 := by kernel_rfl
  i173 := by kernel_rfl
  i212 := by kernel_rfl
  i232 := by kernel_rfl
  i233 := by kernel_rfl
  m17 := by kernel_rfl
  m18 := by kernel_rfl
  m19 := by kernel_rfl }
open Go.RowKit Go.Sort Go.Lib in theorem Tryd.strconv_FormatInt_10 (n : Int) (h0 : -9223372036854775808 ≤ n) (h1 : n ≤ 9223372036854775807) (w : World) (htab : Lib.TabIs Tryd.prog w "internal/strconv.uint64pow10" .u64 Lib.pow10Tab) :
    Calls Tryd.prog 35 #[.int .i64 n, .int .i64 10] w fun e w' => e = .returned (.string ⟨(Lib.itoa n).toArray⟩) ∧ ∃ k os, w' = grow (w.drewN k) os := Any.strconv_FormatInt_10 Tryd.laysM173 n h0 h1 w htab
def Tryd.lays144_ren : Go.Shelf.Ren := ⟨fun | 144 => 44 | 143 => 53 | 219 => 54 | 217 => 69 | 225 => 70 | 224 => 71 | 267 => 72 | 266 => 82 | 314 => 83 | n => n, fun | 9 => 9 | 4 => 4 | 3 => 3 | 5 => 5 | 46 => 55 | 146 => 81 | 51 => 80 | n => n, fun | 1 => 0 | n => n⟩
theorem Tryd.lays144 : Go.Proofs.Lays.n144 Tryd.prog Tryd.lays144_ren := {
  mixed := by kernel_rfl
  f143 := Tryd.func53.trans (congrArg some (by kernel_rfl))
  f144 := Tryd.func44.trans (congrArg some (by kernel_rfl))
  f217 := Tryd.func69.trans (congrArg some (by kernel_rfl))
  f219 := Tryd.func54.trans (congrArg some (by kernel_rfl))
  f224 := Tryd.func71.trans (congrArg some (by kernel_rfl))
  f225 := Tryd.func70.trans (congrArg some (by kernel_rfl))
  f266 := Tryd.func82.trans (congrArg some (by kernel_rfl))
  f267 := Tryd.func72.trans (congrArg some (by kernel_rfl))
  f314 := Tryd.func83.trans (congrArg some (by kernel_rfl))
  t3 := Tryd.underlying3
  a3 := Tryd.isAgg3
  z3 := Tryd.sizeOf3
  v3 := Tryd.zeroValue3
  t4 := Tryd.underlying4
  a4 := Tryd.isAgg4
  z4 := Tryd.sizeOf4
  v4 := Tryd.zeroValue4
  t5 := Tryd.underlying5
  a5 := Tryd.isAgg5
  z5 := Tryd.sizeOf5
  v5 := Tryd.zeroValue5
  t9 := Tryd.underlying9
  a9 := Tryd.isAgg9
  z9 := Tryd.sizeOf9
  v9 := Tryd.zeroValue9
  t46 := Tryd.underlying55
  a46 := Tryd.isAgg55
  z46 := Tryd.sizeOf55
  v46 := Tryd.zeroValue55
  t51 := Tryd.underlying80
  a51 := Tryd.isAgg80
  z51 := Tryd.sizeOf80
  v51 := Tryd.zeroValue80
  t146 := Tryd.underlying81
  a146 := Tryd.isAgg81
  z146 := Tryd.sizeOf81
  v146 := Tryd.zeroValue81
  g1 := by kernel_rfl }
open Go.RowKit Go.Lib in theorem Tryd.strings_Contains (s sub : ByteArray) (m : Int) (w : World) (hs : s.size < 4294967281) (hm : w.cell? ⟨0, 0, none⟩ = some (.int .i64 m)) :
    Calls Tryd.prog 44 #[.string s, .string sub] w fun e w' => e = .returned (.bool (Lib.contains s.data.toList sub.data.toList)) ∧ w' = w := Any.strings_Contains Tryd.lays144 s sub m w hs hm
def Tryd.lays145_ren : Go.Shelf.Ren := ⟨fun | 145 => 23 | 220 => 34 | 219 => 54 | 217 => 69 | 225 => 70 | 224 => 71 | 267 => 72 | 266 => 82 | 314 => 83 | n => n, fun | 9 => 9 | 4 => 4 | 59 => 48 | 3 => 3 | 5 => 5 | 46 => 55 | 146 => 81 | 51 => 80 | n => n, fun | 1 => 0 | n => n⟩
theorem Tryd.lays145 : Go.Proofs.Lays.n145 Tryd.prog Tryd.lays145_ren := {
  mixed := by kernel_rfl
  f145 := Tryd.func23.trans (congrArg some (by kernel_rfl))
  f217 := Tryd.func69.trans (congrArg some (by kernel_rfl))
  f219 := Tryd.func54.trans (congrArg some (by kernel_rfl))
  f220 := Tryd.func34.trans (congrArg some (by kernel_rfl))
  f224 := Tryd.func71.trans (congrArg some (by kernel_rfl))
  f225 := Tryd.func70.trans (congrArg some (by kernel_rfl))
  f266 := Tryd.func82.trans (congrArg some (by kernel_rfl))
  f267 := Tryd.func72.trans (congrArg some (by kernel_rfl))
  f314 := Tryd.func83.trans (congrArg some (by kernel_rfl))
  t3 := Tryd.underlying3
  a3 := Tryd.isAgg3
  z3 := Tryd.sizeOf3
  v3 := Tryd.zeroValue3
  t4 := Tryd.underlying4
  a4 := Tryd.isAgg4
  z4 := Tryd.sizeOf4
  v4 := Tryd.zeroValue4
  t5 := Tryd.underlying5
  a5 := Tryd.isAgg5
  z5 := Tryd.sizeOf5
  v5 := Tryd.zeroValue5
  t9 := Tryd.underlying9
  a9 := Tryd.isAgg9
  z9 := Tryd.sizeOf9
  v9 := Tryd.zeroValue9
  t46 := Tryd.underlying55
  a46 := Tryd.isAgg55
  z46 := Tryd.sizeOf55
  v46 := Tryd.zeroValue55
  t51 := Tryd.underlying80
  a51 := Tryd.isAgg80
  z51 := Tryd.sizeOf80
  v51 := Tryd.zeroValue80
  t59 := Tryd.underlying48
  a59 := Tryd.isAgg48
  z59 := Tryd.sizeOf48
  v59 := Tryd.zeroValue48
  t146 := Tryd.underlying81
  a146 := Tryd.isAgg81
  z146 := Tryd.sizeOf81
  v146 := Tryd.zeroValue81
  g1 := by kernel_rfl }
open Go.RowKit Go.Lib in theorem Tryd.strings_Cut (s sep : ByteArray) (m : Int) (w : World) (hs : s.size < 4294967281) (hm : w.cell? ⟨0, 0, none⟩ = some (.int .i64 m)) :
    Calls Tryd.prog 23 #[.string s, .string sep] w fun e w' => e = .returned (.tuple #[.string ⟨(Lib.cut s.data.toList sep.data.toList).1.toArray⟩, .string ⟨(Lib.cut s.data.toList sep.data.toList).2.1.toArray⟩, .bool (Lib.cut s.data.toList sep.data.toList).2.2]) ∧ ∃ n, w' = w.drewN n := Any.strings_Cut Tryd.lays145 s sep m w hs hm
def Tryd.lays99_ren : Go.Shelf.Ren := ⟨fun | 99 => 38 | 206 => 58 | n => n, fun | 9 => 9 | 4 => 4 | 3 => 3 | n => n, fun | n => n⟩
theorem Tryd.lays99 : Go.Proofs.Lays.n99 Tryd.prog Tryd.lays99_ren := {
  mixed := by kernel_rfl
  f99 := Tryd.func38.trans (congrArg some (by kernel_rfl))
  f206 := Tryd.func58.trans (congrArg some (by kernel_rfl))
  t3 := Tryd.underlying3
  a3 := Tryd.isAgg3
  z3 := Tryd.sizeOf3
  v3 := Tryd.zeroValue3
  t4 := Tryd.underlying4
  a4 := Tryd.isAgg4
  z4 := Tryd.sizeOf4
  v4 := Tryd.zeroValue4
  t9 := Tryd.underlying9
  a9 := Tryd.isAgg9
  z9 := Tryd.sizeOf9
  v9 := Tryd.zeroValue9 }
open Go.RowKit Go.Lib in theorem Tryd.strings_HasPrefix (s p : ByteArray) (w : World) :
    Calls Tryd.prog 38 #[.string s, .string p] w fun e w' => e = .returned (.bool (Lib.hasPrefix s.data.toList p.data.toList)) ∧ w' = w := Any.strings_HasPrefix Tryd.lays99 s p w
def Tryd.lays146_ren : Go.Shelf.Ren := ⟨fun | 146 => 22 | 221 => 33 | 268 => 51 | 138 => 52 | 143 => 53 | 195 => 66 | 197 => 67 | 218 => 68 | 219 => 54 | 260 => 81 | 217 => 69 | 225 => 70 | 224 => 71 | 267 => 72 | 266 => 82 | 314 => 83 | n => n, fun | 9 => 9 | 31 => 27 | 3 => 3 | 4 => 4 | 0 => 0 | 105 => 91 | 21 => 21 | 5 => 5 | 46 => 55 | 119 => 111 | 139 => 114 | 138 => 113 | 146 => 81 | 51 => 80 | n => n, fun | 1 => 0 | 3 => 2 | 4 => 3 | n => n⟩
theorem Tryd.lays146 : Go.Proofs.Lays.n146 Tryd.prog Tryd.lays146_ren := {
  mixed := by kernel_rfl
  f138 := Tryd.func52.trans (congrArg some (by kernel_rfl))
  f143 := Tryd.func53.trans (congrArg some (by kernel_rfl))
  f146 := Tryd.func22.trans (congrArg some (by kernel_rfl))
  f195 := Tryd.func66.trans (congrArg some (by kernel_rfl))
  f197 := Tryd.func67.trans (congrArg some (by kernel_rfl))
  f217 := Tryd.func69.trans (congrArg some (by kernel_rfl))
  f218 := Tryd.func68.trans (congrArg some (by kernel_rfl))
  f219 := Tryd.func54.trans (congrArg some (by kernel_rfl))
  f221 := Tryd.func33.trans (congrArg some (by kernel_rfl))
  f224 := Tryd.func71.trans (congrArg some (by kernel_rfl))
  f225 := Tryd.func70.trans (congrArg some (by kernel_rfl))
  f260 := Tryd.func81.trans (congrArg some (by kernel_rfl))
  f266 := Tryd.func82.trans (congrArg some (by kernel_rfl))
  f267 := Tryd.func72.trans (congrArg some (by kernel_rfl))
  f268 := Tryd.func51.trans (congrArg some (by kernel_rfl))
  f314 := Tryd.func83.trans (congrArg some (by kernel_rfl))
  t0 := Tryd.underlying0
  a0 := Tryd.isAgg0
  z0 := Tryd.sizeOf0
  v0 := Tryd.zeroValue0
  t3 := Tryd.underlying3
  a3 := Tryd.isAgg3
  z3 := Tryd.sizeOf3
  v3 := Tryd.zeroValue3
  t4 := Tryd.underlying4
  a4 := Tryd.isAgg4
  z4 := Tryd.sizeOf4
  v4 := Tryd.zeroValue4
  t5 := Tryd.underlying5
  a5 := Tryd.isAgg5
  z5 := Tryd.sizeOf5
  v5 := Tryd.zeroValue5
  t9 := Tryd.underlying9
  a9 := Tryd.isAgg9
  z9 := Tryd.sizeOf9
  v9 := Tryd.zeroValue9
  t21 := Tryd.underlying21
  a21 := Tryd.isAgg21
  z21 := Tryd.sizeOf21
  v21 := Tryd.zeroValue21
  t31 := Tryd.underlying27
  a31 := Tryd.isAgg27
  z31 := Tryd.sizeOf27
  v31 := Tryd.zeroValue27
  t46 := Tryd.underlying55
  a46 := Tryd.isAgg55
  z46 := Tryd.sizeOf55
  v46 := Tryd.zeroValue55
  t51 := Tryd.underlying80
  a51 := Tryd.isAgg80
  z51 := Tryd.sizeOf80
  v51 := Tryd.zeroValue80
  t105 := Tryd.underlying91
  a105 := Tryd.isAgg91
  z105 := Tryd.sizeOf91
  v105 := Tryd.zeroValue91
  t119 := Tryd.underlying111
  a119 := Tryd.isAgg111
  z119 := Tryd.sizeOf111
  t138 := Tryd.underlying113
  a138 := Tryd.isAgg113
  z138 := Tryd.sizeOf113
  v138 := Tryd.zeroValue113
  t139 := Tryd.underlying114
  a139 := Tryd.isAgg114
  z139 := Tryd.sizeOf114
  v139 := Tryd.zeroValue114
  t146 := Tryd.underlying81
  a146 := Tryd.isAgg81
  z146 := Tryd.sizeOf81
  v146 := Tryd.zeroValue81
  g1 := by kernel_rfl
  g3 := by kernel_rfl
  g4 := by kernel_rfl }
open Go.RowKit Go.Lib in theorem Tryd.strings_Split (s sep : ByteArray) (m : Int) (w : World) (hs : s.size < 4294967281) (hm : w.cell? ⟨0, 0, none⟩ = some (.int .i64 m)) (h1 : 1 ≤ sep.size) :
    Calls Tryd.prog 22 #[.string s, .string sep] w fun e w' =>
      e = .returned (.slice (some ⟨w.heap.size, 0, none⟩) (Lib.countB s sep + 1) (Lib.countB s sep + 1)) ∧ w' = w.alloc (.cells ((Lib.splitB sep 0 (Lib.countB s sep) s).map Value.string).toArray 9) := Any.strings_Split Tryd.lays146 (by kernel_rfl) s sep m w hs hm h1
def Tryd.lays105_ren : Go.Shelf.Ren := ⟨fun | 105 => 26 | 212 => 37 | 99 => 38 | 165 => 39 | 166 => 40 | 170 => 41 | 169 => 42 | 263 => 56 | 264 => 57 | 206 => 58 | 240 => 59 | 241 => 60 | 276 => 77 | 277 => 78 | n => n, fun | 9 => 9 | 3 => 3 | 4 => 4 | 20 => 20 | 0 => 0 | 46 => 55 | 109 => 59 | 5 => 5 | 72 => 64 | 76 => 68 | 51 => 80 | 146 => 81 | 53 => 83 | 148 => 84 | 70 => 62 | 37 => 54 | 75 => 67 | 127 => 86 | 164 => 100 | 80 => 71 | n => n, fun | n => n⟩
theorem Tryd.lays105 : Go.Proofs.Lays.n105 Tryd.prog Tryd.lays105_ren := {
  mixed := by kernel_rfl
  f99 := Tryd.func38.trans (congrArg some (by kernel_rfl))
  f105 := Tryd.func26.trans (congrArg some (by kernel_rfl))
  f165 := Tryd.func39.trans (congrArg some (by kernel_rfl))
  f166 := Tryd.func40.trans (congrArg some (by kernel_rfl))
  f169 := Tryd.func42.trans (congrArg some (by kernel_rfl))
  f170 := Tryd.func41.trans (congrArg some (by kernel_rfl))
  f206 := Tryd.func58.trans (congrArg some (by kernel_rfl))
  f212 := Tryd.func37.trans (congrArg some (by kernel_rfl))
  f240 := Tryd.func59.trans (congrArg some (by kernel_rfl))
  f241 := Tryd.func60.trans (congrArg some (by kernel_rfl))
  f263 := Tryd.func56.trans (congrArg some (by kernel_rfl))
  f264 := Tryd.func57.trans (congrArg some (by kernel_rfl))
  f276 := Tryd.func77.trans (congrArg some (by kernel_rfl))
  f277 := Tryd.func78.trans (congrArg some (by kernel_rfl))
  t0 := Tryd.underlying0
  a0 := Tryd.isAgg0
  z0 := Tryd.sizeOf0
  v0 := Tryd.zeroValue0
  t3 := Tryd.underlying3
  a3 := Tryd.isAgg3
  z3 := Tryd.sizeOf3
  v3 := Tryd.zeroValue3
  t4 := Tryd.underlying4
  a4 := Tryd.isAgg4
  z4 := Tryd.sizeOf4
  v4 := Tryd.zeroValue4
  t5 := Tryd.underlying5
  a5 := Tryd.isAgg5
  z5 := Tryd.sizeOf5
  v5 := Tryd.zeroValue5
  t9 := Tryd.underlying9
  a9 := Tryd.isAgg9
  z9 := Tryd.sizeOf9
  v9 := Tryd.zeroValue9
  t20 := Tryd.underlying20
  a20 := Tryd.isAgg20
  z20 := Tryd.sizeOf20
  v20 := Tryd.zeroValue20
  t37 := Tryd.underlying54
  a37 := Tryd.isAgg54
  z37 := Tryd.sizeOf54
  v37 := Tryd.zeroValue54
  t46 := Tryd.underlying55
  a46 := Tryd.isAgg55
  z46 := Tryd.sizeOf55
  v46 := Tryd.zeroValue55
  t51 := Tryd.underlying80
  a51 := Tryd.isAgg80
  z51 := Tryd.sizeOf80
  v51 := Tryd.zeroValue80
  t53 := Tryd.underlying83
  a53 := Tryd.isAgg83
  z53 := Tryd.sizeOf83
  v53 := Tryd.zeroValue83
  t70 := Tryd.underlying62
  a70 := Tryd.isAgg62
  z70 := Tryd.sizeOf62
  v70 := Tryd.zeroValue62
  t72 := Tryd.underlying64
  a72 := Tryd.isAgg64
  z72 := Tryd.sizeOf64
  v72 := Tryd.zeroValue64
  t75 := Tryd.underlying67
  a75 := Tryd.isAgg67
  z75 := Tryd.sizeOf67
  v75 := Tryd.zeroValue67
  t76 := Tryd.underlying68
  a76 := Tryd.isAgg68
  z76 := Tryd.sizeOf68
  v76 := Tryd.zeroValue68
  t109 := Tryd.underlying59
  a109 := Tryd.isAgg59
  z109 := Tryd.sizeOf59
  v109 := Tryd.zeroValue59
  t127 := Tryd.underlying86
  a127 := Tryd.isAgg86
  z127 := Tryd.sizeOf86
  v127 := Tryd.zeroValue86
  t146 := Tryd.underlying81
  a146 := Tryd.isAgg81
  z146 := Tryd.sizeOf81
  v146 := Tryd.zeroValue81
  t148 := Tryd.underlying84
  a148 := Tryd.isAgg84
  z148 := Tryd.sizeOf84
  v148 := Tryd.zeroValue84
  t164 := Tryd.underlying100
  a164 := Tryd.isAgg100
  z164 := Tryd.sizeOf100
  v164 := Tryd.zeroValue100 }
theorem Tryd.Builder_Extra_105 : Builder.Extra Tryd.prog Tryd.lays105_ren := {
  sizeBuilder := by kernel_rfl
  liesBuilder := by kernel_rfl
  t5 := Tryd.underlying5
  a5 := Tryd.isAgg5
  z5 := Tryd.sizeOf5
  v5 := Tryd.zeroValue5
  infoByte := by kernel_rfl
  cellsByte := by kernel_rfl
  sizeByte := by kernel_rfl
  neB5 := by decide }
open Go.RowKit Go.Lib in theorem Tryd.strings_Repeat (s : ByteArray) (c : Nat) (w : World) (hc : c ≤ 9223372036854775807) (hlen : s.size * c ≤ 140737488355328) :
    Calls Tryd.prog 26 #[.string s, .int .i64 c] w fun e w' => e = .returned (.string ⟨(Lib.repeatL s.data.toList c).toArray⟩) ∧ Below w.heap.size w w' := Any.strings_Repeat Tryd.lays105 Tryd.Builder_Extra_105 s c w hc hlen
end Go.Proofs

/- Function 22 (strings.Split): its contract, off what is known of the library. -/
set_option linter.unusedVariables false
set_option linter.unusedSimpArgs false
set_option maxRecDepth 100000
namespace Go.Proofs.YticibijneahllaaDoor
open Go Go.Am Go.Proofs

def sig22 : List AT := [AT.v Ty.str, AT.v Ty.str]
def g22_0 (x0 x1 : ByteArray) : List ByteArray := Lib.splitB x1 0 (Lib.countB x0 x1) x0
def P22 (x0 x1 : ByteArray) : Prop := x0.size < 4294967281 ∧ 1 ≤ x1.size
def S22 : Am.Spec := { sig := sig22, pre := fun ⟨x0, x1, _⟩ => P22 x0 x1, res := fun ⟨x0, x1, _⟩ => [⟨Ty.sl Ty.str, g22_0 x0 x1⟩] }

theorem con22 : Contract Tryd.prog 22 S22 := by
  rintro w ⟨x0, x1, u⟩ vs bss hgo hp ⟨v0, s0, b0, bs0, rfl, rfl, ⟨rfl, rfl, _⟩, v1, s1, b1, bs1, rfl, rfl, ⟨rfl, rfl, _⟩, rfl, rfl⟩ hn
  obtain ⟨hs, h1⟩ : x0.size < 4294967281 ∧ 1 ≤ x1.size := hp
  obtain ⟨m, hm⟩ := maxLenG hgo.inv
  refine (Tryd.strings_Split x0 x1 m w hs hm h1).mono ?_
  rintro e w' ⟨rfl, rfl⟩
  have hlen : (g22_0 x0 x1).length = Lib.countB x0 x1 + 1 := Lib.splitB_all x1 h1 0 _ _ rfl
  have hle := Lib.countB_le x1 h1 x0.size x0 (Nat.le_refl _)
  have hparts : ∀ y ∈ g22_0 x0 x1, y.size ≤ maxLen := fun y hy => by
    have := splitB_part x1 0 _ _ y hy
    unfold maxLen; omega
  have e1 : ∀ xs : List ByteArray, fcs .str xs = xs.map Value.string := by
    intro xs
    induction xs with
    | nil => rfl
    | cons a r ih => unfold fcs at ih ⊢; rw [List.map_cons, List.flatten_cons, ih]; rfl
  have ho : OwnC (w.alloc (.cells ((g22_0 x0 x1).map Value.string).toArray 9)) (.sl .str) (g22_0 x0 x1) [.slice (some ⟨w.heap.size, 0, none⟩) (Lib.countB x0 x1 + 1) (Lib.countB x0 x1 + 1)] [w.heap.size] :=
    own_flat_mk rfl hparts hlen.symm (Nat.le_of_eq hlen) (by unfold maxLen; omega) (by rw [List.size_toArray, List.length_map, hlen]; simp [Ty.size]) (heap_new w _) (freeS_zero _ _) (fun j u hj => by
      rw [e1] at hj
      rw [Nat.zero_add, ← Array.getElem?_toList]
      exact hj)
  refine ⟨[_], [], [[w.heap.size]], rfl, (Kept.refl _ _).alloc _, ⟨_, _, _, _, _, rfl, rfl, ho, rfl, rfl, rfl⟩, ⟨rfl, rfl⟩, by simp, fun b hb hg => ?_⟩
  simp at hb
  have := hg.1
  omega

end Go.Proofs.YticibijneahllaaDoor

/- Function 12 (impl.endedLines): its runs between cut points. Written by a program of this repo (gen). -/
set_option linter.unusedVariables false
set_option linter.unusedSimpArgs false
set_option maxRecDepth 100000
namespace Go.Proofs.YticibijneahllaaDoor
open Go Go.Am Go.Proofs
def ext12 : Ext := [(22, S22)]
theorem call12_22 : Callable Tryd.prog 22 := ⟨Tryd.f22, Tryd.func22, by kernel_rfl, by kernel_rfl⟩
theorem ext12Ok : ExtOk Tryd.prog ext12 := ⟨⟨call12_22, con22⟩, trivial⟩
/-! Function 12. -/
noncomputable def b12 : Code := bodyOf Tryd.f12
theorem hb12 : Tryd.f12.body = some b12 := by kernel_rfl
def sig12 : List AT := [AT.v (Ty.str)]
def tys12 : List Ty := [Ty.sl Ty.str, Ty.str]
def P12 (x0 : ByteArray) : Prop := ((P22 x0 (ByteArray.mk #[10])) ∧ ((InR IntKind.i64 ((↑(List.length (g22_0 x0 (ByteArray.mk #[10]))) : Int) - 1)) ∧ ((0 ≤ (↑(List.length (g22_0 x0 (ByteArray.mk #[10]))) : Int) - 1) ∧ ((↑(List.length (g22_0 x0 (ByteArray.mk #[10]))) : Int) - 1 ≤ (↑(List.length (g22_0 x0 (ByteArray.mk #[10])) - 0) : Int)) ∧ ((0 ≤ (↑(List.length (g22_0 x0 (ByteArray.mk #[10]))) : Int) - 1) ∧ ((↑(List.length (g22_0 x0 (ByteArray.mk #[10]))) : Int) - 1 < (↑(List.length (g22_0 x0 (ByteArray.mk #[10]))) : Int)) ∧ True))))
def g12_0 (x0 : ByteArray) : List ByteArray := List.drop 0 (List.take (0 + Int.toNat ((↑(List.length (g22_0 x0 (ByteArray.mk #[10]))) : Int) - 1)) (g22_0 x0 (ByteArray.mk #[10])))
def g12_1 (x0 : ByteArray) : ByteArray := List.getD (g22_0 x0 (ByteArray.mk #[10])) (Int.toNat ((↑(List.length (g22_0 x0 (ByteArray.mk #[10]))) : Int) - 1)) ByteArray.empty
theorem p12_0 (x0 : ByteArray) : runF tab ext12 false 18 [] 2000 [] tys12 Tryd.f12.results [] [.code b12] (entE 0 0 sig12 (x0, ())) (entL sig12 (x0, ())) = some ([Dyn.mk (Ty.sl Ty.str) (List.drop 0 (List.take (0 + Int.toNat ((↑(List.length (g22_0 x0 (ByteArray.mk #[10]))) : Int) - 1)) (g22_0 x0 (ByteArray.mk #[10])))), Dyn.mk Ty.str (List.getD (g22_0 x0 (ByteArray.mk #[10])) (Int.toNat ((↑(List.length (g22_0 x0 (ByteArray.mk #[10]))) : Int) - 1)) ByteArray.empty)], [], [P22 x0 (ByteArray.mk #[10]), InR IntKind.i64 ((↑(List.length (g22_0 x0 (ByteArray.mk #[10]))) : Int) - 1), 0 ≤ (↑(List.length (g22_0 x0 (ByteArray.mk #[10]))) : Int) - 1, (↑(List.length (g22_0 x0 (ByteArray.mk #[10]))) : Int) - 1 ≤ (↑(List.length (g22_0 x0 (ByteArray.mk #[10])) - 0) : Int), 0 ≤ (↑(List.length (g22_0 x0 (ByteArray.mk #[10]))) : Int) - 1, (↑(List.length (g22_0 x0 (ByteArray.mk #[10]))) : Int) - 1 < (↑(List.length (g22_0 x0 (ByteArray.mk #[10]))) : Int)]) := by kernel_rfl
theorem at12 (x0 : ByteArray) (h : P12 x0) (w0 : World) (O : List Nat) (q : Nat → Value) : AtV Tryd.prog 12 (PostR [⟨Ty.sl Ty.str, g12_0 x0⟩, ⟨Ty.str, g12_1 x0⟩] [] [] q w0 O) 18 w0 O q [] [.code b12] (entE 0 0 sig12 (x0, ())) (entL sig12 (x0, ())) := by
  unfold P12 at h
  unfold g12_0 g12_1
  obtain ⟨s0, h⟩ := h
  obtain ⟨s1, h⟩ := h
  obtain ⟨s2, s3, h⟩ := h
  obtain ⟨s4, s5, h⟩ := h
  exact AtV.fin Tryd.func12 tabOk ext12Ok mixed (p12_0 x0) ⟨s0, s1, s2, s3, s4, s5, trivial⟩

def S12 : Am.Spec := { sig := sig12, pre := fun ⟨x0, _⟩ => P12 x0, res := fun ⟨x0, _⟩ => [⟨Ty.sl Ty.str, g12_0 x0⟩, ⟨Ty.str, g12_1 x0⟩] }
theorem con12 : Contract Tryd.prog 12 S12 := contract_of Tryd.func12 hb12 (Nat.le_of_ble_eq_true (by kernel_rfl)) (fun ⟨x0, _⟩ h _ w0 O q => at12 x0 h w0 O q)


end Go.Proofs.YticibijneahllaaDoor

/- Function 23 (strings.Cut): its contract, off what is known of the library. -/
set_option linter.unusedVariables false
set_option linter.unusedSimpArgs false
set_option maxRecDepth 100000
namespace Go.Proofs.YticibijneahllaaDoor
open Go Go.Am Go.Proofs

def sig23 : List AT := [AT.v Ty.str, AT.v Ty.str]
def g23_0 (x0 x1 : ByteArray) : ByteArray := ⟨(Lib.cut x0.data.toList x1.data.toList).1.toArray⟩
def g23_1 (x0 x1 : ByteArray) : ByteArray := ⟨(Lib.cut x0.data.toList x1.data.toList).2.1.toArray⟩
def g23_2 (x0 x1 : ByteArray) : Bool := (Lib.cut x0.data.toList x1.data.toList).2.2
def P23 (x0 x1 : ByteArray) : Prop := x0.size < 4294967281
def S23 : Am.Spec := { sig := sig23, pre := fun ⟨x0, x1, _⟩ => P23 x0 x1, res := fun ⟨x0, x1, _⟩ => [⟨Ty.str, g23_0 x0 x1⟩, ⟨Ty.str, g23_1 x0 x1⟩, ⟨Ty.bool, g23_2 x0 x1⟩] }
theorem cutLen23 (s sep : List UInt8) : (Lib.cut s sep).1.length ≤ s.length ∧ (Lib.cut s sep).2.1.length ≤ s.length := by
  unfold Lib.cut
  split
  · exact ⟨by simp; omega, by simp⟩
  · exact ⟨Nat.le_refl _, Nat.zero_le _⟩
theorem con23 : Contract Tryd.prog 23 S23 := contract_flat rfl fun w ⟨x0, x1, _⟩ vs bss hg hp hw ha => by
  obtain ⟨v0, s0, _, _, rfl, _, ⟨_, rfl, _⟩, v1, s1, _, _, rfl, _, ⟨_, rfl, _⟩, rfl, _⟩ := ha
  have hp : x0.size < 4294967281 := hp
  obtain ⟨l1, l2⟩ := cutLen23 x0.data.toList x1.data.toList
  have e : x0.data.toList.length = x0.size := rfl
  refine ⟨fun d hd => ?_, ?_⟩
  · simp only [S23, List.mem_cons, List.mem_nil_iff, or_false] at hd
    rcases hd with rfl | rfl | rfl
    · refine ⟨rfl, ?_⟩
      show (List.toArray _).size ≤ maxLen
      rw [List.size_toArray]; unfold maxLen; omega
    · refine ⟨rfl, ?_⟩
      show (List.toArray _).size ≤ maxLen
      rw [List.size_toArray]; unfold maxLen; omega
    · exact ⟨rfl, trivial⟩
  · obtain ⟨m, hm⟩ := maxLenG hg
    refine (Tryd.strings_Cut x0 x1 m w hp hm).mono ?_
    rintro e w' ⟨rfl, n, rfl⟩
    exact ⟨rfl, ⟨rfl, rfl, rfl, Nat.le_refl _, fun _ _ _ => rfl⟩⟩

end Go.Proofs.YticibijneahllaaDoor

/- Function 36 (impl.within): its runs between cut points. Written by a program of this repo (gen). -/
set_option linter.unusedVariables false
set_option linter.unusedSimpArgs false
set_option maxRecDepth 100000
namespace Go.Proofs.YticibijneahllaaDoor
open Go Go.Am Go.Proofs
def ext36 : Ext := []
theorem ext36Ok : ExtOk Tryd.prog ext36 := trivial
/-! Function 36. -/
noncomputable def b36 : Code := bodyOf Tryd.f36
theorem hb36 : Tryd.f36.body = some b36 := by kernel_rfl
def sig36 : List AT := [AT.v (Ty.int IntKind.i64), AT.v (Ty.int IntKind.i64), AT.v (Ty.int IntKind.i64)]
def tys36 : List Ty := [Ty.bool]
def P36 (x0 : Int) (x1 : Int) (x2 : Int) : Prop := True
def g36_0 (x0 : Int) (x1 : Int) (x2 : Int) : Bool := (if (Decidable.decide (x0 ≥ x1)) = true then Decidable.decide (x0 ≤ x2) else Bool.false)
theorem p36_0 (x0 : Int) (x1 : Int) (x2 : Int) : runF tab ext36 false 15 [] 2000 [] tys36 Tryd.f36.results [true] [.code b36] (entE 0 0 sig36 (x0, x1, x2, ())) (entL sig36 (x0, x1, x2, ())) = some ([Dyn.mk Ty.bool (Decidable.decide (x0 ≤ x2))], [], [Decidable.decide (x0 ≥ x1) = Bool.true]) := by kernel_rfl
theorem p36_1 (x0 : Int) (x1 : Int) (x2 : Int) : runF tab ext36 false 15 [] 2000 [] tys36 Tryd.f36.results [false] [.code b36] (entE 0 0 sig36 (x0, x1, x2, ())) (entL sig36 (x0, x1, x2, ())) = some ([Dyn.mk Ty.bool Bool.false], [], [Decidable.decide (x0 ≥ x1) = Bool.false]) := by kernel_rfl
theorem at36 (x0 : Int) (x1 : Int) (x2 : Int) (h : P36 x0 x1 x2) (w0 : World) (O : List Nat) (q : Nat → Value) : AtV Tryd.prog 36 (PostR [⟨Ty.bool, g36_0 x0 x1 x2⟩] [] [] q w0 O) 15 w0 O q [] [.code b36] (entE 0 0 sig36 (x0, x1, x2, ())) (entL sig36 (x0, x1, x2, ())) := by
  unfold P36 at h
  unfold g36_0
  by_cases b0 : (Decidable.decide (x0 ≥ x1)) = true
  · try simp only [if_pos b0] at h ⊢
    exact AtV.fin Tryd.func36 tabOk ext36Ok mixed (p36_0 x0 x1 x2) ⟨b0, trivial⟩
  · try simp only [if_neg b0] at h ⊢
    replace b0 := Bool.eq_false_iff.2 b0
    exact AtV.fin Tryd.func36 tabOk ext36Ok mixed (p36_1 x0 x1 x2) ⟨b0, trivial⟩

def S36 : Am.Spec := { sig := sig36, pre := fun ⟨x0, x1, x2, _⟩ => P36 x0 x1 x2, res := fun ⟨x0, x1, x2, _⟩ => [⟨Ty.bool, g36_0 x0 x1 x2⟩] }
theorem con36 : Contract Tryd.prog 36 S36 := contract_of Tryd.func36 hb36 (Nat.le_of_ble_eq_true (by kernel_rfl)) (fun ⟨x0, x1, x2, _⟩ h _ w0 O q => at36 x0 x1 x2 h w0 O q)


end Go.Proofs.YticibijneahllaaDoor

/- Function 25 (impl.Crc16): its runs between cut points. Written by a program of this repo (gen). -/
set_option linter.unusedVariables false
set_option linter.unusedSimpArgs false
set_option maxRecDepth 100000
namespace Go.Proofs.YticibijneahllaaDoor
open Go Go.Am Go.Proofs
def ext25 : Ext := [(36, S36)]
theorem call25_36 : Callable Tryd.prog 36 := ⟨Tryd.f36, Tryd.func36, by kernel_rfl, by kernel_rfl⟩
theorem ext25Ok : ExtOk Tryd.prog ext25 := ⟨⟨call25_36, con36⟩, trivial⟩
/-! Function 25. -/
noncomputable def b25 : Code := bodyOf Tryd.f25
theorem hb25 : Tryd.f25.body = some b25 := by kernel_rfl
def sig25 : List AT := [AT.v (Ty.str), AT.v (Ty.int IntKind.i64)]
def tys25 : List Ty := [Ty.int IntKind.i64]
def E25_5 (v15 : Int) (x1 : Int) (x0 : ByteArray) : Env := [(5, PV.a (Atom.val (Value.int IntKind.i64 x1))), (13, PV.a (Atom.osl 0 Option.none)), (14, PV.a (Atom.val (Value.int IntKind.i64 (↑(List.length (bytesOf x0)) : Int)))), (15, PV.a (Atom.val (Value.int IntKind.i64 v15)))]
def L25_5 (v15 : Int) (x1 : Int) (x0 : ByteArray) : Heap := [Option.some (Arr.mk (Ty.int IntKind.u8) (bytesOf x0) Bool.false)]
def E25_9 (v5 : Int) (v24 : Int) (x0 : ByteArray) (v15 : Int) : Env := [(5, PV.a (Atom.val (Value.int IntKind.i64 v5))), (13, PV.a (Atom.osl 0 Option.none)), (14, PV.a (Atom.val (Value.int IntKind.i64 (↑(List.length (bytesOf x0)) : Int)))), (15, PV.a (Atom.val (Value.int IntKind.i64 v15))), (24, PV.a (Atom.val (Value.int IntKind.i64 v24)))]
def L25_9 (v5 : Int) (v24 : Int) (x0 : ByteArray) (v15 : Int) : Heap := [Option.some (Arr.mk (Ty.int IntKind.u8) (bytesOf x0) Bool.false)]
mutual
def R25 : Nat → ByteArray → Int → List Dyn → Prop
  | 0, _, _, _ => False
  | n + 1, x0, x1, ds => (if (!g36_0 x1 0 65535) = true then (ds = [Dyn.mk (Ty.int IntKind.i64) 0]) else (R25_5 n (0) (x1) (x0) ds))
def R25_5 : Nat → Int → Int → ByteArray → List Dyn → Prop
  | 0, _, _, _, _ => False
  | n + 1, v15, x1, x0, ds => (if (Decidable.decide (v15 < (↑(List.length (bytesOf x0)) : Int))) = true then ((0 ≤ v15) ∧ (v15 < (↑(List.length (bytesOf x0)) : Int)) ∧ ((InR IntKind.i64 (List.getD (bytesOf x0) (Int.toNat v15) 0)) ∧ (R25_9 n (IntKind.wrap IntKind.i64 (↑(BitVec.toNat (BitVec.ofInt 64 x1 ^^^ BitVec.ofInt 64 (IntKind.wrap IntKind.i64 (List.getD (bytesOf x0) (Int.toNat v15) 0 * 256)))) : Int)) (0) (x0) (v15) ds))) else (ds = [Dyn.mk (Ty.int IntKind.i64) x1]))
def R25_9 : Nat → Int → Int → ByteArray → Int → List Dyn → Prop
  | 0, _, _, _, _, _ => False
  | n + 1, v5, v24, x0, v15, ds => (if (Decidable.decide (v24 < 8)) = true then (if (Decidable.decide (IntKind.wrap IntKind.i64 (v5 * 2) > 65535)) = true then ((InR IntKind.i64 (v24 + 1)) ∧ (R25_9 n (IntKind.wrap IntKind.i64 (↑(BitVec.toNat (BitVec.ofInt 64 (IntKind.wrap IntKind.i64 (↑(BitVec.toNat (BitVec.ofInt 64 (IntKind.wrap IntKind.i64 (v5 * 2)) &&& BitVec.ofInt 64 65535)) : Int)) ^^^ BitVec.ofInt 64 4129)) : Int)) (v24 + 1) (x0) (v15) ds)) else ((InR IntKind.i64 (v24 + 1)) ∧ (R25_9 n (IntKind.wrap IntKind.i64 (v5 * 2)) (v24 + 1) (x0) (v15) ds))) else ((InR IntKind.i64 (v15 + 1)) ∧ (R25_5 n (v15 + 1) (v5) (x0) ds)))
end
theorem p25_0 (x0 : ByteArray) (x1 : Int) : runF tab ext25 false 36 [] 2000 [] tys25 Tryd.f25.results [true] [.code b25] (entE 0 0 sig25 (x0, x1, ())) (entL sig25 (x0, x1, ())) = some ([Dyn.mk (Ty.int IntKind.i64) 0], [], [True, (!g36_0 x1 0 65535) = Bool.true]) := by kernel_rfl
theorem p25_1 (x0 : ByteArray) (x1 : Int) : Am.runN tab ext25 false 36 [] 2000 [] [] [5, 13, 14, 15] [0] [false] [.code b25] (entE 0 0 sig25 (x0, x1, ())) (entL sig25 (x0, x1, ())) = some (cutAt b25 5, E25_5 (0) (x1) (x0), L25_5 (0) (x1) (x0), [True, (!g36_0 x1 0 65535) = Bool.false]) := by kernel_rfl
theorem p25_2 (v15 : Int) (x1 : Int) (x0 : ByteArray) : Am.runN tab ext25 false 36 [] 2000 [] [] [5, 13, 14, 15, 24] [0] [true] (cutAt b25 5) (E25_5 v15 x1 x0) (L25_5 v15 x1 x0) = some (cutAt b25 9, E25_9 (IntKind.wrap IntKind.i64 (↑(BitVec.toNat (BitVec.ofInt 64 x1 ^^^ BitVec.ofInt 64 (IntKind.wrap IntKind.i64 (List.getD (bytesOf x0) (Int.toNat v15) 0 * 256)))) : Int)) (0) (x0) (v15), L25_9 (IntKind.wrap IntKind.i64 (↑(BitVec.toNat (BitVec.ofInt 64 x1 ^^^ BitVec.ofInt 64 (IntKind.wrap IntKind.i64 (List.getD (bytesOf x0) (Int.toNat v15) 0 * 256)))) : Int)) (0) (x0) (v15), [Decidable.decide (v15 < (↑(List.length (bytesOf x0)) : Int)) = Bool.true, 0 ≤ v15, v15 < (↑(List.length (bytesOf x0)) : Int), InR IntKind.i64 (List.getD (bytesOf x0) (Int.toNat v15) 0), (0 : Int) ≤ (8 : Int)]) := by kernel_rfl
theorem p25_3 (v15 : Int) (x1 : Int) (x0 : ByteArray) : runF tab ext25 false 36 [] 2000 [] tys25 Tryd.f25.results [false] (cutAt b25 5) (E25_5 v15 x1 x0) (L25_5 v15 x1 x0) = some ([Dyn.mk (Ty.int IntKind.i64) x1], [], [Decidable.decide (v15 < (↑(List.length (bytesOf x0)) : Int)) = Bool.false]) := by kernel_rfl
theorem p25_4 (v5 : Int) (v24 : Int) (x0 : ByteArray) (v15 : Int) : Am.runN tab ext25 false 36 [] 2000 [] [] [5, 13, 14, 15, 24] [0] [true, true] (cutAt b25 9) (E25_9 v5 v24 x0 v15) (L25_9 v5 v24 x0 v15) = some (cutAt b25 9, E25_9 (IntKind.wrap IntKind.i64 (↑(BitVec.toNat (BitVec.ofInt 64 (IntKind.wrap IntKind.i64 (↑(BitVec.toNat (BitVec.ofInt 64 (IntKind.wrap IntKind.i64 (v5 * 2)) &&& BitVec.ofInt 64 65535)) : Int)) ^^^ BitVec.ofInt 64 4129)) : Int)) (v24 + 1) (x0) (v15), L25_9 (IntKind.wrap IntKind.i64 (↑(BitVec.toNat (BitVec.ofInt 64 (IntKind.wrap IntKind.i64 (↑(BitVec.toNat (BitVec.ofInt 64 (IntKind.wrap IntKind.i64 (v5 * 2)) &&& BitVec.ofInt 64 65535)) : Int)) ^^^ BitVec.ofInt 64 4129)) : Int)) (v24 + 1) (x0) (v15), [Decidable.decide (v24 < 8) = Bool.true, (0 : Int) ≤ (1 : Int), Decidable.decide (IntKind.wrap IntKind.i64 (v5 * 2) > 65535) = Bool.true, InR IntKind.i64 (v24 + 1)]) := by kernel_rfl
theorem p25_5 (v5 : Int) (v24 : Int) (x0 : ByteArray) (v15 : Int) : Am.runN tab ext25 false 36 [] 2000 [] [] [5, 13, 14, 15, 24] [0] [true, false] (cutAt b25 9) (E25_9 v5 v24 x0 v15) (L25_9 v5 v24 x0 v15) = some (cutAt b25 9, E25_9 (IntKind.wrap IntKind.i64 (v5 * 2)) (v24 + 1) (x0) (v15), L25_9 (IntKind.wrap IntKind.i64 (v5 * 2)) (v24 + 1) (x0) (v15), [Decidable.decide (v24 < 8) = Bool.true, (0 : Int) ≤ (1 : Int), Decidable.decide (IntKind.wrap IntKind.i64 (v5 * 2) > 65535) = Bool.false, InR IntKind.i64 (v24 + 1)]) := by kernel_rfl
theorem p25_6 (v5 : Int) (v24 : Int) (x0 : ByteArray) (v15 : Int) : Am.runN tab ext25 false 36 [] 2000 [] [] [5, 13, 14, 15] [0] [false] (cutAt b25 9) (E25_9 v5 v24 x0 v15) (L25_9 v5 v24 x0 v15) = some (cutAt b25 5, E25_5 (v15 + 1) (v5) (x0), L25_5 (v15 + 1) (v5) (x0), [Decidable.decide (v24 < 8) = Bool.false, InR IntKind.i64 (v15 + 1)]) := by kernel_rfl
theorem snd25 : ∀ n, (∀ (x0 : ByteArray) (x1 : Int) ds, R25 n x0 x1 ds → ∀ w0 O q, AtV Tryd.prog 25 (PostR ds [] [] q w0 O) 36 w0 O q [] [.code b25] (entE 0 0 sig25 (x0, x1, ())) (entL sig25 (x0, x1, ()))) ∧ (∀ (v15 : Int) (x1 : Int) (x0 : ByteArray) ds, R25_5 n v15 x1 x0 ds → ∀ w0 O q, AtV Tryd.prog 25 (PostR ds [] [] q w0 O) 36 w0 O q [] (cutAt b25 5) (E25_5 v15 x1 x0) (L25_5 v15 x1 x0)) ∧ (∀ (v5 : Int) (v24 : Int) (x0 : ByteArray) (v15 : Int) ds, R25_9 n v5 v24 x0 v15 ds → ∀ w0 O q, AtV Tryd.prog 25 (PostR ds [] [] q w0 O) 36 w0 O q [] (cutAt b25 9) (E25_9 v5 v24 x0 v15) (L25_9 v5 v24 x0 v15)) := by
  intro n
  induction n with
  | zero => exact ⟨fun _ _ _ h => by simp only [R25] at h, fun _ _ _ _ h => by simp only [R25_5] at h, fun _ _ _ _ _ h => by simp only [R25_9] at h⟩
  | succ n ih =>
  obtain ⟨ih, ih5, ih9⟩ := ih
  refine ⟨?_, ?_, ?_⟩
  · intro x0 x1 ds h w0 O q
    rw [R25] at h
    by_cases b0 : (!g36_0 x1 0 65535) = true
    · rw [if_pos b0] at h
      subst h
      exact AtV.fin Tryd.func25 tabOk ext25Ok mixed (p25_0 x0 x1) ⟨trivial, b0, trivial⟩
    · rw [if_neg b0] at h
      replace b0 := Bool.eq_false_iff.2 b0
      exact AtV.runN tabOk ext25Ok mixed (p25_1 x0 x1) ⟨trivial, b0, trivial⟩ (ih5 _ _ _ _ h w0 O q)

  · intro v15 x1 x0 ds h w0 O q
    rw [R25_5] at h
    by_cases b0 : (Decidable.decide (v15 < (↑(List.length (bytesOf x0)) : Int))) = true
    · rw [if_pos b0] at h
      obtain ⟨s0, s1, h⟩ := h
      obtain ⟨s2, h⟩ := h
      exact AtV.runN tabOk ext25Ok mixed (p25_2 v15 x1 x0) ⟨b0, s0, s1, s2, (by decide), trivial⟩ (ih9 _ _ _ _ _ h w0 O q)
    · rw [if_neg b0] at h
      replace b0 := Bool.eq_false_iff.2 b0
      subst h
      exact AtV.fin Tryd.func25 tabOk ext25Ok mixed (p25_3 v15 x1 x0) ⟨b0, trivial⟩

  · intro v5 v24 x0 v15 ds h w0 O q
    rw [R25_9] at h
    by_cases b0 : (Decidable.decide (v24 < 8)) = true
    · rw [if_pos b0] at h
      by_cases b1 : (Decidable.decide (IntKind.wrap IntKind.i64 (v5 * 2) > 65535)) = true
      · rw [if_pos b1] at h
        obtain ⟨s0, h⟩ := h
        exact AtV.runN tabOk ext25Ok mixed (p25_4 v5 v24 x0 v15) ⟨b0, (by decide), b1, s0, trivial⟩ (ih9 _ _ _ _ _ h w0 O q)
      · rw [if_neg b1] at h
        replace b1 := Bool.eq_false_iff.2 b1
        obtain ⟨s0, h⟩ := h
        exact AtV.runN tabOk ext25Ok mixed (p25_5 v5 v24 x0 v15) ⟨b0, (by decide), b1, s0, trivial⟩ (ih9 _ _ _ _ _ h w0 O q)
    · rw [if_neg b0] at h
      replace b0 := Bool.eq_false_iff.2 b0
      obtain ⟨s0, h⟩ := h
      exact AtV.runN tabOk ext25Ok mixed (p25_6 v5 v24 x0 v15) ⟨b0, s0, trivial⟩ (ih5 _ _ _ _ h w0 O q)



def bit25 (s : Int) : Int := if (Decidable.decide (IntKind.wrap IntKind.i64 (s * 2) > 65535)) = true then (IntKind.wrap IntKind.i64 (↑(BitVec.toNat (BitVec.ofInt 64 (IntKind.wrap IntKind.i64 (↑(BitVec.toNat (BitVec.ofInt 64 (IntKind.wrap IntKind.i64 (s * 2)) &&& BitVec.ofInt 64 65535)) : Int)) ^^^ BitVec.ofInt 64 4129)) : Int)) else (IntKind.wrap IntKind.i64 (s * 2))
def bits25 : Nat → Int → Int
  | 0, s => s
  | k + 1, s => bits25 k (bit25 s)
def byte25 (s c : Int) : Int := bits25 8 (IntKind.wrap IntKind.i64 (↑(BitVec.toNat (BitVec.ofInt 64 s ^^^ BitVec.ofInt 64 (IntKind.wrap IntKind.i64 (c * 256)))) : Int))
def g25_0 (x0 : ByteArray) (x1 : Int) : Int := if (!g36_0 x1 0 65535) = true then 0 else (bytesOf x0).foldl byte25 x1
def P25 (x0 : ByteArray) (x1 : Int) : Prop := True

theorem inner25 (x0 : ByteArray) (hm : (bytesOf x0).length ≤ maxLen) (i n : Nat) (hi : i < (bytesOf x0).length) (ds : List Dyn) : ∀ (k j : Nat) (s : Int), j + k = 8 → R25_5 n ((i : Int) + 1) (bits25 k s) x0 ds → R25_9 (n + 1 + k) s (j : Int) x0 (i : Int) ds := by
  intro k
  induction k with
  | zero =>
    intro j s hj hr
    rw [R25_9, if_neg (by simp; omega)]
    exact ⟨inR_up hm hi, hr⟩
  | succ k ih =>
    intro j s hj hr
    have e2 : (j : Int) + 1 = ((j + 1 : Nat) : Int) := by omega
    rw [show n + 1 + (k + 1) = (n + 1 + k) + 1 by omega, R25_9, if_pos (by simp; omega)]
    unfold bits25 bit25 at hr
    by_cases hc : (Decidable.decide (IntKind.wrap IntKind.i64 (s * 2) > 65535)) = true
    · rw [if_pos hc] at hr ⊢
      rw [e2]
      exact ⟨by rw [i64_iff]; omega, ih (j + 1) _ (by omega) hr⟩
    · rw [if_neg hc] at hr ⊢
      rw [e2]
      exact ⟨by rw [i64_iff]; omega, ih (j + 1) _ (by omega) hr⟩

theorem run25 (x0 : ByteArray) (hm : x0.size ≤ maxLen) : ∀ (k i : Nat) (s : Int), i + k = x0.size → ∃ n, R25_5 n (i : Int) s x0 [⟨.int .i64, ((bytesOf x0).drop i).foldl byte25 s⟩] := by
  intro k
  have hl := bytesOf_length x0
  induction k with
  | zero =>
    intro i s hi
    refine ⟨1, ?_⟩
    rw [R25_5, if_neg (by rw [hl]; simp; omega), List.drop_of_length_le (by omega)]
    rfl
  | succ k ih =>
    intro i s hi
    have hlt : i < (bytesOf x0).length := by omega
    have hcons := drop_get (bytesOf x0) i 0 hlt
    obtain ⟨n, hn⟩ := ih (i + 1) (byte25 s ((bytesOf x0).getD i 0)) (by omega)
    refine ⟨n + 1 + 8 + 1, ?_⟩
    have hb := bytesOf_range x0 _ (mem_getD (bytesOf x0) i 0 hlt)
    rw [R25_5, if_pos (by rw [hl]; simp; omega)]
    simp only [Int.toNat_natCast]
    rw [hcons, List.foldl_cons]
    exact ⟨by omega, by omega, by rw [i64_iff]; omega, inner25 x0 (by rw [hl]; exact hm) i n hlt _ 8 0 _ (by omega) hn⟩

theorem top25 (x0 : ByteArray) (x1 : Int) (hm : x0.size ≤ maxLen) : ∃ n, R25 n x0 x1 [⟨.int .i64, g25_0 x0 x1⟩] := by
  obtain ⟨n, hn⟩ := run25 x0 hm x0.size 0 x1 (by omega)
  refine ⟨n + 1, ?_⟩
  rw [R25]
  unfold g25_0
  by_cases hc : (!g36_0 x1 0 65535) = true
  · rw [if_pos hc, if_pos hc]
  · rw [if_neg hc, if_neg hc]
    exact hn

def S25 : Am.Spec := { sig := sig25, pre := fun ⟨x0, x1, _⟩ => P25 x0 x1, res := fun ⟨x0, x1, _⟩ => [⟨Ty.int .i64, g25_0 x0 x1⟩] }
theorem con25 : Contract Tryd.prog 25 S25 := contract_of Tryd.func25 hb25 (Nat.le_of_ble_eq_true (by kernel_rfl)) (fun ⟨x0, x1, _⟩ h hwf w0 O q =>
  let ⟨n, hn⟩ := top25 x0 x1 hwf.1
  (snd25 n).1 x0 x1 _ hn w0 O q)

end Go.Proofs.YticibijneahllaaDoor

/- Function 35 (strconv.FormatInt): its contract, off what is known of the library. -/
set_option linter.unusedVariables false
set_option linter.unusedSimpArgs false
set_option maxRecDepth 100000
namespace Go.Proofs.YticibijneahllaaDoor
open Go Go.Am Go.Proofs

def sig35 : List AT := [AT.v (Ty.int .i64), AT.v (Ty.int .i64)]
def g35_0 (x0 x1 : Int) : ByteArray := numB x0
def P35 (x0 x1 : Int) : Prop := x1 = 10
def S35 : Am.Spec := { sig := sig35, pre := fun ⟨x0, x1, _⟩ => P35 x0 x1, res := fun ⟨x0, x1, _⟩ => [⟨Ty.str, g35_0 x0 x1⟩] }
theorem con35 : Contract Tryd.prog 35 S35 := contract_flat rfl fun w ⟨x0, x1, _⟩ vs bss hg hp hw ha => by
  obtain ⟨v0, s0, _, _, rfl, _, ⟨_, rfl, hi⟩, v1, s1, _, _, rfl, _, ⟨_, rfl, _⟩, rfl, _⟩ := ha
  obtain rfl : x1 = 10 := hp
  have hi : InR .i64 x0 := hi
  rw [i64_iff] at hi
  refine ⟨fun d hd => ?_, ?_⟩
  · rw [List.mem_singleton.1 hd]
    refine ⟨rfl, ?_⟩
    show (numB x0).size ≤ maxLen
    have := numB_size x0 hi.1 hi.2
    unfold maxLen; omega
  · refine (Tryd.strconv_FormatInt_10 x0 hi.1 hi.2 w (pow10G hg)).mono ?_
    rintro e w' ⟨rfl, n, os, rfl⟩
    exact ⟨rfl, kept_grow _ _ _⟩

end Go.Proofs.YticibijneahllaaDoor

/- Function 24 (impl.Decimal): its runs between cut points. Written by a program of this repo (gen). -/
set_option linter.unusedVariables false
set_option linter.unusedSimpArgs false
set_option maxRecDepth 100000
namespace Go.Proofs.YticibijneahllaaDoor
open Go Go.Am Go.Proofs
def ext24 : Ext := [(35, S35)]
theorem call24_35 : Callable Tryd.prog 35 := ⟨Tryd.f35, Tryd.func35, by kernel_rfl, by kernel_rfl⟩
theorem ext24Ok : ExtOk Tryd.prog ext24 := ⟨⟨call24_35, con35⟩, trivial⟩
/-! Function 24. -/
noncomputable def b24 : Code := bodyOf Tryd.f24
theorem hb24 : Tryd.f24.body = some b24 := by kernel_rfl
def sig24 : List AT := [AT.v (Ty.int IntKind.i64)]
def tys24 : List Ty := [Ty.str]
def P24 (x0 : Int) : Prop := ((P35 x0 10) ∧ True)
def g24_0 (x0 : Int) : ByteArray := g35_0 x0 10
theorem p24_0 (x0 : Int) : runF tab ext24 false 5 [] 2000 [] tys24 Tryd.f24.results [] [.code b24] (entE 0 0 sig24 (x0, ())) (entL sig24 (x0, ())) = some ([Dyn.mk Ty.str (g35_0 x0 10)], [], [P35 x0 10]) := by kernel_rfl
theorem at24 (x0 : Int) (h : P24 x0) (w0 : World) (O : List Nat) (q : Nat → Value) : AtV Tryd.prog 24 (PostR [⟨Ty.str, g24_0 x0⟩] [] [] q w0 O) 5 w0 O q [] [.code b24] (entE 0 0 sig24 (x0, ())) (entL sig24 (x0, ())) := by
  unfold P24 at h
  unfold g24_0
  obtain ⟨s0, h⟩ := h
  exact AtV.fin Tryd.func24 tabOk ext24Ok mixed (p24_0 x0) ⟨s0, trivial⟩

def S24 : Am.Spec := { sig := sig24, pre := fun ⟨x0, _⟩ => P24 x0, res := fun ⟨x0, _⟩ => [⟨Ty.str, g24_0 x0⟩] }
theorem con24 : Contract Tryd.prog 24 S24 := contract_of Tryd.func24 hb24 (Nat.le_of_ble_eq_true (by kernel_rfl)) (fun ⟨x0, _⟩ h _ w0 O q => at24 x0 h w0 O q)


end Go.Proofs.YticibijneahllaaDoor

/- Function 26 (strings.Repeat): its contract, off what is known of the library. -/
set_option linter.unusedVariables false
set_option linter.unusedSimpArgs false
set_option maxRecDepth 100000
namespace Go.Proofs.YticibijneahllaaDoor
open Go Go.Am Go.Proofs

def sig26 : List AT := [AT.v Ty.str, AT.v (Ty.int .i64)]
def g26_0 (x0 : ByteArray) (x1 : Int) : ByteArray := ⟨(Lib.repeatL x0.data.toList x1.toNat).toArray⟩
def P26 (x0 : ByteArray) (x1 : Int) : Prop := 0 ≤ x1 ∧ (x0.size : Int) * x1 ≤ 140737488355328
def S26 : Am.Spec := { sig := sig26, pre := fun ⟨x0, x1, _⟩ => P26 x0 x1, res := fun ⟨x0, x1, _⟩ => [⟨Ty.str, g26_0 x0 x1⟩] }
theorem con26 : Contract Tryd.prog 26 S26 := contract_flat rfl fun w ⟨x0, x1, _⟩ vs bss hg hp hw ha => by
  obtain ⟨v0, s0, _, _, rfl, _, ⟨_, rfl, _⟩, v1, s1, _, _, rfl, _, ⟨_, rfl, _⟩, rfl, _⟩ := ha
  obtain ⟨h0, h1⟩ := hp
  obtain ⟨c, rfl⟩ : ∃ c : Nat, x1 = (c : Int) := Int.eq_ofNat_of_zero_le h0
  have hi : InR .i64 (c : Int) := hw.2.1
  rw [i64_iff] at hi
  have hm : x0.size * c ≤ 140737488355328 := by
    have : ((x0.size * c : Nat) : Int) = (x0.size : Int) * (c : Int) := Int.natCast_mul _ _
    omega
  refine ⟨fun d hd => ?_, ?_⟩
  · rw [List.mem_singleton.1 hd]
    refine ⟨rfl, ?_⟩
    show (ByteArray.mk (Lib.repeatL x0.data.toList c).toArray).size ≤ maxLen
    have : (ByteArray.mk (Lib.repeatL x0.data.toList c).toArray).size = c * x0.data.toList.length := by
      show (Lib.repeatL x0.data.toList c).toArray.size = _
      rw [List.size_toArray, Lib.repeatL_length]
    rw [this, Nat.mul_comm]
    have e : x0.data.toList.length = x0.size := rfl
    rw [e]
    unfold maxLen
    omega
  · refine (Tryd.strings_Repeat x0 c w (by omega) hm).mono ?_
    rintro e w' ⟨rfl, hb⟩
    exact ⟨rfl, Kept.of_below hb⟩

end Go.Proofs.YticibijneahllaaDoor

/- Function 43 (impl.IsName): its runs between cut points. Written by a program of this repo (gen). -/
set_option linter.unusedVariables false
set_option linter.unusedSimpArgs false
set_option maxRecDepth 100000
namespace Go.Proofs.YticibijneahllaaDoor
open Go Go.Am Go.Proofs
def ext43 : Ext := []
theorem ext43Ok : ExtOk Tryd.prog ext43 := trivial
/-! Function 43. -/
noncomputable def b43 : Code := bodyOf Tryd.f43
theorem hb43 : Tryd.f43.body = some b43 := by kernel_rfl
def sig43 : List AT := [AT.v (Ty.str)]
def tys43 : List Ty := [Ty.bool]
def E43_4 (v18 : Int) (x0 : ByteArray) : Env := [(16, PV.a (Atom.osl 0 Option.none)), (17, PV.a (Atom.val (Value.int IntKind.i64 (↑(List.length (bytesOf x0)) : Int)))), (18, PV.a (Atom.val (Value.int IntKind.i64 v18)))]
def L43_4 (v18 : Int) (x0 : ByteArray) : Heap := [Option.some (Arr.mk (Ty.int IntKind.u8) (bytesOf x0) Bool.false)]
mutual
def R43 : Nat → ByteArray → List Dyn → Prop
  | 0, _, _ => False
  | n + 1, x0, ds => (if (Decidable.decide ((↑(ByteArray.size x0) : Int) < 1)) = true then (ds = [Dyn.mk Ty.bool Bool.false]) else (if (Decidable.decide ((↑(ByteArray.size x0) : Int) > 10)) = true then (ds = [Dyn.mk Ty.bool Bool.false]) else (R43_4 n (0) (x0) ds)))
def R43_4 : Nat → Int → ByteArray → List Dyn → Prop
  | 0, _, _, _ => False
  | n + 1, v18, x0, ds => (if (Decidable.decide (v18 < (↑(List.length (bytesOf x0)) : Int))) = true then ((0 ≤ v18) ∧ (v18 < (↑(List.length (bytesOf x0)) : Int)) ∧ (if (Decidable.decide (List.getD (bytesOf x0) (Int.toNat v18) 0 ≥ 97)) = true then (if (Decidable.decide (List.getD (bytesOf x0) (Int.toNat v18) 0 ≥ 48)) = true then (if (!Decidable.decide (List.getD (bytesOf x0) (Int.toNat v18) 0 ≤ 122)) = true then (if (v18 == 0) = true then (ds = [Dyn.mk Ty.bool Bool.false]) else (if (!Decidable.decide (List.getD (bytesOf x0) (Int.toNat v18) 0 ≤ 57)) = true then (ds = [Dyn.mk Ty.bool Bool.false]) else ((InR IntKind.i64 (v18 + 1)) ∧ (R43_4 n (v18 + 1) (x0) ds)))) else ((InR IntKind.i64 (v18 + 1)) ∧ (R43_4 n (v18 + 1) (x0) ds))) else (if (!Decidable.decide (List.getD (bytesOf x0) (Int.toNat v18) 0 ≤ 122)) = true then (if (v18 == 0) = true then (ds = [Dyn.mk Ty.bool Bool.false]) else (ds = [Dyn.mk Ty.bool Bool.false])) else ((InR IntKind.i64 (v18 + 1)) ∧ (R43_4 n (v18 + 1) (x0) ds)))) else (if (Decidable.decide (List.getD (bytesOf x0) (Int.toNat v18) 0 ≥ 48)) = true then (if (v18 == 0) = true then (ds = [Dyn.mk Ty.bool Bool.false]) else (if (!Decidable.decide (List.getD (bytesOf x0) (Int.toNat v18) 0 ≤ 57)) = true then (ds = [Dyn.mk Ty.bool Bool.false]) else ((InR IntKind.i64 (v18 + 1)) ∧ (R43_4 n (v18 + 1) (x0) ds)))) else (if (v18 == 0) = true then (ds = [Dyn.mk Ty.bool Bool.false]) else (ds = [Dyn.mk Ty.bool Bool.false]))))) else (ds = [Dyn.mk Ty.bool Bool.true]))
end
theorem p43_0 (x0 : ByteArray) : runF tab ext43 false 46 [] 2000 [] tys43 Tryd.f43.results [true, true] [.code b43] (entE 0 0 sig43 (x0, ())) (entL sig43 (x0, ())) = some ([Dyn.mk Ty.bool Bool.false], [], [Decidable.decide ((↑(ByteArray.size x0) : Int) < 1) = Bool.true, Bool.true = Bool.true]) := by kernel_rfl
theorem p43_1 (x0 : ByteArray) : runF tab ext43 false 46 [] 2000 [] tys43 Tryd.f43.results [false, true] [.code b43] (entE 0 0 sig43 (x0, ())) (entL sig43 (x0, ())) = some ([Dyn.mk Ty.bool Bool.false], [], [Decidable.decide ((↑(ByteArray.size x0) : Int) < 1) = Bool.false, Decidable.decide ((↑(ByteArray.size x0) : Int) > 10) = Bool.true]) := by kernel_rfl
theorem p43_2 (x0 : ByteArray) : Am.runN tab ext43 false 46 [] 2000 [] [] [16, 17, 18] [0] [false, false] [.code b43] (entE 0 0 sig43 (x0, ())) (entL sig43 (x0, ())) = some (cutAt b43 4, E43_4 (0) (x0), L43_4 (0) (x0), [Decidable.decide ((↑(ByteArray.size x0) : Int) < 1) = Bool.false, Decidable.decide ((↑(ByteArray.size x0) : Int) > 10) = Bool.false]) := by kernel_rfl
theorem p43_3 (v18 : Int) (x0 : ByteArray) : runF tab ext43 false 46 [] 2000 [] tys43 Tryd.f43.results [true, true, true, true, true, true] (cutAt b43 4) (E43_4 v18 x0) (L43_4 v18 x0) = some ([Dyn.mk Ty.bool Bool.false], [], [Decidable.decide (v18 < (↑(List.length (bytesOf x0)) : Int)) = Bool.true, 0 ≤ v18, v18 < (↑(List.length (bytesOf x0)) : Int), Decidable.decide (List.getD (bytesOf x0) (Int.toNat v18) 0 ≥ 97) = Bool.true, Decidable.decide (List.getD (bytesOf x0) (Int.toNat v18) 0 ≥ 48) = Bool.true, (!Decidable.decide (List.getD (bytesOf x0) (Int.toNat v18) 0 ≤ 122)) = Bool.true, (v18 == 0) = Bool.true, Bool.true = Bool.true]) := by kernel_rfl
theorem p43_4 (v18 : Int) (x0 : ByteArray) : runF tab ext43 false 46 [] 2000 [] tys43 Tryd.f43.results [true, true, true, true, false, true] (cutAt b43 4) (E43_4 v18 x0) (L43_4 v18 x0) = some ([Dyn.mk Ty.bool Bool.false], [], [Decidable.decide (v18 < (↑(List.length (bytesOf x0)) : Int)) = Bool.true, 0 ≤ v18, v18 < (↑(List.length (bytesOf x0)) : Int), Decidable.decide (List.getD (bytesOf x0) (Int.toNat v18) 0 ≥ 97) = Bool.true, Decidable.decide (List.getD (bytesOf x0) (Int.toNat v18) 0 ≥ 48) = Bool.true, (!Decidable.decide (List.getD (bytesOf x0) (Int.toNat v18) 0 ≤ 122)) = Bool.true, (v18 == 0) = Bool.false, (!Decidable.decide (List.getD (bytesOf x0) (Int.toNat v18) 0 ≤ 57)) = Bool.true]) := by kernel_rfl
theorem p43_5 (v18 : Int) (x0 : ByteArray) : Am.runN tab ext43 false 46 [] 2000 [] [] [16, 17, 18] [0] [true, true, true, true, false, false] (cutAt b43 4) (E43_4 v18 x0) (L43_4 v18 x0) = some (cutAt b43 4, E43_4 (v18 + 1) (x0), L43_4 (v18 + 1) (x0), [Decidable.decide (v18 < (↑(List.length (bytesOf x0)) : Int)) = Bool.true, 0 ≤ v18, v18 < (↑(List.length (bytesOf x0)) : Int), Decidable.decide (List.getD (bytesOf x0) (Int.toNat v18) 0 ≥ 97) = Bool.true, Decidable.decide (List.getD (bytesOf x0) (Int.toNat v18) 0 ≥ 48) = Bool.true, (!Decidable.decide (List.getD (bytesOf x0) (Int.toNat v18) 0 ≤ 122)) = Bool.true, (v18 == 0) = Bool.false, (!Decidable.decide (List.getD (bytesOf x0) (Int.toNat v18) 0 ≤ 57)) = Bool.false, InR IntKind.i64 (v18 + 1)]) := by kernel_rfl
theorem p43_6 (v18 : Int) (x0 : ByteArray) : Am.runN tab ext43 false 46 [] 2000 [] [] [16, 17, 18] [0] [true, true, true, false, false] (cutAt b43 4) (E43_4 v18 x0) (L43_4 v18 x0) = some (cutAt b43 4, E43_4 (v18 + 1) (x0), L43_4 (v18 + 1) (x0), [Decidable.decide (v18 < (↑(List.length (bytesOf x0)) : Int)) = Bool.true, 0 ≤ v18, v18 < (↑(List.length (bytesOf x0)) : Int), Decidable.decide (List.getD (bytesOf x0) (Int.toNat v18) 0 ≥ 97) = Bool.true, Decidable.decide (List.getD (bytesOf x0) (Int.toNat v18) 0 ≥ 48) = Bool.true, (!Decidable.decide (List.getD (bytesOf x0) (Int.toNat v18) 0 ≤ 122)) = Bool.false, Bool.false = Bool.false, InR IntKind.i64 (v18 + 1)]) := by kernel_rfl
theorem p43_7 (v18 : Int) (x0 : ByteArray) : runF tab ext43 false 46 [] 2000 [] tys43 Tryd.f43.results [true, true, false, true, true, true] (cutAt b43 4) (E43_4 v18 x0) (L43_4 v18 x0) = some ([Dyn.mk Ty.bool Bool.false], [], [Decidable.decide (v18 < (↑(List.length (bytesOf x0)) : Int)) = Bool.true, 0 ≤ v18, v18 < (↑(List.length (bytesOf x0)) : Int), Decidable.decide (List.getD (bytesOf x0) (Int.toNat v18) 0 ≥ 97) = Bool.true, Decidable.decide (List.getD (bytesOf x0) (Int.toNat v18) 0 ≥ 48) = Bool.false, (!Decidable.decide (List.getD (bytesOf x0) (Int.toNat v18) 0 ≤ 122)) = Bool.true, (v18 == 0) = Bool.true, Bool.true = Bool.true]) := by kernel_rfl
theorem p43_8 (v18 : Int) (x0 : ByteArray) : runF tab ext43 false 46 [] 2000 [] tys43 Tryd.f43.results [true, true, false, true, false, true] (cutAt b43 4) (E43_4 v18 x0) (L43_4 v18 x0) = some ([Dyn.mk Ty.bool Bool.false], [], [Decidable.decide (v18 < (↑(List.length (bytesOf x0)) : Int)) = Bool.true, 0 ≤ v18, v18 < (↑(List.length (bytesOf x0)) : Int), Decidable.decide (List.getD (bytesOf x0) (Int.toNat v18) 0 ≥ 97) = Bool.true, Decidable.decide (List.getD (bytesOf x0) (Int.toNat v18) 0 ≥ 48) = Bool.false, (!Decidable.decide (List.getD (bytesOf x0) (Int.toNat v18) 0 ≤ 122)) = Bool.true, (v18 == 0) = Bool.false, Bool.true = Bool.true]) := by kernel_rfl
theorem p43_9 (v18 : Int) (x0 : ByteArray) : Am.runN tab ext43 false 46 [] 2000 [] [] [16, 17, 18] [0] [true, true, false, false, false] (cutAt b43 4) (E43_4 v18 x0) (L43_4 v18 x0) = some (cutAt b43 4, E43_4 (v18 + 1) (x0), L43_4 (v18 + 1) (x0), [Decidable.decide (v18 < (↑(List.length (bytesOf x0)) : Int)) = Bool.true, 0 ≤ v18, v18 < (↑(List.length (bytesOf x0)) : Int), Decidable.decide (List.getD (bytesOf x0) (Int.toNat v18) 0 ≥ 97) = Bool.true, Decidable.decide (List.getD (bytesOf x0) (Int.toNat v18) 0 ≥ 48) = Bool.false, (!Decidable.decide (List.getD (bytesOf x0) (Int.toNat v18) 0 ≤ 122)) = Bool.false, Bool.false = Bool.false, InR IntKind.i64 (v18 + 1)]) := by kernel_rfl
theorem p43_10 (v18 : Int) (x0 : ByteArray) : runF tab ext43 false 46 [] 2000 [] tys43 Tryd.f43.results [true, false, true, true, true, true] (cutAt b43 4) (E43_4 v18 x0) (L43_4 v18 x0) = some ([Dyn.mk Ty.bool Bool.false], [], [Decidable.decide (v18 < (↑(List.length (bytesOf x0)) : Int)) = Bool.true, 0 ≤ v18, v18 < (↑(List.length (bytesOf x0)) : Int), Decidable.decide (List.getD (bytesOf x0) (Int.toNat v18) 0 ≥ 97) = Bool.false, Decidable.decide (List.getD (bytesOf x0) (Int.toNat v18) 0 ≥ 48) = Bool.true, Bool.true = Bool.true, (v18 == 0) = Bool.true, Bool.true = Bool.true]) := by kernel_rfl
theorem p43_11 (v18 : Int) (x0 : ByteArray) : runF tab ext43 false 46 [] 2000 [] tys43 Tryd.f43.results [true, false, true, true, false, true] (cutAt b43 4) (E43_4 v18 x0) (L43_4 v18 x0) = some ([Dyn.mk Ty.bool Bool.false], [], [Decidable.decide (v18 < (↑(List.length (bytesOf x0)) : Int)) = Bool.true, 0 ≤ v18, v18 < (↑(List.length (bytesOf x0)) : Int), Decidable.decide (List.getD (bytesOf x0) (Int.toNat v18) 0 ≥ 97) = Bool.false, Decidable.decide (List.getD (bytesOf x0) (Int.toNat v18) 0 ≥ 48) = Bool.true, Bool.true = Bool.true, (v18 == 0) = Bool.false, (!Decidable.decide (List.getD (bytesOf x0) (Int.toNat v18) 0 ≤ 57)) = Bool.true]) := by kernel_rfl
theorem p43_12 (v18 : Int) (x0 : ByteArray) : Am.runN tab ext43 false 46 [] 2000 [] [] [16, 17, 18] [0] [true, false, true, true, false, false] (cutAt b43 4) (E43_4 v18 x0) (L43_4 v18 x0) = some (cutAt b43 4, E43_4 (v18 + 1) (x0), L43_4 (v18 + 1) (x0), [Decidable.decide (v18 < (↑(List.length (bytesOf x0)) : Int)) = Bool.true, 0 ≤ v18, v18 < (↑(List.length (bytesOf x0)) : Int), Decidable.decide (List.getD (bytesOf x0) (Int.toNat v18) 0 ≥ 97) = Bool.false, Decidable.decide (List.getD (bytesOf x0) (Int.toNat v18) 0 ≥ 48) = Bool.true, Bool.true = Bool.true, (v18 == 0) = Bool.false, (!Decidable.decide (List.getD (bytesOf x0) (Int.toNat v18) 0 ≤ 57)) = Bool.false, InR IntKind.i64 (v18 + 1)]) := by kernel_rfl
theorem p43_13 (v18 : Int) (x0 : ByteArray) : runF tab ext43 false 46 [] 2000 [] tys43 Tryd.f43.results [true, false, false, true, true, true] (cutAt b43 4) (E43_4 v18 x0) (L43_4 v18 x0) = some ([Dyn.mk Ty.bool Bool.false], [], [Decidable.decide (v18 < (↑(List.length (bytesOf x0)) : Int)) = Bool.true, 0 ≤ v18, v18 < (↑(List.length (bytesOf x0)) : Int), Decidable.decide (List.getD (bytesOf x0) (Int.toNat v18) 0 ≥ 97) = Bool.false, Decidable.decide (List.getD (bytesOf x0) (Int.toNat v18) 0 ≥ 48) = Bool.false, Bool.true = Bool.true, (v18 == 0) = Bool.true, Bool.true = Bool.true]) := by kernel_rfl
theorem p43_14 (v18 : Int) (x0 : ByteArray) : runF tab ext43 false 46 [] 2000 [] tys43 Tryd.f43.results [true, false, false, true, false, true] (cutAt b43 4) (E43_4 v18 x0) (L43_4 v18 x0) = some ([Dyn.mk Ty.bool Bool.false], [], [Decidable.decide (v18 < (↑(List.length (bytesOf x0)) : Int)) = Bool.true, 0 ≤ v18, v18 < (↑(List.length (bytesOf x0)) : Int), Decidable.decide (List.getD (bytesOf x0) (Int.toNat v18) 0 ≥ 97) = Bool.false, Decidable.decide (List.getD (bytesOf x0) (Int.toNat v18) 0 ≥ 48) = Bool.false, Bool.true = Bool.true, (v18 == 0) = Bool.false, Bool.true = Bool.true]) := by kernel_rfl
theorem p43_15 (v18 : Int) (x0 : ByteArray) : runF tab ext43 false 46 [] 2000 [] tys43 Tryd.f43.results [false] (cutAt b43 4) (E43_4 v18 x0) (L43_4 v18 x0) = some ([Dyn.mk Ty.bool Bool.true], [], [Decidable.decide (v18 < (↑(List.length (bytesOf x0)) : Int)) = Bool.false]) := by kernel_rfl
theorem snd43 : ∀ n, (∀ (x0 : ByteArray) ds, R43 n x0 ds → ∀ w0 O q, AtV Tryd.prog 43 (PostR ds [] [] q w0 O) 46 w0 O q [] [.code b43] (entE 0 0 sig43 (x0, ())) (entL sig43 (x0, ()))) ∧ (∀ (v18 : Int) (x0 : ByteArray) ds, R43_4 n v18 x0 ds → ∀ w0 O q, AtV Tryd.prog 43 (PostR ds [] [] q w0 O) 46 w0 O q [] (cutAt b43 4) (E43_4 v18 x0) (L43_4 v18 x0)) := by
  intro n
  induction n with
  | zero => exact ⟨fun _ _ h => by simp only [R43] at h, fun _ _ _ h => by simp only [R43_4] at h⟩
  | succ n ih =>
  obtain ⟨ih, ih4⟩ := ih
  refine ⟨?_, ?_⟩
  · intro x0 ds h w0 O q
    rw [R43] at h
    by_cases b0 : (Decidable.decide ((↑(ByteArray.size x0) : Int) < 1)) = true
    · rw [if_pos b0] at h
      subst h
      exact AtV.fin Tryd.func43 tabOk ext43Ok mixed (p43_0 x0) ⟨b0, rfl, trivial⟩
    · rw [if_neg b0] at h
      replace b0 := Bool.eq_false_iff.2 b0
      by_cases b1 : (Decidable.decide ((↑(ByteArray.size x0) : Int) > 10)) = true
      · rw [if_pos b1] at h
        subst h
        exact AtV.fin Tryd.func43 tabOk ext43Ok mixed (p43_1 x0) ⟨b0, b1, trivial⟩
      · rw [if_neg b1] at h
        replace b1 := Bool.eq_false_iff.2 b1
        exact AtV.runN tabOk ext43Ok mixed (p43_2 x0) ⟨b0, b1, trivial⟩ (ih4 _ _ _ h w0 O q)

  · intro v18 x0 ds h w0 O q
    rw [R43_4] at h
    by_cases b0 : (Decidable.decide (v18 < (↑(List.length (bytesOf x0)) : Int))) = true
    · rw [if_pos b0] at h
      obtain ⟨s0, s1, h⟩ := h
      by_cases b1 : (Decidable.decide (List.getD (bytesOf x0) (Int.toNat v18) 0 ≥ 97)) = true
      · rw [if_pos b1] at h
        by_cases b2 : (Decidable.decide (List.getD (bytesOf x0) (Int.toNat v18) 0 ≥ 48)) = true
        · rw [if_pos b2] at h
          by_cases b3 : (!Decidable.decide (List.getD (bytesOf x0) (Int.toNat v18) 0 ≤ 122)) = true
          · rw [if_pos b3] at h
            by_cases b4 : (v18 == 0) = true
            · rw [if_pos b4] at h
              subst h
              exact AtV.fin Tryd.func43 tabOk ext43Ok mixed (p43_3 v18 x0) ⟨b0, s0, s1, b1, b2, b3, b4, rfl, trivial⟩
            · rw [if_neg b4] at h
              replace b4 := Bool.eq_false_iff.2 b4
              by_cases b5 : (!Decidable.decide (List.getD (bytesOf x0) (Int.toNat v18) 0 ≤ 57)) = true
              · rw [if_pos b5] at h
                subst h
                exact AtV.fin Tryd.func43 tabOk ext43Ok mixed (p43_4 v18 x0) ⟨b0, s0, s1, b1, b2, b3, b4, b5, trivial⟩
              · rw [if_neg b5] at h
                replace b5 := Bool.eq_false_iff.2 b5
                obtain ⟨s2, h⟩ := h
                exact AtV.runN tabOk ext43Ok mixed (p43_5 v18 x0) ⟨b0, s0, s1, b1, b2, b3, b4, b5, s2, trivial⟩ (ih4 _ _ _ h w0 O q)
          · rw [if_neg b3] at h
            replace b3 := Bool.eq_false_iff.2 b3
            obtain ⟨s2, h⟩ := h
            exact AtV.runN tabOk ext43Ok mixed (p43_6 v18 x0) ⟨b0, s0, s1, b1, b2, b3, rfl, s2, trivial⟩ (ih4 _ _ _ h w0 O q)
        · rw [if_neg b2] at h
          replace b2 := Bool.eq_false_iff.2 b2
          by_cases b3 : (!Decidable.decide (List.getD (bytesOf x0) (Int.toNat v18) 0 ≤ 122)) = true
          · rw [if_pos b3] at h
            by_cases b4 : (v18 == 0) = true
            · rw [if_pos b4] at h
              subst h
              exact AtV.fin Tryd.func43 tabOk ext43Ok mixed (p43_7 v18 x0) ⟨b0, s0, s1, b1, b2, b3, b4, rfl, trivial⟩
            · rw [if_neg b4] at h
              replace b4 := Bool.eq_false_iff.2 b4
              subst h
              exact AtV.fin Tryd.func43 tabOk ext43Ok mixed (p43_8 v18 x0) ⟨b0, s0, s1, b1, b2, b3, b4, rfl, trivial⟩
          · rw [if_neg b3] at h
            replace b3 := Bool.eq_false_iff.2 b3
            obtain ⟨s2, h⟩ := h
            exact AtV.runN tabOk ext43Ok mixed (p43_9 v18 x0) ⟨b0, s0, s1, b1, b2, b3, rfl, s2, trivial⟩ (ih4 _ _ _ h w0 O q)
      · rw [if_neg b1] at h
        replace b1 := Bool.eq_false_iff.2 b1
        by_cases b2 : (Decidable.decide (List.getD (bytesOf x0) (Int.toNat v18) 0 ≥ 48)) = true
        · rw [if_pos b2] at h
          by_cases b3 : (v18 == 0) = true
          · rw [if_pos b3] at h
            subst h
            exact AtV.fin Tryd.func43 tabOk ext43Ok mixed (p43_10 v18 x0) ⟨b0, s0, s1, b1, b2, rfl, b3, rfl, trivial⟩
          · rw [if_neg b3] at h
            replace b3 := Bool.eq_false_iff.2 b3
            by_cases b4 : (!Decidable.decide (List.getD (bytesOf x0) (Int.toNat v18) 0 ≤ 57)) = true
            · rw [if_pos b4] at h
              subst h
              exact AtV.fin Tryd.func43 tabOk ext43Ok mixed (p43_11 v18 x0) ⟨b0, s0, s1, b1, b2, rfl, b3, b4, trivial⟩
            · rw [if_neg b4] at h
              replace b4 := Bool.eq_false_iff.2 b4
              obtain ⟨s2, h⟩ := h
              exact AtV.runN tabOk ext43Ok mixed (p43_12 v18 x0) ⟨b0, s0, s1, b1, b2, rfl, b3, b4, s2, trivial⟩ (ih4 _ _ _ h w0 O q)
        · rw [if_neg b2] at h
          replace b2 := Bool.eq_false_iff.2 b2
          by_cases b3 : (v18 == 0) = true
          · rw [if_pos b3] at h
            subst h
            exact AtV.fin Tryd.func43 tabOk ext43Ok mixed (p43_13 v18 x0) ⟨b0, s0, s1, b1, b2, rfl, b3, rfl, trivial⟩
          · rw [if_neg b3] at h
            replace b3 := Bool.eq_false_iff.2 b3
            subst h
            exact AtV.fin Tryd.func43 tabOk ext43Ok mixed (p43_14 v18 x0) ⟨b0, s0, s1, b1, b2, rfl, b3, rfl, trivial⟩
    · rw [if_neg b0] at h
      replace b0 := Bool.eq_false_iff.2 b0
      subst h
      exact AtV.fin Tryd.func43 tabOk ext43Ok mixed (p43_15 v18 x0) ⟨b0, trivial⟩



/-- A byte of a name, at its place. -/
def ok43 (i : Nat) (b : Int) : Bool := (decide (97 ≤ b) && decide (b ≤ 122)) || (!(i == 0) && (decide (48 ≤ b) && decide (b ≤ 57)))
def g43_0 (x0 : ByteArray) : Bool := decide (1 ≤ x0.size) && decide (x0.size ≤ 10) && allI ok43 0 (bytesOf x0)
def P43 (x0 : ByteArray) : Prop := True

theorem step43 (n i : Nat) (x0 : ByteArray) (hw : Wf .str x0) (hi : i < (bytesOf x0).length) (ds : List Dyn) :
    R43_4 (n + 1) (i : Int) x0 ds ↔ (if ok43 i ((bytesOf x0).getD i 0) = true then R43_4 n ((i : Int) + 1) x0 ds else ds = [⟨.bool, false⟩]) := by
  have hu := inR_up (xs := bytesOf x0) (by rw [bytesOf_length]; exact hw) hi
  rw [R43_4, if_pos (by simp; omega)]
  simp only [Int.toNat_natCast]
  have hb : (0 : Int) ≤ (i : Int) ∧ (i : Int) < ((bytesOf x0).length : Int) := by omega
  have hz : ((i : Int) == 0) = (i == 0) := by
    cases i with
    | zero => rfl
    | succ k => simp; omega
  simp only [hz, ok43, hu, true_and, hb.1, hb.2, ge_iff_le]
  by_cases h1 : (97 : Int) ≤ (bytesOf x0).getD i 0 <;> by_cases h2 : (bytesOf x0).getD i 0 ≤ 122 <;> by_cases h3 : (48 : Int) ≤ (bytesOf x0).getD i 0 <;> by_cases h4 : (bytesOf x0).getD i 0 ≤ 57 <;> rcases Bool.eq_false_or_eq_true (i == 0) with e0 | e0 <;> first | (exfalso; omega) | simp only [h1, h2, h3, h4, e0, decide_true, decide_false, Bool.not_true, Bool.not_false, Bool.true_and, Bool.false_and, Bool.and_true, Bool.and_false, Bool.true_or, Bool.or_true, Bool.or_false, Bool.false_or, if_true, if_false, Bool.false_eq_true]

theorem top43 (x0 : ByteArray) (hw : Wf .str x0) : R43 (x0.size + 1 + 1) x0 [⟨.bool, g43_0 x0⟩] := by
  have hl := bytesOf_length x0
  rw [R43]
  by_cases h0 : (x0.size : Int) < 1
  · rw [if_pos (by simpa using h0)]
    have : ¬ 1 ≤ x0.size := by omega
    simp [g43_0, this]
  · rw [if_neg (by simpa using h0)]
    by_cases h1 : (x0.size : Int) > 10
    · rw [if_pos (by simpa using h1)]
      have : ¬ x0.size ≤ 10 := by omega
      simp [g43_0, this]
    · rw [if_neg (by simpa using h1)]
      have key := loop_testI (bytesOf x0) 0 ok43 [(⟨.bool, false⟩ : Dyn)] [⟨.bool, true⟩] (fun n i ds => R43_4 n i x0 ds) (fun n => ?_) (fun n i hi hok ds hr => ?_) (fun n i hi hok => ?_)
      · rw [hl] at key
        have e : g43_0 x0 = allI ok43 0 (bytesOf x0) := by
          have a : 1 ≤ x0.size := by omega
          have b : x0.size ≤ 10 := by omega
          simp [g43_0, a, b]
        rw [e]
        cases h : allI ok43 0 (bytesOf x0) with
        | true => rw [if_pos h] at key; exact key
        | false => rw [if_neg (by rw [h]; simp)] at key; exact key
      · show R43_4 (n + 1) ((bytesOf x0).length : Int) x0 _
        rw [R43_4, if_neg (by simp)]
      · exact (step43 n i x0 hw hi ds).2 (by rw [if_pos hok]; exact hr)
      · exact (step43 n i x0 hw hi _).2 (by rw [if_neg (by rw [hok]; simp)])

def S43 : Am.Spec := { sig := sig43, pre := fun ⟨x0, _⟩ => P43 x0, res := fun ⟨x0, _⟩ => [⟨Ty.bool, g43_0 x0⟩] }
theorem con43 : Contract Tryd.prog 43 S43 := contract_of Tryd.func43 hb43 (Nat.le_of_ble_eq_true (by kernel_rfl)) (fun ⟨x0, _⟩ h hwf w0 O q =>
  (snd43 _).1 x0 _ (top43 x0 hwf.1) w0 O q)

end Go.Proofs.YticibijneahllaaDoor

/- Function 44 (strings.Contains): its contract, off what is known of the library. -/
set_option linter.unusedVariables false
set_option linter.unusedSimpArgs false
set_option maxRecDepth 100000
namespace Go.Proofs.YticibijneahllaaDoor
open Go Go.Am Go.Proofs

def sig44 : List AT := [AT.v Ty.str, AT.v Ty.str]
def g44_0 (x0 x1 : ByteArray) : Bool := Lib.contains x0.data.toList x1.data.toList
def P44 (x0 x1 : ByteArray) : Prop := x0.size < 4294967281
def S44 : Am.Spec := { sig := sig44, pre := fun ⟨x0, x1, _⟩ => P44 x0 x1, res := fun ⟨x0, x1, _⟩ => [⟨Ty.bool, g44_0 x0 x1⟩] }
theorem con44 : Contract Tryd.prog 44 S44 := contract_flat rfl fun w ⟨x0, x1, _⟩ vs bss hg hp hw ha => by
  obtain ⟨v0, s0, _, _, rfl, _, ⟨_, rfl, _⟩, v1, s1, _, _, rfl, _, ⟨_, rfl, _⟩, rfl, _⟩ := ha
  refine ⟨fun d hd => by rw [List.mem_singleton.1 hd]; exact ⟨rfl, trivial⟩, ?_⟩
  obtain ⟨m, hm⟩ := maxLenG hg
  refine (Tryd.strings_Contains x0 x1 m w hp hm).mono ?_
  rintro e w' ⟨rfl, rfl⟩
  exact ⟨rfl, Kept.refl _ _⟩

end Go.Proofs.YticibijneahllaaDoor

/- Function 27 (impl.ValidBlock): its runs between cut points. Written by a program of this repo (gen). -/
set_option linter.unusedVariables false
set_option linter.unusedSimpArgs false
set_option maxRecDepth 100000
namespace Go.Proofs.YticibijneahllaaDoor
open Go Go.Am Go.Proofs
def ext27 : Ext := [(43, S43), (44, S44)]
theorem call27_43 : Callable Tryd.prog 43 := ⟨Tryd.f43, Tryd.func43, by kernel_rfl, by kernel_rfl⟩
theorem call27_44 : Callable Tryd.prog 44 := ⟨Tryd.f44, Tryd.func44, by kernel_rfl, by kernel_rfl⟩
theorem ext27Ok : ExtOk Tryd.prog ext27 := ⟨⟨call27_43, con43⟩, ⟨call27_44, con44⟩, trivial⟩
/-! Function 27. -/
noncomputable def b27 : Code := bodyOf Tryd.f27
theorem hb27 : Tryd.f27.body = some b27 := by kernel_rfl
def sig27 : List AT := [AT.v (Ty.cons Ty.str (Ty.cons Ty.str (Ty.cons Ty.str Ty.unit)))]
def tys27 : List Ty := [Ty.bool]
def P27 (x0 : ByteArray × ByteArray × ByteArray × Unit) : Prop := (if (g43_0 (Prod.fst x0)) = true then (if (g43_0 (Prod.fst (Prod.snd x0))) = true then (if (Decidable.decide ((↑(ByteArray.size (Prod.fst (Prod.snd (Prod.snd x0)))) : Int) ≤ 400)) = true then ((P44 (Prod.fst (Prod.snd (Prod.snd x0))) (ByteArray.mk #[10])) ∧ True) else True) else True) else True)
def g27_0 (x0 : ByteArray × ByteArray × ByteArray × Unit) : Bool := (if (g43_0 (Prod.fst x0)) = true then (if (g43_0 (Prod.fst (Prod.snd x0))) = true then (if (Decidable.decide ((↑(ByteArray.size (Prod.fst (Prod.snd (Prod.snd x0)))) : Int) ≤ 400)) = true then !g44_0 (Prod.fst (Prod.snd (Prod.snd x0))) (ByteArray.mk #[10]) else Bool.false) else Bool.false) else Bool.false)
theorem p27_0 (x0 : ByteArray × ByteArray × ByteArray × Unit) : runF tab ext27 false 23 [] 2000 [] tys27 Tryd.f27.results [true, true, true] [.code b27] (entE 0 0 sig27 (x0, ())) (entL sig27 (x0, ())) = some ([Dyn.mk Ty.bool !g44_0 (Prod.fst (Prod.snd (Prod.snd x0))) (ByteArray.mk #[10])], [], [True, g43_0 (Prod.fst x0) = Bool.true, True, g43_0 (Prod.fst (Prod.snd x0)) = Bool.true, Decidable.decide ((↑(ByteArray.size (Prod.fst (Prod.snd (Prod.snd x0)))) : Int) ≤ 400) = Bool.true, P44 (Prod.fst (Prod.snd (Prod.snd x0))) (ByteArray.mk #[10])]) := by kernel_rfl
theorem p27_1 (x0 : ByteArray × ByteArray × ByteArray × Unit) : runF tab ext27 false 23 [] 2000 [] tys27 Tryd.f27.results [true, true, false] [.code b27] (entE 0 0 sig27 (x0, ())) (entL sig27 (x0, ())) = some ([Dyn.mk Ty.bool Bool.false], [], [True, g43_0 (Prod.fst x0) = Bool.true, True, g43_0 (Prod.fst (Prod.snd x0)) = Bool.true, Decidable.decide ((↑(ByteArray.size (Prod.fst (Prod.snd (Prod.snd x0)))) : Int) ≤ 400) = Bool.false]) := by kernel_rfl
theorem p27_2 (x0 : ByteArray × ByteArray × ByteArray × Unit) : runF tab ext27 false 23 [] 2000 [] tys27 Tryd.f27.results [true, false, false] [.code b27] (entE 0 0 sig27 (x0, ())) (entL sig27 (x0, ())) = some ([Dyn.mk Ty.bool Bool.false], [], [True, g43_0 (Prod.fst x0) = Bool.true, True, g43_0 (Prod.fst (Prod.snd x0)) = Bool.false, Bool.false = Bool.false]) := by kernel_rfl
theorem p27_3 (x0 : ByteArray × ByteArray × ByteArray × Unit) : runF tab ext27 false 23 [] 2000 [] tys27 Tryd.f27.results [false, false, false] [.code b27] (entE 0 0 sig27 (x0, ())) (entL sig27 (x0, ())) = some ([Dyn.mk Ty.bool Bool.false], [], [True, g43_0 (Prod.fst x0) = Bool.false, Bool.false = Bool.false, Bool.false = Bool.false]) := by kernel_rfl
theorem at27 (x0 : ByteArray × ByteArray × ByteArray × Unit) (h : P27 x0) (w0 : World) (O : List Nat) (q : Nat → Value) : AtV Tryd.prog 27 (PostR [⟨Ty.bool, g27_0 x0⟩] [] [] q w0 O) 23 w0 O q [] [.code b27] (entE 0 0 sig27 (x0, ())) (entL sig27 (x0, ())) := by
  unfold P27 at h
  unfold g27_0
  by_cases b0 : (g43_0 (Prod.fst x0)) = true
  · try simp only [if_pos b0] at h ⊢
    by_cases b1 : (g43_0 (Prod.fst (Prod.snd x0))) = true
    · try simp only [if_pos b1] at h ⊢
      by_cases b2 : (Decidable.decide ((↑(ByteArray.size (Prod.fst (Prod.snd (Prod.snd x0)))) : Int) ≤ 400)) = true
      · try simp only [if_pos b2] at h ⊢
        obtain ⟨s0, h⟩ := h
        exact AtV.fin Tryd.func27 tabOk ext27Ok mixed (p27_0 x0) ⟨trivial, b0, trivial, b1, b2, s0, trivial⟩
      · try simp only [if_neg b2] at h ⊢
        replace b2 := Bool.eq_false_iff.2 b2
        exact AtV.fin Tryd.func27 tabOk ext27Ok mixed (p27_1 x0) ⟨trivial, b0, trivial, b1, b2, trivial⟩
    · try simp only [if_neg b1] at h ⊢
      replace b1 := Bool.eq_false_iff.2 b1
      exact AtV.fin Tryd.func27 tabOk ext27Ok mixed (p27_2 x0) ⟨trivial, b0, trivial, b1, rfl, trivial⟩
  · try simp only [if_neg b0] at h ⊢
    replace b0 := Bool.eq_false_iff.2 b0
    exact AtV.fin Tryd.func27 tabOk ext27Ok mixed (p27_3 x0) ⟨trivial, b0, rfl, rfl, trivial⟩

def S27 : Am.Spec := { sig := sig27, pre := fun ⟨x0, _⟩ => P27 x0, res := fun ⟨x0, _⟩ => [⟨Ty.bool, g27_0 x0⟩] }
theorem con27 : Contract Tryd.prog 27 S27 := contract_of Tryd.func27 hb27 (Nat.le_of_ble_eq_true (by kernel_rfl)) (fun ⟨x0, _⟩ h _ w0 O q => at27 x0 h w0 O q)


theorem pre27 (x : ByteArray × ByteArray × ByteArray × Unit) : P27 x := by
  unfold P27
  split
  · split
    · split
      · rename_i h
        simp only [decide_eq_true_eq] at h
        refine ⟨?_, trivial⟩
        show x.2.2.1.size < 4294967281
        omega
      · trivial
    · trivial
  · trivial

end Go.Proofs.YticibijneahllaaDoor

/- Function 28 (impl.lineOfBlock): its runs between cut points. Written by a program of this repo (gen). -/
set_option linter.unusedVariables false
set_option linter.unusedSimpArgs false
set_option maxRecDepth 100000
namespace Go.Proofs.YticibijneahllaaDoor
open Go Go.Am Go.Proofs
def ext28 : Ext := [(25, S25), (24, S24), (26, S26)]
theorem call28_25 : Callable Tryd.prog 25 := ⟨Tryd.f25, Tryd.func25, by kernel_rfl, by kernel_rfl⟩
theorem call28_24 : Callable Tryd.prog 24 := ⟨Tryd.f24, Tryd.func24, by kernel_rfl, by kernel_rfl⟩
theorem call28_26 : Callable Tryd.prog 26 := ⟨Tryd.f26, Tryd.func26, by kernel_rfl, by kernel_rfl⟩
theorem ext28Ok : ExtOk Tryd.prog ext28 := ⟨⟨call28_25, con25⟩, ⟨call28_24, con24⟩, ⟨call28_26, con26⟩, trivial⟩
/-! Function 28. -/
noncomputable def b28 : Code := bodyOf Tryd.f28
theorem hb28 : Tryd.f28.body = some b28 := by kernel_rfl
def sig28 : List AT := [AT.v (Ty.cons Ty.str (Ty.cons Ty.str (Ty.cons Ty.str Ty.unit)))]
def tys28 : List Ty := [Ty.str]
def P28 (x0 : ByteArray × ByteArray × ByteArray × Unit) : Prop := ((ByteArray.size (Prod.fst x0) + 1 ≤ 9223372036854775807) ∧ ((ByteArray.size (Prod.fst x0 ++ ByteArray.mk #[32]) + ByteArray.size (Prod.fst (Prod.snd x0)) ≤ 9223372036854775807) ∧ ((ByteArray.size (Prod.fst x0 ++ ByteArray.mk #[32] ++ Prod.fst (Prod.snd x0)) + 1 ≤ 9223372036854775807) ∧ ((ByteArray.size (Prod.fst x0 ++ ByteArray.mk #[32] ++ Prod.fst (Prod.snd x0) ++ ByteArray.mk #[32]) + ByteArray.size (Prod.fst (Prod.snd (Prod.snd x0))) ≤ 9223372036854775807) ∧ ((P24 (g25_0 (Prod.fst x0 ++ ByteArray.mk #[32] ++ Prod.fst (Prod.snd x0) ++ ByteArray.mk #[32] ++ Prod.fst (Prod.snd (Prod.snd x0))) 65535)) ∧ ((InR IntKind.i64 (5 - (↑(ByteArray.size (g24_0 (g25_0 (Prod.fst x0 ++ ByteArray.mk #[32] ++ Prod.fst (Prod.snd x0) ++ ByteArray.mk #[32] ++ Prod.fst (Prod.snd (Prod.snd x0))) 65535))) : Int))) ∧ ((P26 (ByteArray.mk #[48]) (5 - (↑(ByteArray.size (g24_0 (g25_0 (Prod.fst x0 ++ ByteArray.mk #[32] ++ Prod.fst (Prod.snd x0) ++ ByteArray.mk #[32] ++ Prod.fst (Prod.snd (Prod.snd x0))) 65535))) : Int))) ∧ ((ByteArray.size (g26_0 (ByteArray.mk #[48]) (5 - (↑(ByteArray.size (g24_0 (g25_0 (Prod.fst x0 ++ ByteArray.mk #[32] ++ Prod.fst (Prod.snd x0) ++ ByteArray.mk #[32] ++ Prod.fst (Prod.snd (Prod.snd x0))) 65535))) : Int))) + ByteArray.size (g24_0 (g25_0 (Prod.fst x0 ++ ByteArray.mk #[32] ++ Prod.fst (Prod.snd x0) ++ ByteArray.mk #[32] ++ Prod.fst (Prod.snd (Prod.snd x0))) 65535)) ≤ 9223372036854775807) ∧ ((ByteArray.size (g26_0 (ByteArray.mk #[48]) (5 - (↑(ByteArray.size (g24_0 (g25_0 (Prod.fst x0 ++ ByteArray.mk #[32] ++ Prod.fst (Prod.snd x0) ++ ByteArray.mk #[32] ++ Prod.fst (Prod.snd (Prod.snd x0))) 65535))) : Int)) ++ g24_0 (g25_0 (Prod.fst x0 ++ ByteArray.mk #[32] ++ Prod.fst (Prod.snd x0) ++ ByteArray.mk #[32] ++ Prod.fst (Prod.snd (Prod.snd x0))) 65535)) + 1 ≤ 9223372036854775807) ∧ ((ByteArray.size (g26_0 (ByteArray.mk #[48]) (5 - (↑(ByteArray.size (g24_0 (g25_0 (Prod.fst x0 ++ ByteArray.mk #[32] ++ Prod.fst (Prod.snd x0) ++ ByteArray.mk #[32] ++ Prod.fst (Prod.snd (Prod.snd x0))) 65535))) : Int)) ++ g24_0 (g25_0 (Prod.fst x0 ++ ByteArray.mk #[32] ++ Prod.fst (Prod.snd x0) ++ ByteArray.mk #[32] ++ Prod.fst (Prod.snd (Prod.snd x0))) 65535) ++ ByteArray.mk #[32]) + ByteArray.size (Prod.fst x0 ++ ByteArray.mk #[32] ++ Prod.fst (Prod.snd x0) ++ ByteArray.mk #[32] ++ Prod.fst (Prod.snd (Prod.snd x0))) ≤ 9223372036854775807) ∧ True))))))))))
def g28_0 (x0 : ByteArray × ByteArray × ByteArray × Unit) : ByteArray := g26_0 (ByteArray.mk #[48]) (5 - (↑(ByteArray.size (g24_0 (g25_0 (Prod.fst x0 ++ ByteArray.mk #[32] ++ Prod.fst (Prod.snd x0) ++ ByteArray.mk #[32] ++ Prod.fst (Prod.snd (Prod.snd x0))) 65535))) : Int)) ++ g24_0 (g25_0 (Prod.fst x0 ++ ByteArray.mk #[32] ++ Prod.fst (Prod.snd x0) ++ ByteArray.mk #[32] ++ Prod.fst (Prod.snd (Prod.snd x0))) 65535) ++ ByteArray.mk #[32] ++ (Prod.fst x0 ++ ByteArray.mk #[32] ++ Prod.fst (Prod.snd x0) ++ ByteArray.mk #[32] ++ Prod.fst (Prod.snd (Prod.snd x0)))
theorem p28_0 (x0 : ByteArray × ByteArray × ByteArray × Unit) : runF tab ext28 false 27 [] 2000 [] tys28 Tryd.f28.results [] [.code b28] (entE 0 0 sig28 (x0, ())) (entL sig28 (x0, ())) = some ([Dyn.mk Ty.str (g26_0 (ByteArray.mk #[48]) (5 - (↑(ByteArray.size (g24_0 (g25_0 (Prod.fst x0 ++ ByteArray.mk #[32] ++ Prod.fst (Prod.snd x0) ++ ByteArray.mk #[32] ++ Prod.fst (Prod.snd (Prod.snd x0))) 65535))) : Int)) ++ g24_0 (g25_0 (Prod.fst x0 ++ ByteArray.mk #[32] ++ Prod.fst (Prod.snd x0) ++ ByteArray.mk #[32] ++ Prod.fst (Prod.snd (Prod.snd x0))) 65535) ++ ByteArray.mk #[32] ++ (Prod.fst x0 ++ ByteArray.mk #[32] ++ Prod.fst (Prod.snd x0) ++ ByteArray.mk #[32] ++ Prod.fst (Prod.snd (Prod.snd x0))))], [], [ByteArray.size (Prod.fst x0) + 1 ≤ 9223372036854775807, ByteArray.size (Prod.fst x0 ++ ByteArray.mk #[32]) + ByteArray.size (Prod.fst (Prod.snd x0)) ≤ 9223372036854775807, ByteArray.size (Prod.fst x0 ++ ByteArray.mk #[32] ++ Prod.fst (Prod.snd x0)) + 1 ≤ 9223372036854775807, ByteArray.size (Prod.fst x0 ++ ByteArray.mk #[32] ++ Prod.fst (Prod.snd x0) ++ ByteArray.mk #[32]) + ByteArray.size (Prod.fst (Prod.snd (Prod.snd x0))) ≤ 9223372036854775807, True, P24 (g25_0 (Prod.fst x0 ++ ByteArray.mk #[32] ++ Prod.fst (Prod.snd x0) ++ ByteArray.mk #[32] ++ Prod.fst (Prod.snd (Prod.snd x0))) 65535), InR IntKind.i64 (5 - (↑(ByteArray.size (g24_0 (g25_0 (Prod.fst x0 ++ ByteArray.mk #[32] ++ Prod.fst (Prod.snd x0) ++ ByteArray.mk #[32] ++ Prod.fst (Prod.snd (Prod.snd x0))) 65535))) : Int)), P26 (ByteArray.mk #[48]) (5 - (↑(ByteArray.size (g24_0 (g25_0 (Prod.fst x0 ++ ByteArray.mk #[32] ++ Prod.fst (Prod.snd x0) ++ ByteArray.mk #[32] ++ Prod.fst (Prod.snd (Prod.snd x0))) 65535))) : Int)), ByteArray.size (g26_0 (ByteArray.mk #[48]) (5 - (↑(ByteArray.size (g24_0 (g25_0 (Prod.fst x0 ++ ByteArray.mk #[32] ++ Prod.fst (Prod.snd x0) ++ ByteArray.mk #[32] ++ Prod.fst (Prod.snd (Prod.snd x0))) 65535))) : Int))) + ByteArray.size (g24_0 (g25_0 (Prod.fst x0 ++ ByteArray.mk #[32] ++ Prod.fst (Prod.snd x0) ++ ByteArray.mk #[32] ++ Prod.fst (Prod.snd (Prod.snd x0))) 65535)) ≤ 9223372036854775807, ByteArray.size (g26_0 (ByteArray.mk #[48]) (5 - (↑(ByteArray.size (g24_0 (g25_0 (Prod.fst x0 ++ ByteArray.mk #[32] ++ Prod.fst (Prod.snd x0) ++ ByteArray.mk #[32] ++ Prod.fst (Prod.snd (Prod.snd x0))) 65535))) : Int)) ++ g24_0 (g25_0 (Prod.fst x0 ++ ByteArray.mk #[32] ++ Prod.fst (Prod.snd x0) ++ ByteArray.mk #[32] ++ Prod.fst (Prod.snd (Prod.snd x0))) 65535)) + 1 ≤ 9223372036854775807, ByteArray.size (g26_0 (ByteArray.mk #[48]) (5 - (↑(ByteArray.size (g24_0 (g25_0 (Prod.fst x0 ++ ByteArray.mk #[32] ++ Prod.fst (Prod.snd x0) ++ ByteArray.mk #[32] ++ Prod.fst (Prod.snd (Prod.snd x0))) 65535))) : Int)) ++ g24_0 (g25_0 (Prod.fst x0 ++ ByteArray.mk #[32] ++ Prod.fst (Prod.snd x0) ++ ByteArray.mk #[32] ++ Prod.fst (Prod.snd (Prod.snd x0))) 65535) ++ ByteArray.mk #[32]) + ByteArray.size (Prod.fst x0 ++ ByteArray.mk #[32] ++ Prod.fst (Prod.snd x0) ++ ByteArray.mk #[32] ++ Prod.fst (Prod.snd (Prod.snd x0))) ≤ 9223372036854775807]) := by kernel_rfl
theorem at28 (x0 : ByteArray × ByteArray × ByteArray × Unit) (h : P28 x0) (w0 : World) (O : List Nat) (q : Nat → Value) : AtV Tryd.prog 28 (PostR [⟨Ty.str, g28_0 x0⟩] [] [] q w0 O) 27 w0 O q [] [.code b28] (entE 0 0 sig28 (x0, ())) (entL sig28 (x0, ())) := by
  unfold P28 at h
  unfold g28_0
  obtain ⟨s0, h⟩ := h
  obtain ⟨s1, h⟩ := h
  obtain ⟨s2, h⟩ := h
  obtain ⟨s3, h⟩ := h
  obtain ⟨s4, h⟩ := h
  obtain ⟨s5, h⟩ := h
  obtain ⟨s6, h⟩ := h
  obtain ⟨s7, h⟩ := h
  obtain ⟨s8, h⟩ := h
  obtain ⟨s9, h⟩ := h
  exact AtV.fin Tryd.func28 tabOk ext28Ok mixed (p28_0 x0) ⟨s0, s1, s2, s3, trivial, s4, s5, s6, s7, s8, s9, trivial⟩

def S28 : Am.Spec := { sig := sig28, pre := fun ⟨x0, _⟩ => P28 x0, res := fun ⟨x0, _⟩ => [⟨Ty.str, g28_0 x0⟩] }
theorem con28 : Contract Tryd.prog 28 S28 := contract_of Tryd.func28 hb28 (Nat.le_of_ble_eq_true (by kernel_rfl)) (fun ⟨x0, _⟩ h _ w0 O q => at28 x0 h w0 O q)


end Go.Proofs.YticibijneahllaaDoor

/- Function 13 (impl.blockOfLine): its runs between cut points. Written by a program of this repo (gen). -/
set_option linter.unusedVariables false
set_option linter.unusedSimpArgs false
set_option maxRecDepth 100000
namespace Go.Proofs.YticibijneahllaaDoor
open Go Go.Am Go.Proofs
def ext13 : Ext := [(23, S23), (25, S25), (24, S24), (26, S26), (27, S27), (28, S28)]
theorem call13_23 : Callable Tryd.prog 23 := ⟨Tryd.f23, Tryd.func23, by kernel_rfl, by kernel_rfl⟩
theorem call13_25 : Callable Tryd.prog 25 := ⟨Tryd.f25, Tryd.func25, by kernel_rfl, by kernel_rfl⟩
theorem call13_24 : Callable Tryd.prog 24 := ⟨Tryd.f24, Tryd.func24, by kernel_rfl, by kernel_rfl⟩
theorem call13_26 : Callable Tryd.prog 26 := ⟨Tryd.f26, Tryd.func26, by kernel_rfl, by kernel_rfl⟩
theorem call13_27 : Callable Tryd.prog 27 := ⟨Tryd.f27, Tryd.func27, by kernel_rfl, by kernel_rfl⟩
theorem call13_28 : Callable Tryd.prog 28 := ⟨Tryd.f28, Tryd.func28, by kernel_rfl, by kernel_rfl⟩
theorem ext13Ok : ExtOk Tryd.prog ext13 := ⟨⟨call13_23, con23⟩, ⟨call13_25, con25⟩, ⟨call13_24, con24⟩, ⟨call13_26, con26⟩, ⟨call13_27, con27⟩, ⟨call13_28, con28⟩, trivial⟩
/-! Function 13. -/
noncomputable def b13 : Code := bodyOf Tryd.f13
theorem hb13 : Tryd.f13.body = some b13 := by kernel_rfl
def sig13 : List AT := [AT.v (Ty.str)]
def tys13 : List Ty := [Ty.cons Ty.str (Ty.cons Ty.str (Ty.cons Ty.str Ty.unit)), Ty.int IntKind.i64]
def P13 (x0 : ByteArray) : Prop := (if (Decidable.decide ((↑(ByteArray.size x0) : Int) < 6)) = true then True else ((5 < (↑(ByteArray.size x0) : Int)) ∧ (if ((↑(UInt8.toNat (List.getD (Array.toList (ByteArray.data x0)) 5 0)) : Int) != 32) = true then True else ((6 ≤ (↑(ByteArray.size x0) : Int)) ∧ ((P23 (ByteArray.extract x0 6 (Int.toNat (↑(ByteArray.size x0) : Int))) (ByteArray.mk #[32])) ∧ ((P23 (g23_1 (ByteArray.extract x0 6 (Int.toNat (↑(ByteArray.size x0) : Int))) (ByteArray.mk #[32])) (ByteArray.mk #[32])) ∧ ((6 ≤ (↑(ByteArray.size x0) : Int)) ∧ ((P24 (g25_0 (ByteArray.extract x0 6 (Int.toNat (↑(ByteArray.size x0) : Int))) 65535)) ∧ ((5 ≤ (↑(ByteArray.size x0) : Int)) ∧ ((InR IntKind.i64 (5 - (↑(ByteArray.size (g24_0 (g25_0 (ByteArray.extract x0 6 (Int.toNat (↑(ByteArray.size x0) : Int))) 65535))) : Int))) ∧ ((P26 (ByteArray.mk #[48]) (5 - (↑(ByteArray.size (g24_0 (g25_0 (ByteArray.extract x0 6 (Int.toNat (↑(ByteArray.size x0) : Int))) 65535))) : Int))) ∧ ((ByteArray.size (g26_0 (ByteArray.mk #[48]) (5 - (↑(ByteArray.size (g24_0 (g25_0 (ByteArray.extract x0 6 (Int.toNat (↑(ByteArray.size x0) : Int))) 65535))) : Int))) + ByteArray.size (g24_0 (g25_0 (ByteArray.extract x0 6 (Int.toNat (↑(ByteArray.size x0) : Int))) 65535)) ≤ 9223372036854775807) ∧ (if (!ByteArray.toList (ByteArray.extract x0 0 5) == ByteArray.toList (g26_0 (ByteArray.mk #[48]) (5 - (↑(ByteArray.size (g24_0 (g25_0 (ByteArray.extract x0 6 (Int.toNat (↑(ByteArray.size x0) : Int))) 65535))) : Int)) ++ g24_0 (g25_0 (ByteArray.extract x0 6 (Int.toNat (↑(ByteArray.size x0) : Int))) 65535))) = true then True else ((P27 (g23_0 (ByteArray.extract x0 6 (Int.toNat (↑(ByteArray.size x0) : Int))) (ByteArray.mk #[32]), g23_0 (g23_1 (ByteArray.extract x0 6 (Int.toNat (↑(ByteArray.size x0) : Int))) (ByteArray.mk #[32])) (ByteArray.mk #[32]), g23_1 (g23_1 (ByteArray.extract x0 6 (Int.toNat (↑(ByteArray.size x0) : Int))) (ByteArray.mk #[32])) (ByteArray.mk #[32]), ())) ∧ (if (!g27_0 (g23_0 (ByteArray.extract x0 6 (Int.toNat (↑(ByteArray.size x0) : Int))) (ByteArray.mk #[32]), g23_0 (g23_1 (ByteArray.extract x0 6 (Int.toNat (↑(ByteArray.size x0) : Int))) (ByteArray.mk #[32])) (ByteArray.mk #[32]), g23_1 (g23_1 (ByteArray.extract x0 6 (Int.toNat (↑(ByteArray.size x0) : Int))) (ByteArray.mk #[32])) (ByteArray.mk #[32]), ())) = true then True else ((P28 (g23_0 (ByteArray.extract x0 6 (Int.toNat (↑(ByteArray.size x0) : Int))) (ByteArray.mk #[32]), g23_0 (g23_1 (ByteArray.extract x0 6 (Int.toNat (↑(ByteArray.size x0) : Int))) (ByteArray.mk #[32])) (ByteArray.mk #[32]), g23_1 (g23_1 (ByteArray.extract x0 6 (Int.toNat (↑(ByteArray.size x0) : Int))) (ByteArray.mk #[32])) (ByteArray.mk #[32]), ())) ∧ True))))))))))))))))
def g13_0 (x0 : ByteArray) : ByteArray × ByteArray × ByteArray × Unit := (if (Decidable.decide ((↑(ByteArray.size x0) : Int) < 6)) = true then (ByteArray.empty, ByteArray.empty, ByteArray.empty, ()) else (if ((↑(UInt8.toNat (List.getD (Array.toList (ByteArray.data x0)) 5 0)) : Int) != 32) = true then (ByteArray.empty, ByteArray.empty, ByteArray.empty, ()) else (if (!ByteArray.toList (ByteArray.extract x0 0 5) == ByteArray.toList (g26_0 (ByteArray.mk #[48]) (5 - (↑(ByteArray.size (g24_0 (g25_0 (ByteArray.extract x0 6 (Int.toNat (↑(ByteArray.size x0) : Int))) 65535))) : Int)) ++ g24_0 (g25_0 (ByteArray.extract x0 6 (Int.toNat (↑(ByteArray.size x0) : Int))) 65535))) = true then (ByteArray.empty, ByteArray.empty, ByteArray.empty, ()) else (if (!g27_0 (g23_0 (ByteArray.extract x0 6 (Int.toNat (↑(ByteArray.size x0) : Int))) (ByteArray.mk #[32]), g23_0 (g23_1 (ByteArray.extract x0 6 (Int.toNat (↑(ByteArray.size x0) : Int))) (ByteArray.mk #[32])) (ByteArray.mk #[32]), g23_1 (g23_1 (ByteArray.extract x0 6 (Int.toNat (↑(ByteArray.size x0) : Int))) (ByteArray.mk #[32])) (ByteArray.mk #[32]), ())) = true then (ByteArray.empty, ByteArray.empty, ByteArray.empty, ()) else (if (!ByteArray.toList (g28_0 (g23_0 (ByteArray.extract x0 6 (Int.toNat (↑(ByteArray.size x0) : Int))) (ByteArray.mk #[32]), g23_0 (g23_1 (ByteArray.extract x0 6 (Int.toNat (↑(ByteArray.size x0) : Int))) (ByteArray.mk #[32])) (ByteArray.mk #[32]), g23_1 (g23_1 (ByteArray.extract x0 6 (Int.toNat (↑(ByteArray.size x0) : Int))) (ByteArray.mk #[32])) (ByteArray.mk #[32]), ())) == ByteArray.toList x0) = true then (ByteArray.empty, ByteArray.empty, ByteArray.empty, ()) else (g23_0 (ByteArray.extract x0 6 (Int.toNat (↑(ByteArray.size x0) : Int))) (ByteArray.mk #[32]), g23_0 (g23_1 (ByteArray.extract x0 6 (Int.toNat (↑(ByteArray.size x0) : Int))) (ByteArray.mk #[32])) (ByteArray.mk #[32]), g23_1 (g23_1 (ByteArray.extract x0 6 (Int.toNat (↑(ByteArray.size x0) : Int))) (ByteArray.mk #[32])) (ByteArray.mk #[32]), ()))))))
def g13_1 (x0 : ByteArray) : Int := (if (Decidable.decide ((↑(ByteArray.size x0) : Int) < 6)) = true then 9 else (if ((↑(UInt8.toNat (List.getD (Array.toList (ByteArray.data x0)) 5 0)) : Int) != 32) = true then 9 else (if (!ByteArray.toList (ByteArray.extract x0 0 5) == ByteArray.toList (g26_0 (ByteArray.mk #[48]) (5 - (↑(ByteArray.size (g24_0 (g25_0 (ByteArray.extract x0 6 (Int.toNat (↑(ByteArray.size x0) : Int))) 65535))) : Int)) ++ g24_0 (g25_0 (ByteArray.extract x0 6 (Int.toNat (↑(ByteArray.size x0) : Int))) 65535))) = true then 10 else (if (!g27_0 (g23_0 (ByteArray.extract x0 6 (Int.toNat (↑(ByteArray.size x0) : Int))) (ByteArray.mk #[32]), g23_0 (g23_1 (ByteArray.extract x0 6 (Int.toNat (↑(ByteArray.size x0) : Int))) (ByteArray.mk #[32])) (ByteArray.mk #[32]), g23_1 (g23_1 (ByteArray.extract x0 6 (Int.toNat (↑(ByteArray.size x0) : Int))) (ByteArray.mk #[32])) (ByteArray.mk #[32]), ())) = true then 9 else (if (!ByteArray.toList (g28_0 (g23_0 (ByteArray.extract x0 6 (Int.toNat (↑(ByteArray.size x0) : Int))) (ByteArray.mk #[32]), g23_0 (g23_1 (ByteArray.extract x0 6 (Int.toNat (↑(ByteArray.size x0) : Int))) (ByteArray.mk #[32])) (ByteArray.mk #[32]), g23_1 (g23_1 (ByteArray.extract x0 6 (Int.toNat (↑(ByteArray.size x0) : Int))) (ByteArray.mk #[32])) (ByteArray.mk #[32]), ())) == ByteArray.toList x0) = true then 9 else 0)))))
theorem p13_0 (x0 : ByteArray) : runF tab ext13 false 63 [] 2000 [] tys13 Tryd.f13.results [true, true] [.code b13] (entE 0 0 sig13 (x0, ())) (entL sig13 (x0, ())) = some ([Dyn.mk (Ty.cons Ty.str (Ty.cons Ty.str (Ty.cons Ty.str Ty.unit))) (ByteArray.empty, ByteArray.empty, ByteArray.empty, ()), Dyn.mk (Ty.int IntKind.i64) 9], [], [Decidable.decide ((↑(ByteArray.size x0) : Int) < 6) = Bool.true, Bool.true = Bool.true]) := by kernel_rfl
theorem p13_1 (x0 : ByteArray) : runF tab ext13 false 63 [] 2000 [] tys13 Tryd.f13.results [false, true] [.code b13] (entE 0 0 sig13 (x0, ())) (entL sig13 (x0, ())) = some ([Dyn.mk (Ty.cons Ty.str (Ty.cons Ty.str (Ty.cons Ty.str Ty.unit))) (ByteArray.empty, ByteArray.empty, ByteArray.empty, ()), Dyn.mk (Ty.int IntKind.i64) 9], [], [Decidable.decide ((↑(ByteArray.size x0) : Int) < 6) = Bool.false, (0 : Int) ≤ (5 : Int), 5 < (↑(ByteArray.size x0) : Int), ((↑(UInt8.toNat (List.getD (Array.toList (ByteArray.data x0)) 5 0)) : Int) != 32) = Bool.true]) := by kernel_rfl
theorem p13_2 (x0 : ByteArray) : runF tab ext13 false 63 [] 2000 [] tys13 Tryd.f13.results [false, false, true] [.code b13] (entE 0 0 sig13 (x0, ())) (entL sig13 (x0, ())) = some ([Dyn.mk (Ty.cons Ty.str (Ty.cons Ty.str (Ty.cons Ty.str Ty.unit))) (ByteArray.empty, ByteArray.empty, ByteArray.empty, ()), Dyn.mk (Ty.int IntKind.i64) 10], [], [Decidable.decide ((↑(ByteArray.size x0) : Int) < 6) = Bool.false, (0 : Int) ≤ (5 : Int), 5 < (↑(ByteArray.size x0) : Int), ((↑(UInt8.toNat (List.getD (Array.toList (ByteArray.data x0)) 5 0)) : Int) != 32) = Bool.false, (0 : Int) ≤ (6 : Int), 6 ≤ (↑(ByteArray.size x0) : Int), P23 (ByteArray.extract x0 6 (Int.toNat (↑(ByteArray.size x0) : Int))) (ByteArray.mk #[32]), P23 (g23_1 (ByteArray.extract x0 6 (Int.toNat (↑(ByteArray.size x0) : Int))) (ByteArray.mk #[32])) (ByteArray.mk #[32]), (0 : Int) ≤ (6 : Int), 6 ≤ (↑(ByteArray.size x0) : Int), True, P24 (g25_0 (ByteArray.extract x0 6 (Int.toNat (↑(ByteArray.size x0) : Int))) 65535), (0 : Int) ≤ (5 : Int), 5 ≤ (↑(ByteArray.size x0) : Int), InR IntKind.i64 (5 - (↑(ByteArray.size (g24_0 (g25_0 (ByteArray.extract x0 6 (Int.toNat (↑(ByteArray.size x0) : Int))) 65535))) : Int)), P26 (ByteArray.mk #[48]) (5 - (↑(ByteArray.size (g24_0 (g25_0 (ByteArray.extract x0 6 (Int.toNat (↑(ByteArray.size x0) : Int))) 65535))) : Int)), ByteArray.size (g26_0 (ByteArray.mk #[48]) (5 - (↑(ByteArray.size (g24_0 (g25_0 (ByteArray.extract x0 6 (Int.toNat (↑(ByteArray.size x0) : Int))) 65535))) : Int))) + ByteArray.size (g24_0 (g25_0 (ByteArray.extract x0 6 (Int.toNat (↑(ByteArray.size x0) : Int))) 65535)) ≤ 9223372036854775807, (!ByteArray.toList (ByteArray.extract x0 0 5) == ByteArray.toList (g26_0 (ByteArray.mk #[48]) (5 - (↑(ByteArray.size (g24_0 (g25_0 (ByteArray.extract x0 6 (Int.toNat (↑(ByteArray.size x0) : Int))) 65535))) : Int)) ++ g24_0 (g25_0 (ByteArray.extract x0 6 (Int.toNat (↑(ByteArray.size x0) : Int))) 65535))) = Bool.true]) := by kernel_rfl
theorem p13_3 (x0 : ByteArray) : runF tab ext13 false 63 [] 2000 [] tys13 Tryd.f13.results [false, false, false, true, true] [.code b13] (entE 0 0 sig13 (x0, ())) (entL sig13 (x0, ())) = some ([Dyn.mk (Ty.cons Ty.str (Ty.cons Ty.str (Ty.cons Ty.str Ty.unit))) (ByteArray.empty, ByteArray.empty, ByteArray.empty, ()), Dyn.mk (Ty.int IntKind.i64) 9], [], [Decidable.decide ((↑(ByteArray.size x0) : Int) < 6) = Bool.false, (0 : Int) ≤ (5 : Int), 5 < (↑(ByteArray.size x0) : Int), ((↑(UInt8.toNat (List.getD (Array.toList (ByteArray.data x0)) 5 0)) : Int) != 32) = Bool.false, (0 : Int) ≤ (6 : Int), 6 ≤ (↑(ByteArray.size x0) : Int), P23 (ByteArray.extract x0 6 (Int.toNat (↑(ByteArray.size x0) : Int))) (ByteArray.mk #[32]), P23 (g23_1 (ByteArray.extract x0 6 (Int.toNat (↑(ByteArray.size x0) : Int))) (ByteArray.mk #[32])) (ByteArray.mk #[32]), (0 : Int) ≤ (6 : Int), 6 ≤ (↑(ByteArray.size x0) : Int), True, P24 (g25_0 (ByteArray.extract x0 6 (Int.toNat (↑(ByteArray.size x0) : Int))) 65535), (0 : Int) ≤ (5 : Int), 5 ≤ (↑(ByteArray.size x0) : Int), InR IntKind.i64 (5 - (↑(ByteArray.size (g24_0 (g25_0 (ByteArray.extract x0 6 (Int.toNat (↑(ByteArray.size x0) : Int))) 65535))) : Int)), P26 (ByteArray.mk #[48]) (5 - (↑(ByteArray.size (g24_0 (g25_0 (ByteArray.extract x0 6 (Int.toNat (↑(ByteArray.size x0) : Int))) 65535))) : Int)), ByteArray.size (g26_0 (ByteArray.mk #[48]) (5 - (↑(ByteArray.size (g24_0 (g25_0 (ByteArray.extract x0 6 (Int.toNat (↑(ByteArray.size x0) : Int))) 65535))) : Int))) + ByteArray.size (g24_0 (g25_0 (ByteArray.extract x0 6 (Int.toNat (↑(ByteArray.size x0) : Int))) 65535)) ≤ 9223372036854775807, (!ByteArray.toList (ByteArray.extract x0 0 5) == ByteArray.toList (g26_0 (ByteArray.mk #[48]) (5 - (↑(ByteArray.size (g24_0 (g25_0 (ByteArray.extract x0 6 (Int.toNat (↑(ByteArray.size x0) : Int))) 65535))) : Int)) ++ g24_0 (g25_0 (ByteArray.extract x0 6 (Int.toNat (↑(ByteArray.size x0) : Int))) 65535))) = Bool.false, P27 (g23_0 (ByteArray.extract x0 6 (Int.toNat (↑(ByteArray.size x0) : Int))) (ByteArray.mk #[32]), g23_0 (g23_1 (ByteArray.extract x0 6 (Int.toNat (↑(ByteArray.size x0) : Int))) (ByteArray.mk #[32])) (ByteArray.mk #[32]), g23_1 (g23_1 (ByteArray.extract x0 6 (Int.toNat (↑(ByteArray.size x0) : Int))) (ByteArray.mk #[32])) (ByteArray.mk #[32]), ()), (!g27_0 (g23_0 (ByteArray.extract x0 6 (Int.toNat (↑(ByteArray.size x0) : Int))) (ByteArray.mk #[32]), g23_0 (g23_1 (ByteArray.extract x0 6 (Int.toNat (↑(ByteArray.size x0) : Int))) (ByteArray.mk #[32])) (ByteArray.mk #[32]), g23_1 (g23_1 (ByteArray.extract x0 6 (Int.toNat (↑(ByteArray.size x0) : Int))) (ByteArray.mk #[32])) (ByteArray.mk #[32]), ())) = Bool.true, Bool.true = Bool.true]) := by kernel_rfl
theorem p13_4 (x0 : ByteArray) : runF tab ext13 false 63 [] 2000 [] tys13 Tryd.f13.results [false, false, false, false, true] [.code b13] (entE 0 0 sig13 (x0, ())) (entL sig13 (x0, ())) = some ([Dyn.mk (Ty.cons Ty.str (Ty.cons Ty.str (Ty.cons Ty.str Ty.unit))) (ByteArray.empty, ByteArray.empty, ByteArray.empty, ()), Dyn.mk (Ty.int IntKind.i64) 9], [], [Decidable.decide ((↑(ByteArray.size x0) : Int) < 6) = Bool.false, (0 : Int) ≤ (5 : Int), 5 < (↑(ByteArray.size x0) : Int), ((↑(UInt8.toNat (List.getD (Array.toList (ByteArray.data x0)) 5 0)) : Int) != 32) = Bool.false, (0 : Int) ≤ (6 : Int), 6 ≤ (↑(ByteArray.size x0) : Int), P23 (ByteArray.extract x0 6 (Int.toNat (↑(ByteArray.size x0) : Int))) (ByteArray.mk #[32]), P23 (g23_1 (ByteArray.extract x0 6 (Int.toNat (↑(ByteArray.size x0) : Int))) (ByteArray.mk #[32])) (ByteArray.mk #[32]), (0 : Int) ≤ (6 : Int), 6 ≤ (↑(ByteArray.size x0) : Int), True, P24 (g25_0 (ByteArray.extract x0 6 (Int.toNat (↑(ByteArray.size x0) : Int))) 65535), (0 : Int) ≤ (5 : Int), 5 ≤ (↑(ByteArray.size x0) : Int), InR IntKind.i64 (5 - (↑(ByteArray.size (g24_0 (g25_0 (ByteArray.extract x0 6 (Int.toNat (↑(ByteArray.size x0) : Int))) 65535))) : Int)), P26 (ByteArray.mk #[48]) (5 - (↑(ByteArray.size (g24_0 (g25_0 (ByteArray.extract x0 6 (Int.toNat (↑(ByteArray.size x0) : Int))) 65535))) : Int)), ByteArray.size (g26_0 (ByteArray.mk #[48]) (5 - (↑(ByteArray.size (g24_0 (g25_0 (ByteArray.extract x0 6 (Int.toNat (↑(ByteArray.size x0) : Int))) 65535))) : Int))) + ByteArray.size (g24_0 (g25_0 (ByteArray.extract x0 6 (Int.toNat (↑(ByteArray.size x0) : Int))) 65535)) ≤ 9223372036854775807, (!ByteArray.toList (ByteArray.extract x0 0 5) == ByteArray.toList (g26_0 (ByteArray.mk #[48]) (5 - (↑(ByteArray.size (g24_0 (g25_0 (ByteArray.extract x0 6 (Int.toNat (↑(ByteArray.size x0) : Int))) 65535))) : Int)) ++ g24_0 (g25_0 (ByteArray.extract x0 6 (Int.toNat (↑(ByteArray.size x0) : Int))) 65535))) = Bool.false, P27 (g23_0 (ByteArray.extract x0 6 (Int.toNat (↑(ByteArray.size x0) : Int))) (ByteArray.mk #[32]), g23_0 (g23_1 (ByteArray.extract x0 6 (Int.toNat (↑(ByteArray.size x0) : Int))) (ByteArray.mk #[32])) (ByteArray.mk #[32]), g23_1 (g23_1 (ByteArray.extract x0 6 (Int.toNat (↑(ByteArray.size x0) : Int))) (ByteArray.mk #[32])) (ByteArray.mk #[32]), ()), (!g27_0 (g23_0 (ByteArray.extract x0 6 (Int.toNat (↑(ByteArray.size x0) : Int))) (ByteArray.mk #[32]), g23_0 (g23_1 (ByteArray.extract x0 6 (Int.toNat (↑(ByteArray.size x0) : Int))) (ByteArray.mk #[32])) (ByteArray.mk #[32]), g23_1 (g23_1 (ByteArray.extract x0 6 (Int.toNat (↑(ByteArray.size x0) : Int))) (ByteArray.mk #[32])) (ByteArray.mk #[32]), ())) = Bool.false, P28 (g23_0 (ByteArray.extract x0 6 (Int.toNat (↑(ByteArray.size x0) : Int))) (ByteArray.mk #[32]), g23_0 (g23_1 (ByteArray.extract x0 6 (Int.toNat (↑(ByteArray.size x0) : Int))) (ByteArray.mk #[32])) (ByteArray.mk #[32]), g23_1 (g23_1 (ByteArray.extract x0 6 (Int.toNat (↑(ByteArray.size x0) : Int))) (ByteArray.mk #[32])) (ByteArray.mk #[32]), ()), (!ByteArray.toList (g28_0 (g23_0 (ByteArray.extract x0 6 (Int.toNat (↑(ByteArray.size x0) : Int))) (ByteArray.mk #[32]), g23_0 (g23_1 (ByteArray.extract x0 6 (Int.toNat (↑(ByteArray.size x0) : Int))) (ByteArray.mk #[32])) (ByteArray.mk #[32]), g23_1 (g23_1 (ByteArray.extract x0 6 (Int.toNat (↑(ByteArray.size x0) : Int))) (ByteArray.mk #[32])) (ByteArray.mk #[32]), ())) == ByteArray.toList x0) = Bool.true]) := by kernel_rfl
theorem p13_5 (x0 : ByteArray) : runF tab ext13 false 63 [] 2000 [] tys13 Tryd.f13.results [false, false, false, false, false] [.code b13] (entE 0 0 sig13 (x0, ())) (entL sig13 (x0, ())) = some ([Dyn.mk (Ty.cons Ty.str (Ty.cons Ty.str (Ty.cons Ty.str Ty.unit))) (g23_0 (ByteArray.extract x0 6 (Int.toNat (↑(ByteArray.size x0) : Int))) (ByteArray.mk #[32]), g23_0 (g23_1 (ByteArray.extract x0 6 (Int.toNat (↑(ByteArray.size x0) : Int))) (ByteArray.mk #[32])) (ByteArray.mk #[32]), g23_1 (g23_1 (ByteArray.extract x0 6 (Int.toNat (↑(ByteArray.size x0) : Int))) (ByteArray.mk #[32])) (ByteArray.mk #[32]), ()), Dyn.mk (Ty.int IntKind.i64) 0], [], [Decidable.decide ((↑(ByteArray.size x0) : Int) < 6) = Bool.false, (0 : Int) ≤ (5 : Int), 5 < (↑(ByteArray.size x0) : Int), ((↑(UInt8.toNat (List.getD (Array.toList (ByteArray.data x0)) 5 0)) : Int) != 32) = Bool.false, (0 : Int) ≤ (6 : Int), 6 ≤ (↑(ByteArray.size x0) : Int), P23 (ByteArray.extract x0 6 (Int.toNat (↑(ByteArray.size x0) : Int))) (ByteArray.mk #[32]), P23 (g23_1 (ByteArray.extract x0 6 (Int.toNat (↑(ByteArray.size x0) : Int))) (ByteArray.mk #[32])) (ByteArray.mk #[32]), (0 : Int) ≤ (6 : Int), 6 ≤ (↑(ByteArray.size x0) : Int), True, P24 (g25_0 (ByteArray.extract x0 6 (Int.toNat (↑(ByteArray.size x0) : Int))) 65535), (0 : Int) ≤ (5 : Int), 5 ≤ (↑(ByteArray.size x0) : Int), InR IntKind.i64 (5 - (↑(ByteArray.size (g24_0 (g25_0 (ByteArray.extract x0 6 (Int.toNat (↑(ByteArray.size x0) : Int))) 65535))) : Int)), P26 (ByteArray.mk #[48]) (5 - (↑(ByteArray.size (g24_0 (g25_0 (ByteArray.extract x0 6 (Int.toNat (↑(ByteArray.size x0) : Int))) 65535))) : Int)), ByteArray.size (g26_0 (ByteArray.mk #[48]) (5 - (↑(ByteArray.size (g24_0 (g25_0 (ByteArray.extract x0 6 (Int.toNat (↑(ByteArray.size x0) : Int))) 65535))) : Int))) + ByteArray.size (g24_0 (g25_0 (ByteArray.extract x0 6 (Int.toNat (↑(ByteArray.size x0) : Int))) 65535)) ≤ 9223372036854775807, (!ByteArray.toList (ByteArray.extract x0 0 5) == ByteArray.toList (g26_0 (ByteArray.mk #[48]) (5 - (↑(ByteArray.size (g24_0 (g25_0 (ByteArray.extract x0 6 (Int.toNat (↑(ByteArray.size x0) : Int))) 65535))) : Int)) ++ g24_0 (g25_0 (ByteArray.extract x0 6 (Int.toNat (↑(ByteArray.size x0) : Int))) 65535))) = Bool.false, P27 (g23_0 (ByteArray.extract x0 6 (Int.toNat (↑(ByteArray.size x0) : Int))) (ByteArray.mk #[32]), g23_0 (g23_1 (ByteArray.extract x0 6 (Int.toNat (↑(ByteArray.size x0) : Int))) (ByteArray.mk #[32])) (ByteArray.mk #[32]), g23_1 (g23_1 (ByteArray.extract x0 6 (Int.toNat (↑(ByteArray.size x0) : Int))) (ByteArray.mk #[32])) (ByteArray.mk #[32]), ()), (!g27_0 (g23_0 (ByteArray.extract x0 6 (Int.toNat (↑(ByteArray.size x0) : Int))) (ByteArray.mk #[32]), g23_0 (g23_1 (ByteArray.extract x0 6 (Int.toNat (↑(ByteArray.size x0) : Int))) (ByteArray.mk #[32])) (ByteArray.mk #[32]), g23_1 (g23_1 (ByteArray.extract x0 6 (Int.toNat (↑(ByteArray.size x0) : Int))) (ByteArray.mk #[32])) (ByteArray.mk #[32]), ())) = Bool.false, P28 (g23_0 (ByteArray.extract x0 6 (Int.toNat (↑(ByteArray.size x0) : Int))) (ByteArray.mk #[32]), g23_0 (g23_1 (ByteArray.extract x0 6 (Int.toNat (↑(ByteArray.size x0) : Int))) (ByteArray.mk #[32])) (ByteArray.mk #[32]), g23_1 (g23_1 (ByteArray.extract x0 6 (Int.toNat (↑(ByteArray.size x0) : Int))) (ByteArray.mk #[32])) (ByteArray.mk #[32]), ()), (!ByteArray.toList (g28_0 (g23_0 (ByteArray.extract x0 6 (Int.toNat (↑(ByteArray.size x0) : Int))) (ByteArray.mk #[32]), g23_0 (g23_1 (ByteArray.extract x0 6 (Int.toNat (↑(ByteArray.size x0) : Int))) (ByteArray.mk #[32])) (ByteArray.mk #[32]), g23_1 (g23_1 (ByteArray.extract x0 6 (Int.toNat (↑(ByteArray.size x0) : Int))) (ByteArray.mk #[32])) (ByteArray.mk #[32]), ())) == ByteArray.toList x0) = Bool.false]) := by kernel_rfl
theorem at13 (x0 : ByteArray) (h : P13 x0) (w0 : World) (O : List Nat) (q : Nat → Value) : AtV Tryd.prog 13 (PostR [⟨Ty.cons Ty.str (Ty.cons Ty.str (Ty.cons Ty.str Ty.unit)), g13_0 x0⟩, ⟨Ty.int IntKind.i64, g13_1 x0⟩] [] [] q w0 O) 63 w0 O q [] [.code b13] (entE 0 0 sig13 (x0, ())) (entL sig13 (x0, ())) := by
  unfold P13 at h
  unfold g13_0 g13_1
  by_cases b0 : (Decidable.decide ((↑(ByteArray.size x0) : Int) < 6)) = true
  · try simp only [if_pos b0] at h ⊢
    exact AtV.fin Tryd.func13 tabOk ext13Ok mixed (p13_0 x0) ⟨b0, rfl, trivial⟩
  · try simp only [if_neg b0] at h ⊢
    replace b0 := Bool.eq_false_iff.2 b0
    obtain ⟨s0, h⟩ := h
    by_cases b1 : ((↑(UInt8.toNat (List.getD (Array.toList (ByteArray.data x0)) 5 0)) : Int) != 32) = true
    · try simp only [if_pos b1] at h ⊢
      exact AtV.fin Tryd.func13 tabOk ext13Ok mixed (p13_1 x0) ⟨b0, (by decide), s0, b1, trivial⟩
    · try simp only [if_neg b1] at h ⊢
      replace b1 := Bool.eq_false_iff.2 b1
      obtain ⟨s1, h⟩ := h
      obtain ⟨s2, h⟩ := h
      obtain ⟨s3, h⟩ := h
      obtain ⟨s4, h⟩ := h
      obtain ⟨s5, h⟩ := h
      obtain ⟨s6, h⟩ := h
      obtain ⟨s7, h⟩ := h
      obtain ⟨s8, h⟩ := h
      obtain ⟨s9, h⟩ := h
      by_cases b2 : (!ByteArray.toList (ByteArray.extract x0 0 5) == ByteArray.toList (g26_0 (ByteArray.mk #[48]) (5 - (↑(ByteArray.size (g24_0 (g25_0 (ByteArray.extract x0 6 (Int.toNat (↑(ByteArray.size x0) : Int))) 65535))) : Int)) ++ g24_0 (g25_0 (ByteArray.extract x0 6 (Int.toNat (↑(ByteArray.size x0) : Int))) 65535))) = true
      · try simp only [if_pos b2] at h ⊢
        exact AtV.fin Tryd.func13 tabOk ext13Ok mixed (p13_2 x0) ⟨b0, (by decide), s0, b1, (by decide), s1, s2, s3, (by decide), s4, trivial, s5, (by decide), s6, s7, s8, s9, b2, trivial⟩
      · try simp only [if_neg b2] at h ⊢
        replace b2 := Bool.eq_false_iff.2 b2
        obtain ⟨s10, h⟩ := h
        by_cases b3 : (!g27_0 (g23_0 (ByteArray.extract x0 6 (Int.toNat (↑(ByteArray.size x0) : Int))) (ByteArray.mk #[32]), g23_0 (g23_1 (ByteArray.extract x0 6 (Int.toNat (↑(ByteArray.size x0) : Int))) (ByteArray.mk #[32])) (ByteArray.mk #[32]), g23_1 (g23_1 (ByteArray.extract x0 6 (Int.toNat (↑(ByteArray.size x0) : Int))) (ByteArray.mk #[32])) (ByteArray.mk #[32]), ())) = true
        · try simp only [if_pos b3] at h ⊢
          exact AtV.fin Tryd.func13 tabOk ext13Ok mixed (p13_3 x0) ⟨b0, (by decide), s0, b1, (by decide), s1, s2, s3, (by decide), s4, trivial, s5, (by decide), s6, s7, s8, s9, b2, s10, b3, rfl, trivial⟩
        · try simp only [if_neg b3] at h ⊢
          replace b3 := Bool.eq_false_iff.2 b3
          obtain ⟨s11, h⟩ := h
          by_cases b4 : (!ByteArray.toList (g28_0 (g23_0 (ByteArray.extract x0 6 (Int.toNat (↑(ByteArray.size x0) : Int))) (ByteArray.mk #[32]), g23_0 (g23_1 (ByteArray.extract x0 6 (Int.toNat (↑(ByteArray.size x0) : Int))) (ByteArray.mk #[32])) (ByteArray.mk #[32]), g23_1 (g23_1 (ByteArray.extract x0 6 (Int.toNat (↑(ByteArray.size x0) : Int))) (ByteArray.mk #[32])) (ByteArray.mk #[32]), ())) == ByteArray.toList x0) = true
          · try simp only [if_pos b4] at h ⊢
            exact AtV.fin Tryd.func13 tabOk ext13Ok mixed (p13_4 x0) ⟨b0, (by decide), s0, b1, (by decide), s1, s2, s3, (by decide), s4, trivial, s5, (by decide), s6, s7, s8, s9, b2, s10, b3, s11, b4, trivial⟩
          · try simp only [if_neg b4] at h ⊢
            replace b4 := Bool.eq_false_iff.2 b4
            exact AtV.fin Tryd.func13 tabOk ext13Ok mixed (p13_5 x0) ⟨b0, (by decide), s0, b1, (by decide), s1, s2, s3, (by decide), s4, trivial, s5, (by decide), s6, s7, s8, s9, b2, s10, b3, s11, b4, trivial⟩

def S13 : Am.Spec := { sig := sig13, pre := fun ⟨x0, _⟩ => P13 x0, res := fun ⟨x0, _⟩ => [⟨Ty.cons Ty.str (Ty.cons Ty.str (Ty.cons Ty.str Ty.unit)), g13_0 x0⟩, ⟨Ty.int IntKind.i64, g13_1 x0⟩] }
theorem con13 : Contract Tryd.prog 13 S13 := contract_of Tryd.func13 hb13 (Nat.le_of_ble_eq_true (by kernel_rfl)) (fun ⟨x0, _⟩ h _ w0 O q => at13 x0 h w0 O q)


end Go.Proofs.YticibijneahllaaDoor

/- Function 79 (cmp.isNaN[string]): its runs between cut points. Written by a program of this repo (gen). -/
set_option linter.unusedVariables false
set_option linter.unusedSimpArgs false
set_option maxRecDepth 100000
namespace Go.Proofs.YticibijneahllaaDoor
open Go Go.Am Go.Proofs
def ext79 : Ext := []
theorem ext79Ok : ExtOk Tryd.prog ext79 := trivial
/-! Function 79. -/
noncomputable def b79 : Code := bodyOf Tryd.f79
theorem hb79 : Tryd.f79.body = some b79 := by kernel_rfl
def sig79 : List AT := [AT.v (Ty.str)]
def tys79 : List Ty := [Ty.bool]
def P79 (x0 : ByteArray) : Prop := True
def g79_0 (x0 : ByteArray) : Bool := !ByteArray.toList x0 == ByteArray.toList x0
theorem p79_0 (x0 : ByteArray) : runF tab ext79 false 6 [] 2000 [] tys79 Tryd.f79.results [] [.code b79] (entE 0 0 sig79 (x0, ())) (entL sig79 (x0, ())) = some ([Dyn.mk Ty.bool !ByteArray.toList x0 == ByteArray.toList x0], [], []) := by kernel_rfl
theorem at79 (x0 : ByteArray) (h : P79 x0) (w0 : World) (O : List Nat) (q : Nat → Value) : AtV Tryd.prog 79 (PostR [⟨Ty.bool, g79_0 x0⟩] [] [] q w0 O) 6 w0 O q [] [.code b79] (entE 0 0 sig79 (x0, ())) (entL sig79 (x0, ())) := by
  unfold P79 at h
  unfold g79_0
  exact AtV.fin Tryd.func79 tabOk ext79Ok mixed (p79_0 x0) trivial

def S79 : Am.Spec := { sig := sig79, pre := fun ⟨x0, _⟩ => P79 x0, res := fun ⟨x0, _⟩ => [⟨Ty.bool, g79_0 x0⟩] }
theorem con79 : Contract Tryd.prog 79 S79 := contract_of Tryd.func79 hb79 (Nat.le_of_ble_eq_true (by kernel_rfl)) (fun ⟨x0, _⟩ h _ w0 O q => at79 x0 h w0 O q)


end Go.Proofs.YticibijneahllaaDoor
