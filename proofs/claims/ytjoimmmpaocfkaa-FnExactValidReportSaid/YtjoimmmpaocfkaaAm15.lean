/- The abstract machine, part 15: append, bytes and strings. -/
import Derived.Test.YtjoimmmpaocfkaaAm14
namespace Go.Am
set_option linter.unusedVariables false
set_option linter.unusedSimpArgs false

section
variable {P : Program}

theorem free_of (n : Nat) : Free (n, n + 1) n := fun j hj h => by omega

/-- 'append' over what lies in memory. -/
theorem append_run {w : World} {T T2 ty e : TypeId} {i : TypeInfo} {d : TypeDesc} {t : Ty} (hT : P.underlying T = some (.slice e)) (hT2 : P.underlying T2 = some d) (hd : ∀ k, d ≠ .int k) (hi : P.info? e = some i) (he : TyOk P e t) (hsz : 0 < t.size)
    {adr : Option Addr} {len cap m : Nat} {x : Value} {olds news : List Value} (hx : ∀ w' : World, w'.heap = w.heap → (Builtin.firstCells t.size m x).run P w' = .ok news.toArray w') (hxl : ∀ w', (Builtin.lenOf x).run P w' = .ok m w')
    (ho : ∀ w' : World, w'.heap = w.heap → (Builtin.firstCells t.size len (.slice adr len cap)).run P w' = .ok olds.toArray w') (hol : olds.length = len * t.size) (hnl : news.length = m * t.size) (h1 : ∀ v ∈ news, v.oneCell' = true)
    (hbound : (len + m) * i.bytes ≤ 140737488355328) (hml : len + m ≤ maxLen)
    (hadr : (adr = none ∧ cap = 0) ∨ ∃ b o cur ct fz, adr = some ⟨b, o, none⟩ ∧ w.heap[b]? = some (.cells cur ct fz) ∧ Free fz cur.size ∧ o + cap * t.size ≤ cur.size) :
    ∃ v' w', (Builtin.append_ #[T, T2] ty #[.slice adr len cap, x]).run P w = .ok v' w' ∧
      ((len + m ≤ cap ∧ ((adr = none ∧ v' = .slice none 0 0 ∧ w' = w ∧ m = 0 ∧ len = 0) ∨
          ∃ b o cur ct fz cur', adr = some ⟨b, o, none⟩ ∧ w.heap[b]? = some (.cells cur ct fz) ∧ Free fz cur.size ∧ o + cap * t.size ≤ cur.size ∧ v' = .slice (some ⟨b, o, none⟩) (len + m) cap ∧ w'.heap[b]? = some (.cells cur' ct fz) ∧ cur'.toList = splice cur.toList (o + len * t.size) news ∧ Kept [b] w w')) ∨
       (cap < len + m ∧ ∃ nc rest, v' = .slice (some ⟨w.heap.size, 0, none⟩) (len + m) nc ∧ len + m ≤ nc ∧ nc ≤ maxLen ∧ w' = w.drew.alloc (.cells (olds ++ news ++ rest).toArray e) ∧ (olds ++ news ++ rest).length = nc * t.size)) := by
  have hzero : (match d with | .int _ => true | _ => false) = false := by
    cases d <;> first | rfl | exact absurd rfl (hd _)
  have hset : ∀ w, (sizeOf e).run P w = .ok t.size w := he.size_run
  by_cases hroom : len + m ≤ cap
  · rcases hadr with ⟨rfl, rfl⟩ | ⟨b, o, cur, ct, fz, rfl, hb, hf, hfit⟩
    · have e0 : m = 0 := by omega
      have e1 : len = 0 := by omega
      subst e0 e1
      refine ⟨.slice none 0 0, w, ?_, .inl ⟨hroom, .inl ⟨rfl, rfl, rfl, rfl, rfl⟩⟩⟩
      unfold Builtin.append_
      simp [run_underlying hT, run_underlying hT2, hset, hzero, hxl, hx w rfl]
    · have hle : (len + m) * t.size ≤ cap * t.size := Nat.mul_le_mul_right _ hroom
      rw [Nat.add_mul] at hle
      obtain ⟨w', cur', s1, s2, s3, s4, s5⟩ := storeCells_run (P := P) news w b (o + len * t.size) 0 cur ct fz hb hf (by omega) h1
      refine ⟨_, w', ?_, .inl ⟨hroom, .inr ⟨b, o, cur, ct, fz, cur', rfl, hb, hf, hfit, rfl, s2, by rw [s3, Nat.add_zero], s4⟩⟩⟩
      unfold Builtin.append_
      simp [run_underlying hT, run_underlying hT2, hset, hzero, hxl, hx w rfl, hroom, Addr.add_lit, s1]
  · have hlt : cap < len + m := by omega
    have hge := grownCap_ge w (len + m) cap e
    have hcm := grownCap_le_maxLen w (len + m) cap e hml
    have hdl : (dcells t).length = t.size := (dcells_rep default (Good default []) t).length
    have hzl := zeros_list t (grownCap w (len + m) cap e - (len + m)) (dcells t).toArray (fun _ => rfl)
    refine ⟨.slice (some ⟨w.heap.size, 0, none⟩) (len + m) (grownCap w (len + m) cap e), _, ?_, .inr ⟨hlt, grownCap w (len + m) cap e, (List.replicate (grownCap w (len + m) cap e - (len + m)) (dcells t)).flatten, rfl, hge, hcm, rfl, ?_⟩⟩
    · have hfit := growslice_fits hlt hbound
      have h2 : ¬ (((len + m : Nat) : Int) > 9223372036854775807) := by unfold maxLen at hml; omega
      have h2' : ¬ ((9223372036854775807 : Int) < (len : Int) + (m : Int)) := by unfold maxLen at hml; omega
      have hzc : Builtin.zeroCells (valOf t (dcells t)).cells (grownCap w (len + m) cap e - (len + m)) = (List.replicate (grownCap w (len + m) cap e - (len + m)) (dcells t)).flatten.toArray := by
        rw [dcells_cells, ← hzl]
        simp only [Builtin.zeroCells, List.size_toArray, hdl]
      have hforced : (Question.appendCap (len + m) cap e).forced = false := rfl
      have hfit' : ¬ (281474976710656 < Builtin.nextslicecap (len + m) cap * i.bytes) := by omega
      have ho' := ho w.drew rfl
      have hx' := hx w.drew rfl
      have hgc : (Question.appendCap (len + m) cap e).cut (w.tape w.drawn (.appendCap (len + m) cap e)) = grownCap w (len + m) cap e := rfl
      have hdr : ({ w with drawn := w.drawn + 1 } : World) = w.drew := rfl
      unfold Builtin.append_
      simp [run_underlying hT, run_underlying hT2, hset, hzero, hxl, hroom, typeInfo, hi, h2', hfit', hforced, hgc, hdr, ho', hx', he.zero_run, hzc, newRow]
    · simp only [List.length_append, hol, hnl, List.length_flatten]
      simp [hdl]
      rw [← Nat.add_mul, ← Nat.add_mul]
      congr 1
      omega

theorem run_firstCells_slice {w : World} {sz m b o len cap : Nat} {cs : List Value} (hl : cs.length = m * sz) (hc : CellsAt w b o cs) : (Builtin.firstCells sz m (.slice (some ⟨b, o, none⟩) len cap)).run P w = .ok cs.toArray w := by
  have := run_loadCells_list (P := P) w ⟨b, o, none⟩ cs (fun j v hj => by rw [Addr.add_lit]; exact hc j v hj)
  simp only [Builtin.firstCells, ← hl, this]

theorem run_firstCells_nil {w : World} {sz m len cap : Nat} : (Builtin.firstCells sz m (.slice none len cap)).run P w = .ok #[] w := rfl
end

/-- What stands in the cells of a slice, row by row. -/
theorem SlAt.row {w : World} {G : Nat → Prop} {α : Type} {R : α → List Value → Prop} {sz : Nat} {xs : List α} {v : Value} (h : SlAt w G R sz xs v) :
    ∃ css bss, Row (fun y c b => R y c ∧ b = []) sz xs css bss ∧ bss.flatten = [] ∧ ((v = .slice none 0 0 ∧ xs = []) ∨ ∃ b off cap, v = .slice (some ⟨b, off, none⟩) xs.length cap ∧ G b ∧ CellsAt w b off css.flatten) := by
  rcases h.2 with ⟨rfl, rfl⟩ | ⟨b, off, cap, rfl, h1, h2, h3, h4⟩
  · exact ⟨[], [], ⟨rfl, rfl⟩, rfl, .inl ⟨rfl, rfl⟩⟩
  · obtain ⟨css, hr, hc⟩ := row_of (R := fun y c b => R y c ∧ b = []) (sz := sz) (f := fun j => w.cell? ⟨b, j, none⟩) xs (List.replicate xs.length []) off (by simp) (fun i y bi hy hb => by
      obtain ⟨cs, e1, e2, e3⟩ := h4 i y hy
      have : bi = [] := by
        have := List.mem_of_getElem? hb
        exact (List.mem_replicate.1 this).2
      exact ⟨cs, e1, e2, e3, this⟩)
    exact ⟨css, _, hr, by simp, .inr ⟨b, off, cap, rfl, h3, hc⟩⟩

/-- The same of an owned array whose elements own nothing. -/
theorem OwnSl.row {w : World} {α : Type} {R : α → List Value → List Nat → Prop} {sz : Nat} {xs : List α} {v : Value} {bs : List Nat} (h : OwnSl w R sz xs v bs) :
    ∃ css bss, Row R sz xs css bss ∧ ((v = .slice none 0 0 ∧ xs = [] ∧ bs = []) ∨ ∃ b off cap cur ty fz, v = .slice (some ⟨b, off, none⟩) xs.length cap ∧ xs.length ≤ cap ∧ cap ≤ maxLen ∧ off + cap * sz ≤ cur.size ∧
      w.heap[b]? = some (.cells cur ty fz) ∧ Free fz cur.size ∧ bs = b :: bss.flatten ∧ ∀ j c, css.flatten[j]? = some c → cur[off + j]? = some c) := by
  rcases h.2 with ⟨rfl, rfl, rfl⟩ | ⟨b, off, cap, cur, ty, fz, bss, rfl, h1, h2, h3, h4, h5, h6, h7, h8⟩
  · exact ⟨[], [], ⟨rfl, rfl⟩, .inl ⟨rfl, rfl, rfl⟩⟩
  · obtain ⟨css, hr, hc⟩ := row_of (R := R) (sz := sz) (f := fun j => cur[j]?) xs bss off h6 (fun i y bi hy hb => h8 i y bi hy hb)
    exact ⟨css, bss, hr, .inr ⟨b, off, cap, cur, ty, fz, rfl, h1, h2, h3, h4, h5, h7, hc⟩⟩
end Go.Am
