/- Several texts in one: the abstract machine. -/
import Derived.WalkKit
import Derived.Below
import Derived.Lib.ItoaNum
import Derived.Lib.LaidTab
import Derived.Deep.Quiet
namespace Go.Am
set_option linter.unusedVariables false
inductive GK where
 | int (k:IntKind)
 | tab (k:IntKind) (zs:List Int)
 | ifc
def glist:List (Nat×GK):=[]
def gtop:List (Nat×GK)→Nat
 | []=>0
 | p :: r=>Nat.max (p.1+1) (gtop r)
def GN:Nat:=gtop glist
def GHas (w:World) (g:Nat):GK→Prop
 | .int k=>∃ m,w.cell? ⟨g,0,none⟩=some (.int k m)
 | .tab k zs=>∃ t fz,w.heap[g]? = some (.cells (zs.map fun z=>Value.int k z).toArray t fz)
 | .ifc=>∃ t fz u v,w.heap[g]? = some (.cells #[.iface u v] t fz)
def GInvL (w:World):List (Nat×GK)→Prop
 | []=>True
 | p :: r=>GHas w p.1 p.2∧GInvL w r
def GInv (w:World):Prop:=GInvL w glist
theorem GHas.lt {w:World} {g:Nat}:∀ {k:GK},GHas w g k→g<w.heap.size
 | .int k,⟨m,hm⟩=>by
  rcases Nat.lt_or_ge g w.heap.size with h | h
  ·exact h
  ·simp [World.cell?, Array.getElem?_eq_none h] at hm
 | .tab k zs,⟨_,_,hm⟩=>by
  rcases Nat.lt_or_ge g w.heap.size with h | h
  ·exact h
  ·rw [Array.getElem?_eq_none h] at hm;cases hm
 | .ifc,⟨_,_,_,_,hm⟩=>by
  rcases Nat.lt_or_ge g w.heap.size with h | h
  ·exact h
  ·rw [Array.getElem?_eq_none h] at hm;cases hm
theorem GHas.keep {w w':World} {g:Nat} (hb:w'.heap[g]? = w.heap[g]?):∀ {k:GK},GHas w g k→GHas w' g k
 | .int k,⟨m,hm⟩=>⟨m,by simp only [World.cell?] at hm ⊢;rw [hb];exact hm⟩
 | .tab k zs,⟨t,fz,hm⟩=>⟨t,fz,by rw [hb];exact hm⟩
 | .ifc,⟨t,fz,u,v,hm⟩=>⟨t,fz,u,v,by rw [hb];exact hm⟩
theorem GInvL.keep {w w':World}:∀ {l:List (Nat×GK)},GInvL w l→(∀ b,b<gtop l→b<w.heap.size→w'.heap[b]? = w.heap[b]?)→GInvL w' l
 | [],_,_=>trivial
 | p :: r,h,hb=>by
  refine ⟨h.1.keep (hb _ ?_ h.1.lt),h.2.keep fun b hb'=>hb b ?_⟩
  ·exact Nat.lt_of_lt_of_le (Nat.lt_succ_self _) (Nat.le_max_left _ _)
  ·exact Nat.lt_of_lt_of_le hb' (Nat.le_max_right _ _)
theorem GInv.keep {w w':World} (h:GInv w) (hb:∀ b,b<GN→b<w.heap.size→w'.heap[b]? = w.heap[b]?):GInv w':=GInvL.keep h hb
theorem GInvL.size {w:World}:∀ {l:List (Nat×GK)},GInvL w l→gtop l≤w.heap.size
 | [],_=>Nat.zero_le _
 | p :: r,h=>Nat.max_le.2 ⟨h.1.lt,h.2.size⟩
theorem GInv.size {w:World} (h:GInv w):GN≤w.heap.size:=GInvL.size h
theorem GHas.tab {w:World} {P:Program} {g:Nat} {k:IntKind} {zs:List Int} {name:String} (hg:P.globalNamed name=some g) (h:GHas w g (.tab k zs)):Lib.TabIs P w name k zs:=by
 obtain ⟨t,fz,h⟩:=h
 unfold Lib.TabIs World.var?
 rw [hg]
 show (match w.heap[g]? with | some (.cells cs _ _)=>some cs | _=>none)=_
 rw [h]
structure GOk (w:World) (O:List Nat):Prop where
 inv:GInv w
 size:GN≤w.heap.size
 out:∀ b∈O,GN≤b
end Go.Am
namespace Go.Am
set_option linter.unusedVariables false
open Go.RowKit (Below)
inductive Ty where
 | int (k:IntKind) | bool | fn | str | sl (e:Ty) | unit | cons (a b:Ty)
 deriving DecidableEq
@[reducible] def Ty.den:Ty→Type
 | .int _=>Int
 | .bool=>Bool
 | .fn=>Option Nat
 | .str=>ByteArray
 | .sl e=>List e.den
 | .unit=>Unit
 | .cons a b=>a.den×b.den
def Ty.dflt:(t:Ty)→t.den
 | .int _=>(0:Int)
 | .bool=>false
 | .fn=>(none:Option Nat)
 | .str=>ByteArray.empty
 | .sl _=>[]
 | .unit=>()
 | .cons a b=>(a.dflt,b.dflt)
def Ty.size:Ty→Nat
 | .unit=>0
 | .cons a b=>a.size+b.size
 | _=>1
def Ty.flat:Ty→Bool
 | .sl _=>false
 | .cons a b=>a.flat&&b.flat
 | _=>true
def fnV:Option Nat→Value
 | none => .nilFunc
 | some f => .func (.func f) #[] #[]
theorem fnV_one (f:Option Nat):(fnV f).oneCell'=true:=by cases f <;> rfl
def InR (k:IntKind) (n:Int):Prop:=k.min≤n∧n≤k.max
def Wf:(t:Ty)→t.den→Prop
 | .int k,n=>InR k n
 | .bool,_=>True
 | .fn,_=>True
 | .str,s=>s.size≤maxLen
 | .sl e,xs=>xs.length≤maxLen∧∀ x∈xs,Wf e x
 | .unit,_=>True
 | .cons a b,x=>Wf a x.1∧Wf b x.2
def SlAt (w : World) (G : Nat → Prop) {α : Type} (R : α → List Value → Prop) (sz : Nat) (xs : List α) (v : Value) : Prop :=
  xs.length ≤ maxLen ∧ ((∃ ad, v = .slice ad 0 0 ∧ xs = []) ∨
   ∃ b off cap, v = .slice (some ⟨b, off, none⟩) xs.length cap ∧ xs.length ≤ cap ∧ cap ≤ maxLen ∧ G b ∧
     ∀ i x, xs[i]? = some x → ∃ cs, cs.length = sz ∧ (∀ j c, cs[j]? = some c → w.cell? ⟨b, off + i * sz + j, none⟩ = some c) ∧ R x cs)
def RepC (w:World) (G:Nat→Prop):(t:Ty)→t.den→List Value→Prop
 | .int k,n,cs=>cs=[.int k n]∧InR k n
 | .bool,b,cs=>cs=[.bool b]
 | .fn,f,cs=>cs=[fnV f]
 | .str,s,cs=>cs=[.string s]∧s.size≤maxLen
 | .sl e,xs,cs=>∃ v,cs=[v]∧SlAt w G (RepC w G e) e.size xs v
 | .unit,_,cs=>cs=[]
 | .cons a b,x,cs=>∃ c1 c2,cs=c1++c2∧RepC w G a x.1 c1∧RepC w G b x.2 c2
def Free (fz:Nat×Nat) (n:Nat):Prop:=∀ j,j<n→¬ (fz.1≤j∧j<fz.2)
def FreeS (sz:Nat) (fz:Nat×Nat) (n:Nat):Prop:=Free fz n∧(sz=1∨Free fz (n+1))
def OwnSl (w : World) {α : Type} (R : α → List Value → List Nat → Prop) (sz : Nat) (xs : List α) (v : Value) (bs : List Nat) : Prop :=
  xs.length ≤ maxLen ∧ ((∃ ad, v = .slice ad 0 0 ∧ xs = [] ∧ bs = []) ∨
   ∃ (b off cap : Nat) (cur : Array Value) (ty : TypeId) (fz : Nat × Nat) (bss : List (List Nat)), v = .slice (some ⟨b, off, none⟩) xs.length cap ∧ xs.length ≤ cap ∧ cap ≤ maxLen ∧ off + cap * sz ≤ cur.size ∧
     w.heap[b]? = some (.cells cur ty fz) ∧ FreeS sz fz cur.size ∧ bss.length = xs.length ∧ bs = b :: bss.flatten ∧
     ∀ i x bi, xs[i]? = some x → bss[i]? = some bi → ∃ cs, cs.length = sz ∧ (∀ j c, cs[j]? = some c → cur[off + i * sz + j]? = some c) ∧ R x cs bi)
def OwnC (w:World):(t:Ty)→t.den→List Value→List Nat→Prop
 | .int k,n,cs,bs=>cs=[.int k n]∧InR k n∧bs=[]
 | .bool,b,cs,bs=>cs=[.bool b]∧bs=[]
 | .fn,f,cs,bs=>cs=[fnV f]∧bs=[]
 | .str,s,cs,bs=>cs=[.string s]∧s.size≤maxLen∧bs=[]
 | .sl e,xs,cs,bs=>∃ v,cs=[v]∧OwnSl w (OwnC w e) e.size xs v bs
 | .unit,_,cs,bs=>cs=[]∧bs=[]
 | .cons a b,x,cs,bs=>∃ c1 c2 b1 b2,cs=c1++c2∧bs=b1++b2∧OwnC w a x.1 c1 b1∧OwnC w b x.2 c2 b2
theorem RepC.length {w:World} {G:Nat→Prop}:∀ {t:Ty} {x:t.den} {cs:List Value},RepC w G t x cs→cs.length=t.size
 | .int _,_,_,h=>by rw [h.1];rfl
 | .bool,_,_,h=>by rw [h];rfl
 | .fn,_,_,h=>by rw [h];rfl
 | .str,_,_,h=>by rw [h.1];rfl
 | .sl _,_,_,⟨_,h,_⟩=>by rw [h];rfl
 | .unit,_,_,h=>by rw [h];rfl
 | .cons _ _,_,_,⟨_,_,h,h1,h2⟩=>by rw [h,List.length_append,h1.length,h2.length];rfl
theorem OwnC.length {w:World}:∀ {t:Ty} {x:t.den} {cs:List Value} {bs:List Nat},OwnC w t x cs bs→cs.length=t.size
 | .int _,_,_,_,h=>by rw [h.1];rfl
 | .bool,_,_,_,h=>by rw [h.1];rfl
 | .fn,_,_,_,h=>by rw [h.1];rfl
 | .str,_,_,_,h=>by rw [h.1];rfl
 | .sl _,_,_,_,⟨_,h,_⟩=>by rw [h];rfl
 | .unit,_,_,_,h=>by rw [h.1];rfl
 | .cons _ _,_,_,_,⟨_,_,_,_,h,_,h1,h2⟩=>by rw [h,List.length_append,h1.length,h2.length];rfl
theorem wf_slAt {w:World} {G:Nat→Prop} {e:Ty} {xs:List e.den} {v:Value} (ih:∀ x cs,RepC w G e x cs→Wf e x) (h:SlAt w G (RepC w G e) e.size xs v):Wf (.sl e) xs:=by
 refine ⟨h.1,fun x hx => ?_⟩
 rcases h.2 with ⟨_,_,rfl⟩ | ⟨b,off,cap,_,_,_,_,hr⟩
 ·cases hx
 ·obtain ⟨i,hi⟩:=List.getElem?_of_mem hx
  obtain ⟨cs,_,_,h⟩:=hr i x hi
  exact ih x cs h
theorem RepC.wf {w:World} {G:Nat→Prop}:∀ {t:Ty} {x:t.den} {cs:List Value},RepC w G t x cs→Wf t x
 | .int _,_,_,h=>h.2
 | .bool,_,_,_=>trivial
 | .fn,_,_,_=>trivial
 | .str,_,_,h=>h.2
 | .sl _,_,_,⟨_,_,h⟩=>wf_slAt (fun _ _=>RepC.wf) h
 | .unit,_,_,_=>trivial
 | .cons _ _,_,_,⟨_,_,_,h1,h2⟩=>⟨h1.wf,h2.wf⟩
theorem wf_ownSl {w:World} {e:Ty} {xs:List e.den} {v:Value} {bs:List Nat} (ih:∀ x cs bs,OwnC w e x cs bs→Wf e x) (h:OwnSl w (OwnC w e) e.size xs v bs):Wf (.sl e) xs:=by
 refine ⟨h.1,fun x hx => ?_⟩
 rcases h.2 with ⟨_,_,rfl,_⟩ | ⟨b,off,cap,cur,ty,fz,bss,_,_,_,_,_,_,hl,_,hr⟩
 ·cases hx
 ·obtain ⟨i,hi⟩:=List.getElem?_of_mem hx
  have hlt:i<bss.length:=by rw [hl];exact (List.getElem?_eq_some_iff.1 hi).1
  obtain ⟨cs,_,_,h⟩:=hr i x _ hi (List.getElem?_eq_getElem hlt)
  exact ih x cs _ h
theorem OwnC.wf {w:World}:∀ {t:Ty} {x:t.den} {cs:List Value} {bs:List Nat},OwnC w t x cs bs→Wf t x
 | .int _,_,_,_,h=>h.2.1
 | .bool,_,_,_,_=>trivial
 | .fn,_,_,_,_=>trivial
 | .str,_,_,_,h=>h.2.1
 | .sl _,_,_,_,⟨_,_,h⟩=>wf_ownSl (fun _ _ _=>OwnC.wf) h
 | .unit,_,_,_,_=>trivial
 | .cons _ _,_,_,_,⟨_,_,_,_,_,_,h1,h2⟩=>⟨h1.wf,h2.wf⟩
theorem SlAt.keep {w w':World} {G G':Nat→Prop} {α:Type} {R R':α→List Value→Prop} {sz:Nat} {xs:List α} {v:Value}
  (hR:∀ x cs,R x cs→R' x cs) (hG:∀ b,G b→G' b) (hw:∀ b,G b→w'.heap[b]? = w.heap[b]?) (h:SlAt w G R sz xs v):SlAt w' G' R' sz xs v:=by
 refine ⟨h.1,?_⟩
 rcases h.2 with h | ⟨b,off,cap,h1,h2,h3,h4,h5⟩
 ·exact .inl h
 ·refine .inr ⟨b,off,cap,h1,h2,h3,hG b h4,fun i x hx => ?_⟩
  obtain ⟨cs,hl,hc,hr⟩:=h5 i x hx
  exact ⟨cs,hl,fun j c hj=>by rw [World.cell?_of_block (w:=w) (hw b h4)];exact hc j c hj,hR _ _ hr⟩
theorem RepC.keep {w w':World} {G G':Nat→Prop} (hG:∀ b,G b→G' b) (hw:∀ b,G b→w'.heap[b]? = w.heap[b]?):∀ {t:Ty} {x:t.den} {cs:List Value},RepC w G t x cs→RepC w' G' t x cs
 | .int _,_,_,h=>h
 | .bool,_,_,h=>h
 | .fn,_,_,h=>h
 | .str,_,_,h=>h
 | .sl _,_,_,⟨v,h,h2⟩=>⟨v,h,h2.keep (fun _ _=>RepC.keep hG hw) hG hw⟩
 | .unit,_,_,h=>h
 | .cons _ _,_,_,⟨c1,c2,h,h1,h2⟩=>⟨c1,c2,h,h1.keep hG hw,h2.keep hG hw⟩
theorem mem_flatten_of_get {bss:List (List Nat)} {i:Nat} {bi:List Nat} (h:bss[i]? = some bi):∀ b∈bi,b∈bss.flatten :=
 fun b hb=>List.mem_flatten.2 ⟨bi,List.mem_of_getElem? h,hb⟩
theorem OwnSl.keep {w w':World} {α:Type} {R R':α→List Value→List Nat→Prop} {sz:Nat} {xs:List α} {v:Value} {bs:List Nat}
  (hR:∀ x cs bi,(∀ b∈bi,b∈bs)→R x cs bi→R' x cs bi) (hw:∀ b∈bs,w'.heap[b]? = w.heap[b]?) (h:OwnSl w R sz xs v bs):OwnSl w' R' sz xs v bs:=by
 refine ⟨h.1,?_⟩
 rcases h.2 with h | ⟨b,off,cap,cur,ty,fz,bss,h1,h2,h3,h4,h5,h6,h7,h8,h9⟩
 ·exact .inl h
 ·refine .inr ⟨b,off,cap,cur,ty,fz,bss,h1,h2,h3,h4,by rw [hw b (by rw [h8];exact List.mem_cons_self ..)];exact h5,h6,h7,h8,fun i x bi hx hb => ?_⟩
  obtain ⟨cs,hl,hc,hr⟩:=h9 i x bi hx hb
  exact ⟨cs,hl,hc,hR _ _ _ (fun b hb'=>by rw [h8];exact List.mem_cons_of_mem _ (mem_flatten_of_get hb b hb')) hr⟩
theorem OwnC.keep {w w':World}:∀ {t:Ty} {x:t.den} {cs:List Value} {bs:List Nat},(∀ b∈bs,w'.heap[b]? = w.heap[b]?)→OwnC w t x cs bs→OwnC w' t x cs bs
 | .int _,_,_,_,_,h=>h
 | .bool,_,_,_,_,h=>h
 | .fn,_,_,_,_,h=>h
 | .str,_,_,_,_,h=>h
 | .sl _,_,_,_,hw,⟨v,h,h2⟩=>⟨v,h,h2.keep (fun _ _ _ hs=>OwnC.keep (fun b hb=>hw b (hs b hb))) hw⟩
 | .unit,_,_,_,_,h=>h
 | .cons _ _,_,_,_,hw,⟨c1,c2,b1,b2,h,hb,h1,h2⟩ =>
  ⟨c1,c2,b1,b2,h,hb,h1.keep (fun b hb'=>hw b (by rw [hb];exact List.mem_append_left _ hb')),h2.keep (fun b hb'=>hw b (by rw [hb];exact List.mem_append_right _ hb'))⟩
theorem RepC.flat {w w':World} {G G':Nat→Prop}:∀ {t:Ty} {x:t.den} {cs:List Value},t.flat=true→RepC w G t x cs→RepC w' G' t x cs
 | .int _,_,_,_,h=>h
 | .bool,_,_,_,h=>h
 | .fn,_,_,_,h=>h
 | .str,_,_,_,h=>h
 | .unit,_,_,_,h=>h
 | .cons _ _,_,_,hf,⟨c1,c2,h,h1,h2⟩=>by
  simp only [Ty.flat,Bool.and_eq_true] at hf
  exact ⟨c1,c2,h,h1.flat hf.1,h2.flat hf.2⟩
theorem OwnC.flat {w:World} {G:Nat→Prop} {w':World}:∀ {t:Ty} {x:t.den} {cs:List Value} {bs:List Nat},t.flat=true→OwnC w t x cs bs→RepC w' G t x cs∧bs=[]
 | .int _,_,_,_,_,h=>⟨⟨h.1,h.2.1⟩,h.2.2⟩
 | .bool,_,_,_,_,h=>h
 | .fn,_,_,_,_,h=>h
 | .str,_,_,_,_,h=>⟨⟨h.1,h.2.1⟩,h.2.2⟩
 | .unit,_,_,_,_,h=>h
 | .cons _ _,_,_,_,hf,⟨c1,c2,b1,b2,h,hb,h1,h2⟩=>by
  simp only [Ty.flat,Bool.and_eq_true] at hf
  obtain ⟨a1,e1⟩:=h1.flat (w':=w') (G:=G) hf.1
  obtain ⟨a2,e2⟩:=h2.flat (w':=w') (G:=G) hf.2
  exact ⟨⟨c1,c2,h,a1,a2⟩,by rw [hb,e1,e2];rfl⟩
theorem RepC.own {w w':World} {G:Nat→Prop}:∀ {t:Ty} {x:t.den} {cs:List Value},t.flat=true→RepC w G t x cs→OwnC w' t x cs []
 | .int _,_,_,_,h=>⟨h.1,h.2,rfl⟩
 | .bool,_,_,_,h=>⟨h,rfl⟩
 | .fn,_,_,_,h=>⟨h,rfl⟩
 | .str,_,_,_,h=>⟨h.1,h.2,rfl⟩
 | .unit,_,_,_,h=>⟨h,rfl⟩
 | .cons _ _,_,_,hf,⟨c1,c2,h,h1,h2⟩=>by
  simp only [Ty.flat,Bool.and_eq_true] at hf
  exact ⟨c1,c2,[],[],h,rfl,h1.own hf.1,h2.own hf.2⟩
theorem OwnSl.read {w:World} {G:Nat→Prop} {α:Type} {R:α→List Value→List Nat→Prop} {R':α→List Value→Prop} {sz:Nat} {xs:List α} {v:Value} {bs:List Nat}
  (hR:∀ x cs bi,(∀ b∈bi,b∈bs)→R x cs bi→R' x cs) (hG:∀ b∈bs,G b) (h:OwnSl w R sz xs v bs):SlAt w G R' sz xs v:=by
 refine ⟨h.1,?_⟩
 rcases h.2 with ⟨ad,h1,h2,_⟩ | ⟨b,off,cap,cur,ty,fz,bss,h1,h2,h3,h4,h5,h6,h7,h8,h9⟩
 ·exact .inl ⟨ad,h1,h2⟩
 ·refine .inr ⟨b,off,cap,h1,h2,h3,hG b (by rw [h8];exact List.mem_cons_self ..),fun i x hx => ?_⟩
  have hlt:i<bss.length:=by rw [h7];exact (List.getElem?_eq_some_iff.1 hx).1
  obtain ⟨cs,hl,hc,hr⟩:=h9 i x _ hx (List.getElem?_eq_getElem hlt)
  refine ⟨cs,hl,fun j c hj => ?_,hR _ _ _ (fun b hb'=>by rw [h8];exact List.mem_cons_of_mem _ (mem_flatten_of_get (List.getElem?_eq_getElem hlt) b hb')) hr⟩
  simp only [World.cell?, h5]
  exact hc j c hj
theorem OwnC.read {w:World} {G:Nat→Prop}:∀ {t:Ty} {x:t.den} {cs:List Value} {bs:List Nat},(∀ b∈bs,G b)→OwnC w t x cs bs→RepC w G t x cs
 | .int _,_,_,_,_,h=>⟨h.1,h.2.1⟩
 | .bool,_,_,_,_,h=>h.1
 | .fn,_,_,_,_,h=>h.1
 | .str,_,_,_,_,h=>⟨h.1,h.2.1⟩
 | .sl _,_,_,_,hG,⟨v,h,h2⟩=>⟨v,h,h2.read (fun _ _ _ hs=>OwnC.read (fun b hb=>hG b (hs b hb))) hG⟩
 | .unit,_,_,_,_,h=>h.1
 | .cons _ _,_,_,_,hG,⟨c1,c2,b1,b2,h,hb,h1,h2⟩ =>
  ⟨c1,c2,h,h1.read (fun b hb'=>hG b (by rw [hb];exact List.mem_append_left _ hb')),h2.read (fun b hb'=>hG b (by rw [hb];exact List.mem_append_right _ hb'))⟩
theorem OwnC.lt {w:World}:∀ {t:Ty} {x:t.den} {cs:List Value} {bs:List Nat},OwnC w t x cs bs→∀ b∈bs,b<w.heap.size
 | .int _,_,_,_,h,b,hb=>by rw [h.2.2] at hb;cases hb
 | .bool,_,_,_,h,b,hb=>by rw [h.2] at hb;cases hb
 | .fn,_,_,_,h,b,hb=>by rw [h.2] at hb;cases hb
 | .str,_,_,_,h,b,hb=>by rw [h.2.2] at hb;cases hb
 | .unit,_,_,_,h,b,hb=>by rw [h.2] at hb;cases hb
 | .sl e,xs,_,bs,⟨v,_,h⟩,b,hb=>by
  rcases h.2 with ⟨_,_,_,h⟩ | ⟨b',off,cap,cur,ty,fz,bss,h1,h2,h3,h4,h5,h6,h7,h8,h9⟩
  ·rw [h] at hb;cases hb
  ·rw [h8] at hb
   rcases List.mem_cons.1 hb with rfl | hb
   ·rcases Nat.lt_or_ge b w.heap.size with hlt | hge
    ·exact hlt
    ·rw [Array.getElem?_eq_none hge] at h5;cases h5
   ·obtain ⟨bi,hm,hbi⟩:=List.mem_flatten.1 hb
    obtain ⟨i,hi⟩:=List.getElem?_of_mem hm
    have hlt:i<xs.length:=by rw [← h7];exact (List.getElem?_eq_some_iff.1 hi).1
    obtain ⟨cs,_,_,hr⟩:=h9 i _ bi (List.getElem?_eq_getElem hlt) hi
    exact OwnC.lt hr b hbi
 | .cons _ _,_,_,_,⟨c1,c2,b1,b2,_,hb',h1,h2⟩,b,hb=>by
  rw [hb'] at hb
  rcases List.mem_append.1 hb with hb | hb
  ·exact h1.lt b hb
  ·exact h2.lt b hb
end Go.Am
namespace Go.Am
set_option linter.unusedVariables false
structure Dyn where
 t:Ty
 x:t.den
inductive Leaf where
 | val (v:Value)
 | sl (t:Ty) (xs:List t.den)
 | osl (r:Nat) (rg:Option (Nat×Nat))
 | junk
inductive Atom where
 | val (v:Value)
 | sl (t:Ty) (xs:List t.den)
 | ptr (t:Ty) (x:t.den)
 | st (t:Ty) (x:t.den)
 | osl (r:Nat) (rg:Option (Nat×Nat))
 | optr (r i:Nat) (p:List Nat)
 | rcd (t:Ty) (ls:List Leaf)
 | bptr (r o:Nat) (t:Ty)
 | junk
inductive PV where
 | a (x:Atom)
 | tup (xs:List Atom)
 | fn (f:FuncId) (caps:List Atom)
structure Arr where
 t:Ty
 xs:List t.den
 bor:Bool:=false
 ls:Option (List Leaf):=none
 sm:Option Bool:=none
structure Lst where
 t:Ty
 xs:List t.den
abbrev Env:=List (Nat×PV)
abbrev Heap:=List (Option Arr)
def Env.get:Env→Nat→PV
 | [],_ => .a .junk
 | (j,p) :: r,i=>cond (Nat.beq j i) p (Env.get r i)
def Env.set (E:Env) (i:Nat) (p:PV):Env:=(i,p) :: E.filter fun q => !(Nat.beq q.1 i)
def hget:Heap→Nat→Option Arr
 | [],_=>none
 | a :: _,0=>a
 | _ :: l,n+1=>hget l n
def hset:Heap→Nat→Option Arr→Heap
 | [],_,_=>[]
 | _ :: l,0,a=>a :: l
 | b :: l,n+1,a=>b :: hset l n a
theorem nbeq_false {i j:Nat} (h:¬ i=j):Nat.beq i j=false:=Bool.eq_false_iff.2 fun hb=>h (Nat.eq_of_beq_eq_true hb)
theorem Env.get_set (E:Env) (i j:Nat) (p:PV):(E.set i p).get j=if i=j then p else E.get j:=by
 unfold Env.set
 simp only [Env.get]
 by_cases h:i=j
 ·subst h;simp
 ·rw [if_neg h]
  have hb:Nat.beq i j=false:=nbeq_false h
  rw [hb,cond_false]
  induction E with
  | nil=>rfl
  | cons q r ih =>
   obtain ⟨k,u⟩:=q
   by_cases hk:k=i
   ·subst hk
    have:Nat.beq k k=true:=by simp
    simp only [List.filter_cons,this,Bool.not_true,Bool.false_eq_true,if_false,Env.get,hb,cond_false]
    exact ih
   ·have:Nat.beq k i=false:=nbeq_false hk
    simp only [List.filter_cons,this,Bool.not_false,if_true,Env.get]
    rw [ih]
theorem hget_hset (L:Heap) (r s:Nat) (a:Option Arr):hget (hset L r a) s=if r=s∧r<L.length then a else hget L s:=by
 induction L generalizing r s with
 | nil=>simp [hset,hget]
 | cons b l ih =>
  cases r with
  | zero=>cases s with
   | zero=>simp [hset,hget]
   | succ s=>simp [hset,hget]
  | succ r=>cases s with
   | zero=>simp [hset,hget]
   | succ s=>simp only [hset,hget,ih,List.length_cons,Nat.add_lt_add_iff_right,Nat.add_right_cancel_iff]
theorem hget_lt {L:Heap} {r:Nat} {A:Arr} (h:hget L r=some A):r<L.length:=by
 induction L generalizing r with
 | nil=>cases h
 | cons b l ih=>cases r with
  | zero=>simp
  | succ r=>simp only [hget] at h;have:=ih h;simp;omega
theorem hget_append (L M:Heap) (r:Nat):hget (L++M) r=if r<L.length then hget L r else hget M (r - L.length):=by
 induction L generalizing r with
 | nil=>simp
 | cons b l ih=>cases r with
  | zero=>simp [hget]
  | succ r=>simp only [List.cons_append,hget,ih,List.length_cons,Nat.add_lt_add_iff_right,Nat.add_sub_add_right]
structure Kept (O:List Nat) (w w':World):Prop where
 os:w'.os=w.os
 tape:w'.tape=w.tape
 output:w'.output=w.output
 size:w.heap.size≤w'.heap.size
 block:∀ k,k<w.heap.size→k ∉ O→w'.heap[k]? = w.heap[k]?
theorem Kept.refl (O:List Nat) (w:World):Kept O w w:=⟨rfl,rfl,rfl,Nat.le_refl _,fun _ _ _=>rfl⟩
theorem Kept.trans {O:List Nat} {a b c:World} (h:Kept O a b) (k:Kept O b c):Kept O a c :=
 ⟨k.os.trans h.os,k.tape.trans h.tape,k.output.trans h.output,Nat.le_trans h.size k.size,fun i hi ho=>(k.block i (Nat.lt_of_lt_of_le hi h.size) ho).trans (h.block i hi ho)⟩
theorem Kept.mono {O O':List Nat} {a b:World} (h:Kept O a b) (hO:∀ k∈O,k∈O'):Kept O' a b :=
 ⟨h.os,h.tape,h.output,h.size,fun i hi ho=>h.block i hi fun hk=>ho (hO i hk)⟩
theorem Kept.of_nil {O:List Nat} {a b:World} (h:Kept [] a b):Kept O a b:=h.mono (fun _ h=>by cases h)
theorem Kept.drew {O:List Nat} {a w:World} (h:Kept O a w):Kept O a w.drew:=⟨h.os,h.tape,h.output,h.size,h.block⟩
theorem Kept.below {a b:World} (h:Kept [] a b):Go.RowKit.Below a.heap.size a b:=⟨h.os,h.tape,h.output,h.size,fun k hk=>h.block k hk (by simp)⟩
theorem Kept.of_below {a b:World} (h:Go.RowKit.Below a.heap.size a b):Kept [] a b:=⟨h.os,h.tape,h.output,h.size,fun k hk _=>h.block k hk⟩
theorem Kept.alloc {O:List Nat} {a w:World} (h:Kept O a w) (o:Obj):Kept O a (w.alloc o) :=
 h.trans ⟨rfl,rfl,rfl,by simp,fun k hk _=>Go.RowKit.Below.heap_alloc _ _ _ hk⟩
def Good (w0:World) (O:List Nat) (b:Nat):Prop:=b<w0.heap.size∧b ∉ O
theorem Kept.good {O:List Nat} {w0 w:World} (h:Kept O w0 w):∀ b,Good w0 O b→w.heap[b]? = w0.heap[b]? := fun b hb=>h.block b hb.1 hb.2
def OkV:Value→Prop
 | .int k n=>InR k n
 | .string s=>s.size≤maxLen
 | .slice none n c=>n=0∧c=0
 | _=>True
theorem fnV_ok (f:Option Nat):OkV (fnV f):=by cases f <;> trivial
def fldD:(t:Ty)→t.den→Nat→Option Dyn
 | .cons a _,x,0=>some ⟨a,x.1⟩
 | .cons _ b,x,n+1=>fldD b x.2 n
 | _,_,_=>none
def pathD:List Nat→Dyn→Option Dyn
 | [],d=>some d
 | f :: p,d=>match fldD d.t d.x f with
  | some d'=>pathD p d'
  | none=>none
def fldOff:Ty→Nat→Option (Nat×Ty)
 | .cons a _,0=>some (0,a)
 | .cons a b,n+1=>match fldOff b n with
  | some (o,t)=>some (a.size+o,t)
  | none=>none
 | _,_=>none
def pathOff:List Nat→Ty→Option (Nat×Ty)
 | [],t=>some (0,t)
 | f :: p,t=>match fldOff t f with
  | some (o,t')=>match pathOff p t' with
   | some (o',t'')=>some (o+o',t'')
   | none=>none
  | none=>none
def setD:(t:Ty)→t.den→List Nat→Dyn→Option t.den
 | t,_,[],d=>if h:d.t=t then some (h ▸ d.x) else none
 | .cons a b,x,0 :: p,d=>match setD a x.1 p d with
  | some y=>some (y,x.2)
  | none=>none
 | .cons a b,x,(n+1) :: p,d=>match setD b x.2 (n :: p) d with
  | some y=>some (x.1,y)
  | none=>none
 | _,_,_,_=>none
def toAtom:(t:Ty)→t.den→Atom
 | .int k,n => .val (.int k n)
 | .bool,b => .val (.bool b)
 | .fn,f => .val (fnV f)
 | .str,s => .val (.string s)
 | .sl e,xs => .sl e xs
 | .unit,x => .st .unit x
 | .cons a b,x => .st (.cons a b) x
def Dyn.atom (d:Dyn):Atom:=toAtom d.t d.x
def rgLo:Option (Nat×Nat)→Nat
 | some (lo,_)=>lo
 | none=>0
def rgHi (n:Nat):Option (Nat×Nat)→Nat
 | some (_,hi)=>hi
 | none=>n
def SubSl (sz n:Nat) (V:Value) (lo hi:Nat) (v:Value):Prop :=
 lo≤hi∧hi≤n∧((∃ ad ad',V = .slice ad 0 0∧v = .slice ad' 0 0∧n=0∧ad'=ad) ∨
  ∃ b off m cap o c,V = .slice (some ⟨b,off,none⟩) m cap∧v = .slice (some ⟨b,o,none⟩) (hi - lo) c∧hi - lo≤c∧((o=off+lo*sz∧lo+c≤cap)∨(c=0∧o≤off+cap*sz)))
def SubPt (t:Ty) (n:Nat) (V:Value) (i:Nat) (p:List Nat) (v:Value):Prop :=
 i<n∧∃ b off m cap po t',V = .slice (some ⟨b,off,none⟩) m cap∧pathOff p t=some (po,t')∧v = .pointer (some ⟨b,off+i*t.size+po,none⟩)
def CellsAt (w:World) (b off:Nat) (cs:List Value):Prop:=∀ j c,cs[j]? = some c→w.cell? ⟨b,off+j,none⟩=some c
def PtrAt (w:World) (G:Nat→Prop) (t:Ty) (x:t.den) (v:Value):Prop :=
 ∃ b off cs,v = .pointer (some ⟨b,off,none⟩)∧G b∧CellsAt w b off cs∧RepC w G t x cs
def RepB (w:World) (G:Nat→Prop):Atom→Value→Prop
 | .val u,v=>v=u∧OkV u
 | .sl t xs,v=>SlAt w G (RepC w G t) t.size xs v
 | .ptr t x,v=>PtrAt w G t x v
 | .st t x,v=>∃ cs,v = .agg cs.toArray∧RepC w G t x cs
 | .junk,_=>True
 | _,_=>False
def RepO (L:Heap) (V:Nat→Value) (r:Nat) (rg:Option (Nat×Nat)) (v:Value):Prop :=
 ∃ A,hget L r=some A∧(rg=none→v=V r)∧SubSl A.t.size A.xs.length (V r) (rgLo rg) (rgHi A.xs.length rg) v
def RepL (w0:World) (G:Nat→Prop) (L:Heap) (V:Nat→Value):Leaf→Value→Prop
 | .val u,v=>v=u∧OkV u∧u.oneCell'=true
 | .sl t xs,v=>SlAt w0 G (RepC w0 G t) t.size xs v
 | .osl r rg,v=>RepO L V r rg v
 | .junk,v=>v.oneCell'=true
def RepLs (w0:World) (G:Nat→Prop) (L:Heap) (V:Nat→Value):List Leaf→List Value→Prop
 | [],vs=>vs=[]
 | x :: xs,vs=>∃ v r,vs=v :: r∧RepL w0 G L V x v∧RepLs w0 G L V xs r
def RepA (w0:World) (G:Nat→Prop) (L:Heap) (V:Nat→Value):Atom→Value→Prop
 | .osl r rg,v=>RepO L V r rg v
 | .optr r i p,v=>∃ A,hget L r=some A∧SubPt A.t A.xs.length (V r) i p v
 | .rcd t ls,v=>∃ cs,v = .agg cs.toArray∧ls.length=t.size∧RepLs w0 G L V ls cs
 | .bptr r o t,v=>∃ A ls b off,hget L r=some A∧A.ls=some ls∧V r = .slice (some ⟨b,off,none⟩) 0 1∧v = .pointer (some ⟨b,off+o,none⟩)∧o+t.size≤A.t.size
 | x,v=>RepB w0 G x v
def RepAs (w0:World) (G:Nat→Prop) (L:Heap) (V:Nat→Value):List Atom→List Value→Prop
 | [],vs=>vs=[]
 | x :: xs,vs=>∃ v r,vs=v :: r∧RepA w0 G L V x v∧RepAs w0 G L V xs r
def RepP (w0:World) (G:Nat→Prop) (L:Heap) (V:Nat→Value):PV→Value→Prop
 | .a x,v=>RepA w0 G L V x v
 | .tup xs,v=>∃ vs,v = .tuple vs.toArray∧RepAs w0 G L V xs vs
 | .fn f caps,v=>∃ vs,v = .func (.func f) #[] vs.toArray∧RepAs w0 G L V caps vs
def entR (w0:World) (G:Nat→Prop) (w:World) (t:Ty) (bor:Bool) (x:t.den) (cs:List Value) (bi:List Nat):Prop :=
 match bor with
 | true=>RepC w0 G t x cs∧bi=[]
 | false=>OwnC w t x cs bi
def EntC (w0:World) (G:Nat→Prop) (w:World) (A:Arr) (v:Value) (bs:List Nat):Prop:=OwnSl w (entR w0 G w A.t A.bor) A.t.size A.xs v bs
theorem entR_keep {w0 w w1 w':World} {G G':Nat→Prop} {t:Ty} {bor:Bool} {x:t.den} {cs:List Value} {bi:List Nat} (hG:∀ b,G b→G' b) (h0:∀ b,G b→w1.heap[b]? = w0.heap[b]?) (hw:∀ b∈bi,w'.heap[b]? = w.heap[b]?) (h:entR w0 G w t bor x cs bi):entR w1 G' w' t bor x cs bi:=by
 revert h
 unfold entR
 cases bor with
 | true=>exact fun h=>⟨h.1.keep hG h0,h.2⟩
 | false=>exact fun h=>OwnC.keep hw h
theorem EntC.keepG {w0 w w1 w':World} {G G':Nat→Prop} {A:Arr} {v:Value} {bs:List Nat} (hG:∀ b,G b→G' b) (h0:∀ b,G b→w1.heap[b]? = w0.heap[b]?) (hw:∀ b∈bs,w'.heap[b]? = w.heap[b]?) (h:EntC w0 G w A v bs):EntC w1 G' w' A v bs :=
 OwnSl.keep (fun x cs bi hs hr=>entR_keep hG h0 (fun b hb=>hw b (hs b hb)) hr) hw h
theorem EntC.keep {w0 w w':World} {G:Nat→Prop} {A:Arr} {v:Value} {bs:List Nat} (hw:∀ b∈bs,w'.heap[b]? = w.heap[b]?) (h:EntC w0 G w A v bs):EntC w0 G w' A v bs :=
 h.keepG (fun _ h=>h) (fun _ _=>rfl) hw
theorem EntC.lt {w0 w:World} {G:Nat→Prop} {A:Arr} {v:Value} {bs:List Nat} (h:EntC w0 G w A v bs):∀ b∈bs,b<w.heap.size:=by
 intro b hb
 rcases h.2 with ⟨_,_,_,h⟩ | ⟨b',off,cap,cur,ty,fz,bss,h1,h2,h3,h4,h5,h6,h7,h8,h9⟩
 ·rw [h] at hb;cases hb
 ·rw [h8] at hb
  rcases List.mem_cons.1 hb with rfl | hb
  ·rcases Nat.lt_or_ge b w.heap.size with hlt | hge
   ·exact hlt
   ·rw [Array.getElem?_eq_none hge] at h5;cases h5
  ·obtain ⟨bi,hm,hbi⟩:=List.mem_flatten.1 hb
   obtain ⟨i,hi⟩:=List.getElem?_of_mem hm
   have hlt:i<A.xs.length:=by rw [← h7];exact (List.getElem?_eq_some_iff.1 hi).1
   obtain ⟨cs,_,_,hr⟩:=h9 i _ bi (List.getElem?_eq_getElem hlt) hi
   unfold entR at hr
   cases hbor:A.bor with
   | true=>rw [hbor] at hr;rw [hr.2] at hbi;cases hbi
   | false=>rw [hbor] at hr;exact hr.lt b hbi
theorem EntC.len {w0 w:World} {G:Nat→Prop} {A:Arr} {v:Value} {bs:List Nat} (h:EntC w0 G w A v bs):A.xs.length≤maxLen:=h.1
theorem EntC.wf {w0 w:World} {G:Nat→Prop} {A:Arr} {v:Value} {bs:List Nat} (h:EntC w0 G w A v bs):Wf (.sl A.t) A.xs:=by
 refine ⟨h.1,fun x hx => ?_⟩
 rcases h.2 with ⟨_,_,h,_⟩ | ⟨b,off,cap,cur,ty,fz,bss,_,_,_,_,_,_,hl,_,hr⟩
 ·rw [h] at hx;cases hx
 ·obtain ⟨i,hi⟩:=List.getElem?_of_mem hx
  have hlt:i<bss.length:=by rw [hl];exact (List.getElem?_eq_some_iff.1 hi).1
  obtain ⟨cs,_,_,h⟩:=hr i x _ hi (List.getElem?_eq_getElem hlt)
  unfold entR at h
  cases hbor:A.bor with
  | true=>rw [hbor] at h;exact h.1.wf
  | false=>rw [hbor] at h;exact h.wf
theorem EntC.own {w0 w:World} {G:Nat→Prop} {t:Ty} {xs:List t.den} {v:Value} {bs:List Nat} {ls:Option (List Leaf)} {sm:Option Bool}:EntC w0 G w ⟨t,xs,false,ls,sm⟩ v bs↔OwnC w (.sl t) xs [v] bs :=
 ⟨fun h=>⟨v,rfl,h⟩,fun ⟨v',hv,h⟩=>by cases hv;exact h⟩
def BoxC (w0:World) (G:Nat→Prop) (w:World) (L:Heap) (V:Nat→Value) (t:Ty) (ls:List Leaf) (v:Value):Prop :=
 ∃ b off cs,v = .slice (some ⟨b,off,none⟩) 0 1∧cs.length=t.size∧ls.length=t.size∧CellsAt w b off cs∧RepLs w0 G L V ls cs
structure Ctx where
 w0:World
 O:List Nat
 G0:Nat→Prop
 Ga:Nat→Prop
def Out (K:Ctx) (G:Nat→Prop) (b:Nat):Prop:=¬ Good K.w0 K.O b∧¬ G b
structure RelV (n:Nat) (K:Ctx) (w0:World) (G:Nat→Prop) (w:World) (a:Act) (E:Env) (L:Heap) (V:Nat→Value) (own:Nat→List Nat):Prop where
 glob:GOk K.w0 K.O
 kept:Kept K.O K.w0 w
 size:a.tmps.size=n
 defers:a.defers=[]
 glt:∀ b,G b→b<w.heap.size
 gref:∀ b,G b→w.heap[b]? = w0.heap[b]?
 gsub:∀ b,K.G0 b→G b
 gold:∀ b,K.G0 b→Good K.w0 K.O b
 gup:∀ b,G b→K.Ga b∨¬ Good K.w0 K.O b
 heap:∀ r A,hget L r=some A→EntC w0 G w A (V r) (own r)
 good:∀ r A,hget L r=some A→∀ b∈own r,Out K G b
 nodup:∀ r A,hget L r=some A→(own r).Nodup
 apart:∀ r s A B,hget L r=some A→hget L s=some B→r≠s→∀ b∈own r,b ∉ own s
 boxs:∀ r A ls,hget L r=some A→A.ls=some ls→BoxC w0 G w L V A.t ls (V r)
 small:∀ r A q,hget L r=some A→A.sm=some q→(∃ b off,V r = .slice (some ⟨b,off,none⟩) 1 1)∧(q=true→A.bor=true∧EntC w0 K.G0 w A (V r) (own r))
 env:∀ i,RepP w0 G L V (E.get i) (a.tmps.getD i undef)
section
variable {n:Nat} {K:Ctx} {G:Nat→Prop} {w0 w w':World} {a:Act} {E:Env} {L:Heap} {V:Nat→Value} {own:Nat→List Nat}
theorem CellsAt.keepB {w w':World} {b off:Nat} {cs:List Value} (hb:w'.heap[b]? = w.heap[b]?) (h:CellsAt w b off cs):CellsAt w' b off cs :=
 fun j c hj=>by rw [World.cell?_of_block (w:=w) hb];exact h j c hj
theorem EntC.block {A:Arr} {v:Value} {bs:List Nat} (h:EntC w0 G w A v bs) {b off m cap:Nat} (hv:v = .slice (some ⟨b,off,none⟩) m cap) (hc:1≤cap):b∈bs:=by
 rcases h.2 with ⟨_,h1,_,_⟩ | ⟨b',off',cap',cur,ty,fz,bss,h1,h2,h3,h4,h5,h6,h7,h8,h9⟩
 ·rw [h1] at hv;cases hv;omega
 ·rw [h1] at hv;cases hv;rw [h8];exact List.mem_cons_self ..
theorem BoxC.keepB {t:Ty} {ls:List Leaf} {v:Value} (h:BoxC w0 G w L V t ls v) (hw:∀ b off,v = .slice (some ⟨b,off,none⟩) 0 1→w'.heap[b]? = w.heap[b]?):BoxC w0 G w' L V t ls v:=by
 obtain ⟨b,off,cs,h1,h3,h4,h5,h6⟩:=h
 exact ⟨b,off,cs,h1,h3,h4,h5.keepB (hw b off h1),h6⟩
theorem RelV.own_lt (hR:RelV n K w0 G w a E L V own) {r:Nat} {A:Arr} (h:hget L r=some A):∀ b∈own r,b<w.heap.size:=(hR.heap r A h).lt
theorem RelV.ext (h:RelV n K w0 G w a E L V own) (k:Kept [] w w'):RelV n K w0 G w' a E L V own where
 glob:=h.glob
 kept:=h.kept.trans k.of_nil
 size:=h.size
 defers:=h.defers
 glt:=fun b hb=>Nat.lt_of_lt_of_le (h.glt b hb) k.size
 gref:=fun b hb=>(k.block b (h.glt b hb) (by simp)).trans (h.gref b hb)
 gsub:=h.gsub
 gold:=h.gold
 gup:=h.gup
 heap:=fun r A hr=>(h.heap r A hr).keep fun b hb=>k.block b (h.own_lt hr b hb) (by simp)
 good:=h.good
 nodup:=h.nodup
 apart:=h.apart
 boxs:=fun r A ls hr hl=>(h.boxs r A ls hr hl).keepB fun b off hv=>k.block b (h.own_lt hr b ((h.heap r A hr).block hv (Nat.le_refl _))) (by simp)
 small:=fun r A q hr hs=>⟨(h.small r A q hr hs).1,fun e=>⟨((h.small r A q hr hs).2 e).1,((h.small r A q hr hs).2 e).2.keep fun b hb=>k.block b (h.own_lt hr b hb) (by simp)⟩⟩
 env:=h.env
theorem RelV.put (h:RelV n K w0 G w a E L V own) {d:Nat} {p:PV} {v:Value} (hd:d<n) (hv:RepP w0 G L V p v):RelV n K w0 G w (a.put (some d) v) (E.set d p) L V own where
 glob:=h.glob
 kept:=h.kept
 size:=by simp [Act.put,h.size]
 defers:=h.defers
 glt:=h.glt
 gref:=h.gref
 gsub:=h.gsub
 gold:=h.gold
 gup:=h.gup
 heap:=h.heap
 good:=h.good
 nodup:=h.nodup
 apart:=h.apart
 boxs:=h.boxs
 small:=h.small
 env:=fun i=>by
  rw [Env.get_set]
  simp only [Act.put]
  by_cases hi:d=i
  ·subst hi
   have hs:d<a.tmps.size:=by rw [h.size];exact hd
   simpa [Array.getD_eq_getD_getElem?, hs] using hv
  ·rw [if_neg hi]
   have:=h.env i
   simpa [Array.getD_eq_getD_getElem?, Array.getElem?_setIfInBounds_ne hi] using this
theorem RelV.ginv (h:RelV n K w0 G w a E L V own):GInv w :=
 h.glob.inv.keep fun b hb hs=>h.kept.block b hs fun ho=>by have:=h.glob.out b ho;omega
theorem RelV.gok (h:RelV n K w0 G w a E L V own) {w':World} (k:Kept [] w w') {O':List Nat} (hO:∀ b∈O',Out K G b):GOk w' O' where
 inv:=(h.ext k).ginv
 size:=Nat.le_trans h.glob.size (Nat.le_trans h.kept.size k.size)
 out:=fun b hb=>by
  have h1:=(hO b hb).1
  rcases Nat.lt_or_ge b K.w0.heap.size with hlt | hge
  ·by_cases ho:b∈K.O
   ·exact h.glob.out b ho
   ·exact absurd ⟨hlt,ho⟩ h1
  ·exact Nat.le_trans h.glob.size hge
theorem RelV.out_new (h:RelV n K w0 G w a E L V own) {b:Nat} (hb:w.heap.size≤b):Out K G b :=
 ⟨fun hg=>by have:=hg.1;have:=h.kept.size;omega,fun hg=>by have:=h.glt b hg;omega⟩
end
inductive AT where
 | v (t:Ty)
 | p (t:Ty)
 | own (t:Ty)
 | pb (t:Ty)
 | po (t:Ty)
 | sv (t:Ty)
 | fn (f:FuncId) (caps:List (Bool×Ty))
 | fns (fs:List Nat)
@[reducible] def capsDen:List (Bool×Ty)→Type
 | []=>Unit
 | (_,t) :: r=>t.den×capsDen r
@[reducible] def AT.den:AT→Type
 | .v t=>t.den
 | .p t=>t.den
 | .own t=>List t.den
 | .pb t=>t.den
 | .po t=>t.den
 | .sv t=>t.den
 | .fn _ caps=>capsDen caps
 | .fns _=>Unit
@[reducible] def sigDen:List AT→Type
 | []=>Unit
 | a :: r=>a.den×sigDen r
def CapsRep (w:World) (G:Nat→Prop):(caps:List (Bool×Ty))→capsDen caps→List Value→Prop
 | [],_,vs=>vs=[]
 | (true,t) :: r,x,vs=>∃ v s,vs=v :: s∧PtrAt w G t x.1 v∧CapsRep w G r x.2 s
 | (false,t) :: r,x,vs=>∃ v s,vs=v :: s∧RepB w G (toAtom t x.1) v∧CapsRep w G r x.2 s
def PbAt (w:World) (G0:Nat→Prop) (t:Ty) (x:t.den) (v:Value) (bs:List Nat):Prop :=
 ∃ b off,v = .pointer (some ⟨b,off,none⟩)∧EntC w G0 w ⟨t,[x],true,none,none⟩ (.slice (some ⟨b,off,none⟩) 1 1) bs
def PoAt (w:World) (t:Ty) (x:t.den) (v:Value) (bs:List Nat):Prop :=
 ∃ b off,v = .pointer (some ⟨b,off,none⟩)∧OwnSl w (OwnC w t) t.size [x] (.slice (some ⟨b,off,none⟩) 1 1) bs
def SvAt (w:World) (t:Ty) (x:t.den) (v:Value) (bs:List Nat):Prop :=
 ∃ cs,v = .agg cs.toArray∧OwnC w t x cs bs
def ArgRep (w:World) (G G0:Nat→Prop):(a:AT)→a.den→Value→List Nat→Prop
 | .v t,x,v,bs=>bs=[]∧RepB w G (toAtom t x) v
 | .p t,x,v,bs=>bs=[]∧PtrAt w G t x v
 | .own t,xs,v,bs=>OwnC w (.sl t) xs [v] bs
 | .pb t,x,v,bs=>PbAt w G0 t x v bs
 | .po t,x,v,bs=>PoAt w t x v bs
 | .sv t,x,v,bs=>SvAt w t x v bs
 | .fn f caps,x,v,bs=>bs=[]∧∃ vs,v = .func (.func f) #[] vs.toArray∧CapsRep w G caps x vs
 | .fns fs,_,v,bs=>bs=[]∧RepB w G (toAtom (.sl .fn) (fs.map some)) v
def ArgsK (w:World) (G G0:Nat→Prop):(sig:List AT)→sigDen sig→List Value→List (List Nat)→Prop
 | [],_,vs,bss=>vs=[]∧bss=[]
 | a :: r,x,vs,bss=>∃ v s b bs,vs=v :: s∧bss=b :: bs∧ArgRep w G G0 a x.1 v b∧ArgsK w G G0 r x.2 s bs
def ArgsRep (w:World) (G:Nat→Prop) (sig:List AT) (x:sigDen sig) (vs:List Value) (bss:List (List Nat)):Prop:=ArgsK w G G sig x vs bss
inductive RK where
 | own | frz | bx
def RK.hd:List RK→RK
 | [] => .own
 | k :: _=>k
structure Spec where
 sig:List AT
 pre:sigDen sig→Prop
 upd:sigDen sig→List (Option Lst):=fun _=>[]
 res:sigDen sig→List Dyn
 kds:List RK:=[]
def IsVal (t:Ty) (cs:List Value) (v:Value):Prop :=
 match t with
 | .unit | .cons _ _=>v = .agg cs.toArray
 | _=>cs=[v]
def ResRep (w:World):List Dyn→List Value→List (List Nat)→Prop
 | [],vs,bss=>vs=[]∧bss=[]
 | d :: r,vs,bss=>∃ v s b bs cs,vs=v :: s∧bss=b :: bs∧OwnC w d.t d.x cs b∧IsVal d.t cs v∧ResRep w r s bs
def ResOne (w:World) (G F:Nat→Prop):RK→Dyn→Value→List Nat→Prop
 | .own,d,v,b=>∃ cs,OwnC w d.t d.x cs b∧IsVal d.t cs v
 | .frz,d,v,b=>b=[]∧∃ cs,RepC w (fun k=>G k∨F k) d.t d.x cs∧IsVal d.t cs v
 | .bx,d,v,b=>∃ blk off,v = .pointer (some ⟨blk,off,none⟩)∧EntC w (fun k=>G k∨F k) w ⟨d.t,[d.x],true,none,none⟩ (.slice (some ⟨blk,off,none⟩) 1 1) b
def ResK (w:World) (G F:Nat→Prop):List RK→List Dyn→List Value→List (List Nat)→Prop
 | _,[],vs,bss=>vs=[]∧bss=[]
 | ks,d :: r,vs,bss=>∃ v s b bs,vs=v :: s∧bss=b :: bs∧ResOne w G F (RK.hd ks) d v b∧ResK w G F ks.tail r s bs
def UpdRep (w:World):List (Option Lst)→List Value→List (List Nat)→Prop
 | [],vs,bss=>vs=[]∧bss=[]
 | none :: r,vs,bss=>∃ v s bs,vs=v :: s∧bss=[] :: bs∧UpdRep w r s bs
 | some A :: r,vs,bss=>∃ v s b bs,vs=v :: s∧bss=b :: bs∧OwnC w (.sl A.t) A.xs [v] b∧UpdRep w r s bs
def ownVals:List AT→List Value→List Value
 | .own _ :: r,v :: s=>v :: ownVals r s
 | .pb _ :: r,v :: s=>v :: ownVals r s
 | .po _ :: r,v :: s=>v :: ownVals r s
 | .sv _ :: r,v :: s=>v :: ownVals r s
 | _ :: r,_ :: s=>ownVals r s
 | _,_=>[]
def owns:List AT→List AT
 | .own t :: r => .own t :: owns r
 | .pb t :: r => .pb t :: owns r
 | .po t :: r => .po t :: owns r
 | .sv t :: r => .sv t :: owns r
 | _ :: r=>owns r
 | []=>[]
def UpdOne (w:World) (G0:Nat→Prop):AT→Lst→Value→List Nat→Prop
 | .own t,A,v,b=>OwnC w (.sl A.t) A.xs [v] b
 | .pb t,A,v,b=>∃ x,A=⟨t,[x]⟩∧PbAt w G0 t x v b
 | .po t,A,v,b=>∃ x,A=⟨t,[x]⟩∧PoAt w t x v b
 | .sv t,A,v,b=>∃ x,A=⟨t,[x]⟩∧SvAt w t x v b
 | _,_,_,_=>False
def UpdK (w:World) (G0:Nat→Prop):List AT→List (Option Lst)→List Value→List (List Nat)→Prop
 | _,[],vs,bss=>vs=[]∧bss=[]
 | o :: os,none :: r,vs,bss=>∃ v s bs,vs=v :: s∧bss=[] :: bs∧UpdK w G0 os r s bs
 | o :: os,some A :: r,vs,bss=>∃ v s b bs,vs=v :: s∧bss=b :: bs∧UpdOne w G0 o A v b∧UpdK w G0 os r s bs
 | [],_ :: _,_,_=>False
def packV:List Value→Value
 | [v]=>v
 | vs => .tuple vs.toArray
def PostC (w:World) (H:List Nat) (G G0:Nat→Prop) (kds:List RK) (ds:List Dyn) (os:List AT) (us:List (Option Lst)) (ovs:List Value) (e:Ending) (w':World):Prop :=
 ∃ (rs:List Value) (ubs rbs:List (List Nat)) (F:Nat→Prop),e = .returned (packV rs)∧Kept H w w'∧ResK w' G F kds ds rs rbs∧UpdK w' G0 os us ovs ubs ∧
  (ubs.flatten++rbs.flatten).Nodup∧(∀ b∈ubs.flatten++rbs.flatten,¬ Good w H b)∧∀ b,F b→b<w'.heap.size∧¬ Good w H b∧b ∉ ubs.flatten++rbs.flatten
def Contract (P:Program) (f:FuncId) (S:Spec):Prop :=
 ∀ (w:World) (G G0:Nat→Prop) (x:sigDen S.sig) (vs:List Value) (bss:List (List Nat)),GOk w bss.flatten→(∀ b,G b→Good w bss.flatten b)→(∀ b,G0 b→G b)→S.pre x→ArgsK w G G0 S.sig x vs bss→bss.flatten.Nodup →
  Calls P f vs.toArray w (PostC w bss.flatten G G0 S.kds (S.res x) (owns S.sig) (S.upd x) (ownVals S.sig vs))
def Contract0 (P:Program) (f:FuncId) (S:Spec):Prop :=
 ∀ (w:World) (x:sigDen S.sig) (vs:List Value) (bss:List (List Nat)),GOk w bss.flatten→S.pre x→ArgsRep w (Good w bss.flatten) S.sig x vs bss→bss.flatten.Nodup →
  Calls P f vs.toArray w fun e w'=>∃ rs ubs rbs,e = .returned (packV rs)∧Kept bss.flatten w w'∧ResRep w' (S.res x) rs rbs∧UpdRep w' (S.upd x) (ownVals S.sig vs) ubs ∧
   (ubs.flatten++rbs.flatten).Nodup∧∀ b∈ubs.flatten++rbs.flatten,¬ Good w bss.flatten b
def plainSig:List AT→Bool
 | .pb _ :: _=>false
 | .po _ :: _=>false
 | .sv _ :: _=>false
 | _ :: r=>plainSig r
 | []=>true
theorem PtrAt.keepB {w w':World} {G G':Nat→Prop} (hG:∀ b,G b→G' b) (hw:∀ b,G b→w'.heap[b]? = w.heap[b]?) {t:Ty} {x:t.den} {v:Value} (h:PtrAt w G t x v):PtrAt w' G' t x v:=by
 obtain ⟨b,off,cs,rfl,hb,hc,hr⟩:=h
 exact ⟨b,off,cs,rfl,hG b hb,hc.keepB (hw b hb),hr.keep hG hw⟩
theorem repB_keep {w w':World} {G G':Nat→Prop} (hG:∀ b,G b→G' b) (hw:∀ b,G b→w'.heap[b]? = w.heap[b]?) {A:Atom} {v:Value} (h:RepB w G A v):RepB w' G' A v:=by
 cases A with
 | val u=>exact h
 | sl t xs=>exact SlAt.keep (fun _ _=>RepC.keep hG hw) hG hw h
 | ptr t x=>exact PtrAt.keepB hG hw h
 | st t x =>
  obtain ⟨cs,rfl,hr⟩:=h
  exact ⟨cs,rfl,hr.keep hG hw⟩
 | junk=>trivial
 | osl _ _=>exact h
 | optr _ _ _=>exact h
 | rcd _ _=>exact h
 | bptr _ _ _=>exact h
theorem CapsRep.keepB {w w':World} {G G':Nat→Prop} (hG:∀ b,G b→G' b) (hw:∀ b,G b→w'.heap[b]? = w.heap[b]?):∀ {caps:List (Bool×Ty)} {x:capsDen caps} {vs:List Value},CapsRep w G caps x vs→CapsRep w' G' caps x vs
 | [],_,_,h=>h
 | (true,t) :: r,x,vs,⟨v,s,h1,h2,h3⟩=>⟨v,s,h1,h2.keepB hG hw,h3.keepB hG hw⟩
 | (false,t) :: r,x,vs,⟨v,s,h1,h2,h3⟩=>⟨v,s,h1,repB_keep hG hw h2,h3.keepB hG hw⟩
theorem ArgsK.mono {w:World} {G G' G0 G0':Nat→Prop} (hG:∀ b,G b→G' b):∀ {sig:List AT} {x:sigDen sig} {vs:List Value} {bss:List (List Nat)},plainSig sig=true→ArgsK w G G0 sig x vs bss→ArgsK w G' G0' sig x vs bss
 | [],_,_,_,_,h=>h
 | a :: r,x,vs,bss,hp,⟨v,s,b,bs,h1,h2,h3,h4⟩=>by
  have hp':plainSig r=true:=by cases a <;> first | exact hp | cases hp
  refine ⟨v,s,b,bs,h1,h2,?_,h4.mono hG hp'⟩
  cases a with
  | v t=>exact ⟨h3.1,repB_keep hG (fun _ _=>rfl) h3.2⟩
  | p t=>exact ⟨h3.1,h3.2.keepB hG (fun _ _=>rfl)⟩
  | own t=>exact h3
  | fn f c=>obtain ⟨e,vs',e2,h⟩:=h3;exact ⟨e,vs',e2,h.keepB hG (fun _ _=>rfl)⟩
  | fns fs=>exact ⟨h3.1,repB_keep hG (fun _ _=>rfl) h3.2⟩
  | pb t=>cases hp
  | po t=>cases hp
  | sv t=>cases hp
theorem ResRep.toK {w:World} {G F:Nat→Prop}:∀ {ds:List Dyn} {rs:List Value} {rbs:List (List Nat)},ResRep w ds rs rbs→ResK w G F [] ds rs rbs
 | [],_,_,h=>h
 | d :: r,_,_,⟨v,s,b,bs,cs,h1,h2,h3,h4,h5⟩=>⟨v,s,b,bs,h1,h2,⟨cs,h3,h4⟩,h5.toK⟩
theorem UpdRep.toK {w:World} {G0:Nat→Prop} {n0:Unit}:∀ {sig:List AT} {us:List (Option Lst)} {vs:List Value} {ubs:List (List Nat)},plainSig sig=true→vs.length=sig.length→UpdRep w us (ownVals sig vs) ubs→UpdK w G0 (owns sig) us (ownVals sig vs) ubs
 | [],us,vs,ubs,_,hl,h=>by
  have:vs=[]:=List.eq_nil_of_length_eq_zero (by simpa using hl)
  subst this
  cases us with
  | nil=>exact h
  | cons u us=>cases u with
   | none=>obtain ⟨_,_,_,h,_⟩:=h;cases h
   | some A=>obtain ⟨_,_,_,_,h,_⟩:=h;cases h
 | .v t :: r,us,v :: vs,ubs,hp,hl,h=>UpdRep.toK (sig:=r) (n0:=n0) hp (by simpa using hl) h
 | .p t :: r,us,v :: vs,ubs,hp,hl,h=>UpdRep.toK (sig:=r) (n0:=n0) hp (by simpa using hl) h
 | .fn f c :: r,us,v :: vs,ubs,hp,hl,h=>UpdRep.toK (sig:=r) (n0:=n0) hp (by simpa using hl) h
 | .fns f :: r,us,v :: vs,ubs,hp,hl,h=>UpdRep.toK (sig:=r) (n0:=n0) hp (by simpa using hl) h
 | .own t :: r,us,v :: vs,ubs,hp,hl,h=>by
  cases us with
  | nil=>exact h
  | cons u us=>cases u with
   | none =>
    obtain ⟨v',s,bs,h1,h2,h3⟩:=h
    simp only [ownVals,List.cons.injEq] at h1
    obtain ⟨rfl,rfl⟩:=h1
    exact ⟨_,_,_,rfl,h2,UpdRep.toK (sig:=r) (n0:=n0) hp (by simpa using hl) h3⟩
   | some A =>
    obtain ⟨v',s,b,bs,h1,h2,h3,h4⟩:=h
    simp only [ownVals,List.cons.injEq] at h1
    obtain ⟨rfl,rfl⟩:=h1
    exact ⟨_,_,_,_,rfl,h2,h3,UpdRep.toK (sig:=r) (n0:=n0) hp (by simpa using hl) h4⟩
 | .v t :: r,us,[],ubs,hp,hl,h=>by simp at hl
 | .p t :: r,us,[],ubs,hp,hl,h=>by simp at hl
 | .fn f c :: r,us,[],ubs,hp,hl,h=>by simp at hl
 | .fns f :: r,us,[],ubs,hp,hl,h=>by simp at hl
 | .own t :: r,us,[],ubs,hp,hl,h=>by simp at hl
 | .pb t :: r,us,_,ubs,hp,hl,h=>by cases hp
 | .po t :: r,us,_,ubs,hp,hl,h=>by cases hp
 | .sv t :: r,us,_,ubs,hp,hl,h=>by cases hp
theorem args_len {w:World} {G G0:Nat→Prop}:∀ {sig:List AT} {x:sigDen sig} {vs:List Value} {bss:List (List Nat)},ArgsK w G G0 sig x vs bss→vs.length=sig.length
 | [],_,_,_,h=>by obtain ⟨rfl,_⟩:=h;rfl
 | a :: r,x,vs,bss,⟨v,s,b,bs,h1,h2,h,h3⟩=>by subst h1;simp [args_len h3]
theorem Contract0.up {P:Program} {f:FuncId} {S:Spec} (hp:plainSig S.sig=true) (hk:S.kds=[]) (h:Contract0 P f S):Contract P f S:=by
 intro w G G0 x vs bss hg hG hG0 hpre ha hn
 have hl:=args_len ha
 refine (h w x vs bss hg hpre (ha.mono hG hp) hn).mono ?_
 rintro e w' ⟨rs,ubs,rbs,h1,h2,h3,h4,h5,h6⟩
 refine ⟨rs,ubs,rbs,fun _=>False,h1,h2,?_,h4.toK (n0:=()) hp hl,h5,h6,fun b hb=>hb.elim⟩
 rw [hk]
 exact h3.toK
end Go.Am
namespace Go.Am
set_option linter.unusedVariables false
def Ty.agg:Ty→Bool
 | .unit | .cons _ _=>true
 | _=>false
def dcells:Ty→List Value
 | .int k=>[.int k 0]
 | .bool=>[.bool false]
 | .fn=>[.nilFunc]
 | .str=>[.string ByteArray.empty]
 | .sl _=>[.slice none 0 0]
 | .unit=>[]
 | .cons a b=>dcells a++dcells b
def valOf (t:Ty) (cs:List Value):Value:=if t.agg then .agg cs.toArray else cs.headD undef
def descFits:TypeDesc→Ty→Bool
 | .bool,.bool | .func _ _ _,.fn | .string,.str | .slice _,.sl _ | .struct _,.unit | .struct _,.cons _ _=>true
 | .int k,.int k'=>k==k'
 | _,_=>false
structure TyOk (P:Program) (T:TypeId) (t:Ty):Prop where
 und:∃ d,P.underlying T=some d∧descFits d t=true
 info:∃ i,P.info? T=some i∧i.size=t.size∧∃ z,i.zero=some z∧z.cells.toList=dcells t∧z=valOf t (dcells t)
def FieldsOk (P:Program):List Field→Ty→Nat→Prop
 | [],.unit,_=>True
 | f :: fs,.cons a b,o=>f.offset=o∧TyOk P f.type a∧a.size≠0∧FieldsOk P fs b (o+a.size)
 | _,_,_=>False
inductive TI where
 | scal (t:Ty)
 | slice (e:TypeId) (t:Ty) (bytes:Nat)
 | struct (t:Ty)
 | other
def TI.ty:TI→Option Ty
 | .scal t=>some t
 | .slice _ t _=>some (.sl t)
 | .struct t=>some t
 | .other=>none
def vEq:Value→Value→Bool
 | .int k a,.int k' b=>k==k'&&a==b
 | .bool a,.bool b=>a==b
 | .string a,.string b=>a.size==0&&b.size==0
 | .slice none 0 0,.slice none 0 0=>true
 | .nilFunc,.nilFunc=>true
 | _,_=>false
def vEqs:List Value→List Value→Bool
 | [],[]=>true
 | a :: r,b :: s=>vEq a b&&vEqs r s
 | _,_=>false
theorem size_zero {s:ByteArray} (h:s.size=0):s=ByteArray.empty:=by
 cases s with | mk d=>cases d with | mk l=>cases l with
  | nil=>rfl
  | cons a r=>simp [ByteArray.size] at h
theorem vEq_eq {a b:Value} (h:vEq a b=true):a=b:=by
 unfold vEq at h
 split at h
 ·simp at h;rw [h.1,h.2]
 ·simp at h;rw [h]
 ·simp only [Bool.and_eq_true,beq_iff_eq] at h;rw [size_zero h.1,size_zero h.2]
 ·rfl
 ·rfl
 ·cases h
theorem vEqs_eq:∀ {a b:List Value},vEqs a b=true→a=b
 | [],[],_=>rfl
 | a :: r,b :: s,h=>by
  simp only [vEqs,Bool.and_eq_true] at h
  rw [vEq_eq h.1,vEqs_eq h.2]
 | [],_ :: _,h=>by cases h
 | _ :: _,[],h=>by cases h
def aggFits:Value→List Value→Bool
 | .agg cs,l=>vEqs cs.toList l
 | _,_=>false
def zeroFits (z:Value) (t:Ty):Bool:=if t.agg then aggFits z (dcells t) else vEqs [z] (dcells t)
theorem zeroFits_spec {z:Value} {t:Ty} (h:zeroFits z t=true):z.cells.toList=dcells t∧z=valOf t (dcells t):=by
 unfold zeroFits at h
 unfold valOf
 by_cases ha:t.agg=true
 ·rw [if_pos ha] at h ⊢
  unfold aggFits at h
  split at h
  ·have:=vEqs_eq h
   refine ⟨by simpa [Value.cells] using this,by rw [← this]⟩
  ·cases h
 ·rw [if_neg ha] at h ⊢
  have hz:=vEqs_eq h
  refine ⟨?_,by rw [← hz];rfl⟩
  cases z with
  | agg cs=>exfalso;cases t <;> simp [dcells,Ty.agg] at hz ha
  | _=>simpa [Value.cells] using hz
def tyCheck (P:Program) (T:TypeId) (t:Ty):Bool :=
 (match P.underlying T with | some d=>descFits d t | none=>false) &&
 (match P.info? T with | some i=>Nat.beq i.size t.size&&(match i.zero with | some z=>zeroFits z t | none=>false) | none=>false)
theorem tyCheck_ok {P:Program} {T:TypeId} {t:Ty} (h:tyCheck P T t=true):TyOk P T t:=by
 simp only [tyCheck,Bool.and_eq_true] at h
 obtain ⟨h1,h2⟩:=h
 split at h1
 ·rename_i d hd
  split at h2
  ·rename_i i hi
   simp only [Bool.and_eq_true] at h2
   obtain ⟨h2,h3⟩:=h2
   split at h3
   ·rename_i z hz
    exact ⟨⟨d,hd,h1⟩,⟨i,hi,Nat.eq_of_beq_eq_true h2,z,hz,zeroFits_spec h3⟩⟩
   ·cases h3
  ·cases h2
 ·cases h1
def isIntB (k:IntKind):Option TypeDesc→Bool
 | some (.int k')=>decide (k'=k)
 | _=>false
def isBoolB:Option TypeDesc→Bool
 | some .bool=>true
 | _=>false
def isStrB:Option TypeDesc→Bool
 | some .string=>true
 | _=>false
theorem isIntB_eq {k:IntKind} {d:Option TypeDesc} (h:isIntB k d=true):d=some (.int k):=by
 unfold isIntB at h
 split at h
 ·simp at h;rw [h]
 ·cases h
theorem isBoolB_eq {d:Option TypeDesc} (h:isBoolB d=true):d=some .bool:=by
 unfold isBoolB at h
 split at h
 ·rfl
 ·cases h
theorem isStrB_eq {d:Option TypeDesc} (h:isStrB d=true):d=some .string:=by
 unfold isStrB at h
 split at h
 ·rfl
 ·cases h
def eqD:(t:Ty)→t.den→t.den→Bool
 | .int _,x,y=>(x:Int)==y
 | .bool,x,y=>(x:Bool)==y
 | .fn,x,y=>(x:Option Nat)==y
 | .str,x,y=>ByteArray.toList x==ByteArray.toList y
 | .sl _,_,_=>false
 | .unit,_,_=>true
 | .cons a b,x,y=>eqD a x.1 y.1&&eqD b x.2 y.2
def dep:Ty→Nat
 | .cons a b=>Nat.max (dep a+1) (dep b)
 | _=>0
def wrapE (P:Program) (agg:Bool) (T:TypeId) (k:TypeId ⊕ (List Field×Nat)→Bool):Bool :=
 match agg with
 | true=>match P.underlying T with
  | some (.struct fs) => !P.stoodInHeld T&&k (.inr (fs.toList,0))
  | _=>false
 | false=>k (.inl T)
def eqB (P:Program):Ty→TypeId ⊕ (List Field×Nat)→Bool
 | .int k,.inl T=>isIntB k (P.underlying T)
 | .bool,.inl T=>isBoolB (P.underlying T)
 | .str,.inl T=>isStrB (P.underlying T)
 | .unit,.inr ([],_)=>true
 | .cons a b, .inr (f :: fs, o) => f.name != "_" && (Nat.beq f.offset o && (tyCheck P f.type a && (wrapE P a.agg f.type (eqB P a) && eqB P b (.inr (fs, o + a.size)))))
 | _,_=>false
def eqT (P:Program) (t:Ty) (T:TypeId):Bool:=Nat.ble (dep t) 9999&&(!P.eqGuardType P.depth T&&wrapE P t.agg T (eqB P t))
def TIOk (P:Program) (T:TypeId):TI→Prop
 | .scal t=>TyOk P T t
 | .slice e t by'=>TyOk P T (.sl t)∧P.underlying T=some (.slice e)∧TyOk P e t∧(P.info? e).map (·.bytes)=some by'
 | .struct t=>TyOk P T t∧∃ fs,P.underlying T=some (.struct fs)∧FieldsOk P fs.toList t 0∧(t.flat=true→eqT P t T=true)
 | .other=>True
def tabGet:List TI→Nat→TI
 | [],_ => .other
 | a :: _,0=>a
 | _ :: r,n+1=>tabGet r n
def TabOk (P:Program) (tab:List TI):Prop:=∀ T,TIOk P T (tabGet tab T)
def fieldsCheck (P:Program):List Field→Ty→Nat→Bool
 | [],.unit,_=>true
 | f :: fs,.cons a b,o=>Nat.beq f.offset o&&tyCheck P f.type a && !(Nat.beq a.size 0)&&fieldsCheck P fs b (o+a.size)
 | _,_,_=>false
theorem fieldsCheck_ok {P:Program}:∀ {fs:List Field} {t:Ty} {o:Nat},fieldsCheck P fs t o=true→FieldsOk P fs t o
 | [],.unit,_,_=>trivial
 | f :: fs,.cons a b,o,h=>by
  simp only [fieldsCheck,Bool.and_eq_true] at h
  obtain ⟨⟨⟨h1,h2⟩,h3⟩,h4⟩:=h
  exact ⟨Nat.eq_of_beq_eq_true h1,tyCheck_ok h2,fun e=>by rw [e] at h3;simp at h3,fieldsCheck_ok h4⟩
 | [],.int _,_,h=>by cases h
 | [],.bool,_,h=>by cases h
 | [],.fn,_,h=>by cases h
 | [],.str,_,h=>by cases h
 | [],.sl _,_,h=>by cases h
 | [],.cons _ _,_,h=>by cases h
 | _ :: _,.int _,_,h=>by cases h
 | _ :: _,.bool,_,h=>by cases h
 | _ :: _,.fn,_,h=>by cases h
 | _ :: _,.str,_,h=>by cases h
 | _ :: _,.sl _,_,h=>by cases h
 | _ :: _,.unit,_,h=>by cases h
def tiCheck (P:Program) (T:TypeId):TI→Bool
 | .scal t=>tyCheck P T t
 | .slice e t by'=>tyCheck P T (.sl t)&&(match P.underlying T with | some (.slice e')=>Nat.beq e e' | _=>false)&&tyCheck P e t&&(match P.info? e with | some i=>Nat.beq i.bytes by' | none=>false)
 | .struct t=>tyCheck P T t&&(match P.underlying T with | some (.struct fs)=>fieldsCheck P fs.toList t 0&&(!t.flat||eqT P t T) | _=>false)
 | .other=>true
theorem tiCheck_ok {P:Program} {T:TypeId} {i:TI} (h:tiCheck P T i=true):TIOk P T i:=by
 cases i with
 | scal t=>exact tyCheck_ok h
 | slice e t by' =>
  simp only [tiCheck,Bool.and_eq_true] at h
  obtain ⟨⟨⟨h1,h2⟩,h3⟩,h4⟩:=h
  refine ⟨tyCheck_ok h1,?_,tyCheck_ok h3,?_⟩
  ·split at h2
   ·rename_i e' he;rw [he,Nat.eq_of_beq_eq_true h2]
   ·cases h2
  ·split at h4
   ·rename_i j hj;rw [hj];simp [Nat.eq_of_beq_eq_true h4]
   ·cases h4
 | struct t =>
  simp only [tiCheck,Bool.and_eq_true] at h
  refine ⟨tyCheck_ok h.1,?_⟩
  have h2:=h.2
  split at h2
  ·rename_i fs hf
   simp only [Bool.and_eq_true] at h2
   refine ⟨fs,hf,fieldsCheck_ok h2.1,fun ht => ?_⟩
   have h3:=h2.2
   rw [ht] at h3
   exact h3
  ·cases h2
 | other=>trivial
def tabCheckFrom (P:Program):List TI→Nat→Bool
 | [],_=>true
 | i :: r,T=>tiCheck P T i&&tabCheckFrom P r (T+1)
theorem tabCheckFrom_ok {P:Program}:∀ {tab:List TI} {S:Nat},tabCheckFrom P tab S=true→∀ T,TIOk P (S+T) (tabGet tab T)
 | [],_,_,_=>trivial
 | i :: r,S,h,0=>by
  simp only [tabCheckFrom,Bool.and_eq_true] at h
  exact tiCheck_ok h.1
 | i :: r,S,h,T+1=>by
  simp only [tabCheckFrom,Bool.and_eq_true] at h
  have:=tabCheckFrom_ok h.2 T
  rwa [show S+(T+1)=S+1+T from by omega]
theorem tabOk_of_check {P:Program} {tab:List TI} (h:tabCheckFrom P tab 0=true):TabOk P tab:=fun T=>by
 have:=tabCheckFrom_ok h T
 rwa [Nat.zero_add] at this
section
variable {P:Program} {w:World}
theorem TyOk.size_run {T:TypeId} {t:Ty} (h:TyOk P T t) (w:World):(sizeOf T).run P w = .ok t.size w:=by
 obtain ⟨i,hi,hs,_⟩:=h.info
 simp [sizeOf,typeInfo,hi,hs]
theorem TyOk.agg_run {T:TypeId} {t:Ty} (h:TyOk P T t) (w:World):(isAgg T).run P w = .ok t.agg w:=by
 obtain ⟨d,hd,hf⟩:=h.und
 unfold isAgg
 simp only [Sem.run_bind,run_underlying hd,Result.andThen_ok]
 cases d <;> cases t <;> simp_all [descFits,Ty.agg]
theorem TyOk.zero_run {T:TypeId} {t:Ty} (h:TyOk P T t) (w:World):(zeroValue T).run P w = .ok (valOf t (dcells t)) w:=by
 obtain ⟨i,hi,_,z,hz,_,hv⟩:=h.info
 simp [zeroValue,typeInfo,hi,hz,hv]
theorem loadVar_run {T:TypeId} {t:Ty} (h:TyOk P T t) {b off:Nat} {cs:List Value} (hl:cs.length=t.size) (hc:CellsAt w b off cs) :
  (loadVar T ⟨b,off,none⟩).run P w = .ok (valOf t cs) w:=by
 unfold loadVar valOf
 simp only [Sem.run_bind,h.agg_run,Result.andThen_ok]
 cases ha:t.agg with
 | true =>
  have:=run_loadCells_list (P:=P) w ⟨b,off,none⟩ cs (fun j v hj=>by rw [Addr.add_lit];exact hc j v hj)
  simp [h.size_run, ← hl,this]
 | false =>
  have h1:t.size=1:=by cases t <;> simp_all [Ty.agg,Ty.size]
  rw [h1] at hl
  match cs,hl with
  | [c],_ =>
   have:=hc 0 c rfl
   simp at this
   simp [this]
theorem RepC.repB {G:Nat→Prop} {t:Ty} {x:t.den} {cs:List Value} (h:RepC w G t x cs):RepB w G (toAtom t x) (valOf t cs):=by
 cases t with
 | int k=>obtain ⟨rfl,h⟩:=h;exact ⟨rfl,h⟩
 | bool=>cases h;exact ⟨rfl,trivial⟩
 | fn=>cases h;exact ⟨rfl,fnV_ok x⟩
 | str=>obtain ⟨rfl,h⟩:=h;exact ⟨rfl,h⟩
 | sl e=>obtain ⟨v,rfl,h⟩:=h;exact h
 | unit=>exact ⟨cs,rfl,h⟩
 | cons a b=>exact ⟨cs,rfl,h⟩
theorem fldD_spec {G:Nat→Prop}:∀ {t:Ty} {x:t.den} {n:Nat} {d:Dyn} {cs:List Value},fldD t x n=some d→RepC w G t x cs →
  ∃ o,fldOff t n=some (o,d.t)∧RepC w G d.t d.x ((cs.drop o).take d.t.size)∧o+d.t.size≤cs.length
 | .cons a b,x,0,d,cs,h,hr=>by
  obtain ⟨c1,c2,rfl,h1,h2⟩:=hr
  cases h
  refine ⟨0,rfl,?_,by rw [List.length_append,h1.length];simp⟩
  simp only [List.drop_zero]
  rw [← h1.length,List.take_left]
  exact h1
 | .cons a b,x,n+1,d,cs,h,hr=>by
  obtain ⟨c1,c2,rfl,h1,h2⟩:=hr
  obtain ⟨o,ho,hro,hl⟩:=fldD_spec (t:=b) h h2
  refine ⟨a.size+o,by simp [fldOff,ho],?_,by rw [List.length_append,h1.length];omega⟩
  rw [← h1.length,List.drop_append,List.drop_of_length_le (by omega),List.nil_append,Nat.add_sub_cancel_left]
  exact hro
 | .int _,_,_,_,_,h,_=>by cases h
 | .bool,_,_,_,_,h,_=>by cases h
 | .fn,_,_,_,_,h,_=>by cases h
 | .str,_,_,_,_,h,_=>by cases h
 | .sl _,_,_,_,_,h,_=>by cases h
 | .unit,_,_,_,_,h,_=>by cases h
theorem fields_get:∀ {fs:List Field} {t:Ty} {o n:Nat} {fo:Nat} {ft:Ty},FieldsOk P fs t o→fldOff t n=some (fo,ft) →
  ∃ f,fs[n]? = some f∧f.offset=o+fo∧TyOk P f.type ft∧ft.size≠0
 | f :: fs,.cons a b,o,0,fo,ft,h,h2=>by
  cases h2
  exact ⟨f,rfl,h.1,h.2.1,h.2.2.1⟩
 | f :: fs,.cons a b,o,n+1,fo,ft,h,h2=>by
  simp only [fldOff] at h2
  split at h2
  ·rename_i o' t' h3
   cases h2
   obtain ⟨g,h4,h5,h6,h7⟩:=fields_get (n:=n) h.2.2.2 h3
   exact ⟨g,by simpa using h4,by rw [h5];omega,h6,h7⟩
  ·cases h2
 | [],.unit,_,_,_,_,_,h2=>by cases h2
 | [],.int _,_,_,_,_,h,_=>h.elim
 | [],.bool,_,_,_,_,h,_=>h.elim
 | [],.fn,_,_,_,_,h,_=>h.elim
 | [],.str,_,_,_,_,h,_=>h.elim
 | [],.sl _,_,_,_,_,h,_=>h.elim
 | [],.cons _ _,_,_,_,_,h,_=>h.elim
 | _ :: _,.int _,_,_,_,_,h,_=>h.elim
 | _ :: _,.bool,_,_,_,_,h,_=>h.elim
 | _ :: _,.fn,_,_,_,_,h,_=>h.elim
 | _ :: _,.str,_,_,_,_,h,_=>h.elim
 | _ :: _,.sl _,_,_,_,_,h,_=>h.elim
 | _ :: _,.unit,_,_,_,_,h,_=>h.elim
theorem fieldAt_run {S:TypeId} {t:Ty} (h:TIOk P S (.struct t)) {n fo:Nat} {ft:Ty} (hf:fldOff t n=some (fo,ft)) (b off:Nat) :
  (Instr.fieldAt S (.pointer (some ⟨b,off,none⟩)) n).run P w = .ok (.pointer (some ⟨b,off+fo,none⟩)) w:=by
 obtain ⟨_,fs,hu,hfs,_⟩:=h
 obtain ⟨f,h1,h2,h3,h4⟩:=fields_get hfs hf
 have h1':fs[n]? = some f:=by simpa using h1
 unfold Instr.fieldAt
 simp only [Sem.run_bind,run_underlying hu,Result.andThen_ok,h1',Instr.sureAddr,Sem.run_pure,fieldPlace,h3.size_run,if_neg h4,h2,Nat.zero_add,Addr.add_lit]
theorem part_run {T:TypeId} {t:Ty} (h:TyOk P T t) (cs:List Value) (o:Nat) (hl:o+t.size≤cs.length) :
  (part T cs.toArray o).run P w = .ok (valOf t ((cs.drop o).take t.size)) w:=by
 unfold part valOf
 simp only [Sem.run_bind,h.agg_run,Result.andThen_ok]
 cases ha:t.agg with
 | true=>simp [h.size_run,List.extract_toArray,List.extract_eq_take_drop]
 | false =>
  have h1:t.size=1:=by cases t <;> simp_all [Ty.agg,Ty.size]
  rw [h1] at hl ⊢
  have hlt:o<cs.length:=by omega
  simp [hlt,List.take_one,List.head?_drop]
theorem field_run {S:TypeId} {t:Ty} (h:TIOk P S (.struct t)) {n fo:Nat} {ft:Ty} (hf:fldOff t n=some (fo,ft)) (cs:List Value) (hl:fo+ft.size≤cs.length) :
  (Instr.field S (.agg cs.toArray) n).run P w = .ok (valOf ft ((cs.drop fo).take ft.size)) w:=by
 obtain ⟨_,fs,hu,hfs,_⟩:=h
 obtain ⟨f,h1,h2,h3,h4⟩:=fields_get hfs hf
 have h1':fs[n]? = some f:=by simpa using h1
 unfold Instr.field
 simp only [Sem.run_bind,run_underlying hu,Result.andThen_ok,h1',asAgg,Sem.run_pure,h2,Nat.zero_add]
 exact part_run h3 cs fo hl
theorem indexAt_run {T e:TypeId} {t:Ty} {by':Nat} (h:TIOk P T (.slice e t by')) {k:IntKind} {i:Int} (b off len cap:Nat) (h0:0≤i) (h1:i<len) :
  (Instr.indexAt T (.slice (some ⟨b,off,none⟩) len cap) (.int k i)).run P w = .ok (.pointer (some ⟨b,off+i.toNat*t.size,none⟩)) w:=by
 obtain ⟨_,hu,he,_⟩:=h
 unfold Instr.indexAt
 simp [asIntOf,run_underlying hu,h0,h1,he.size_run,Addr.add_lit]
end
end Go.Am
namespace Go.Am
set_option linter.unusedVariables false
set_option linter.unusedSimpArgs false
def All:List Prop→Prop
 | []=>True
 | p :: r=>p∧All r
theorem All.append {l m:List Prop}:All (l++m)↔All l∧All m:=by
 induction l with
 | nil=>simp [All]
 | cons p r ih=>simp [All,ih,and_assoc]
theorem wrap_inR (k:IntKind) (n:Int):InR k (k.wrap n):=by
 cases k <;> simp [InR,IntKind.wrap,IntKind.min,IntKind.max,IntKind.bits,IntKind.signed] <;> (try split) <;> omega
theorem wrap_of_inR {k:IntKind} {n:Int} (h:InR k n):k.wrap n=n:=by
 cases k <;> simp [InR,IntKind.wrap,IntKind.min,IntKind.max,IntKind.bits,IntKind.signed] at h ⊢ <;> (try split) <;> omega
def bitsV (op:BinOp) (k:IntKind) (x y:Int):Int :=
 let a:=BitVec.ofInt k.bits x
 let b:=BitVec.ofInt k.bits y
 match op with
 | .and=>k.wrap (a &&& b).toNat
 | .or=>k.wrap (a ||| b).toNat
 | .xor=>k.wrap (a ^^^ b).toNat
 | _=>k.wrap (a &&& ~~~b).toNat
def shlV (k:IntKind) (x y:Int):Int:=k.wrap (x*2 ^ min y.toNat k.bits)
def shrV (k:IntKind) (x y:Int):Int:=x.fdiv (2 ^ min y.toNat k.bits)
def intV (wr:Bool) (op:BinOp) (k:IntKind) (a b:Int):Option (List Prop×Value) :=
 match op with
 | .add=>match wr with | true=>some ([],.int k (k.wrap (a+b))) | false=>some ([InR k (a+b)],.int k (a+b))
 | .sub=>match wr with | true=>some ([],.int k (k.wrap (a - b))) | false=>some ([InR k (a - b)],.int k (a - b))
 | .mul=>match wr with | true=>some ([],.int k (k.wrap (a*b))) | false=>some ([InR k (a*b)],.int k (a*b))
 | .quo=>some ([b≠0,InR k (a.tdiv b)],.int k (a.tdiv b))
 | .rem=>some ([b≠0,InR k (a.tmod b)],.int k (a.tmod b))
 | .and=>some ([],.int k (bitsV .and k a b))
 | .or=>some ([],.int k (bitsV .or k a b))
 | .xor=>some ([],.int k (bitsV .xor k a b))
 | .andNot=>some ([],.int k (bitsV .andNot k a b))
 | .eql=>some ([],.bool (a==b))
 | .neq=>some ([],.bool (a != b))
 | .lss=>some ([],.bool (decide (a<b)))
 | .leq=>some ([],.bool (decide (a≤b)))
 | .gtr=>some ([],.bool (decide (a>b)))
 | .geq=>some ([],.bool (decide (a≥b)))
 | .shl=>some ([0≤b],.int k (shlV k a b))
 | .shr=>some ([0≤b,InR k (shrV k a b)],.int k (shrV k a b))
def strV (op:BinOp) (a b:ByteArray):Option (List Prop×Value) :=
 match op with
 | .add=>some ([a.size+b.size≤maxLen],.string (a++b))
 | .eql=>some ([],.bool (a.toList==b.toList))
 | .neq=>some ([],.bool (!(a.toList==b.toList)))
 | .lss=>some ([],.bool (Op.bytesLess a.toList b.toList))
 | .leq=>some ([],.bool (Op.bytesLess a.toList b.toList||a.toList==b.toList))
 | .gtr=>some ([],.bool (!(Op.bytesLess a.toList b.toList||a.toList==b.toList)))
 | .geq=>some ([],.bool (!Op.bytesLess a.toList b.toList))
 | _=>none
def binV (wr:Bool) (op:BinOp):Value→Value→Option (List Prop×Value)
 | .int k a,.int k' b=>match op with
  | .shl=>intV wr .shl k a b
  | .shr=>intV wr .shr k a b
  | op=>if k=k' then intV wr op k a b else none
 | .string a,.string b=>strV op a b
 | _,_=>none
section
variable {P:Program} {w:World}
theorem intV_run {wr:Bool} {op:BinOp} {k k':IntKind} {a b:Int} {cs:List Prop} {r:Value} (h:intV wr op k a b=some (cs,r)) (hc:All cs) (hk:k=k'∨op = .shl∨op = .shr) (T:TypeId) :
  (binOp op T (.int k a) (.int k' b)).run P w = .ok r w∧OkV r:=by
 unfold intV at h
 cases op <;> simp only at h
 case add=>cases wr <;> cases h <;> (obtain rfl:=hk.resolve_right (by simp)) <;> simp_all [binOp,Op.intArith,OkV,wrap_inR,All,wrap_of_inR]
 case sub=>cases wr <;> cases h <;> (obtain rfl:=hk.resolve_right (by simp)) <;> simp_all [binOp,Op.intArith,OkV,wrap_inR,All,wrap_of_inR]
 case mul=>cases wr <;> cases h <;> (obtain rfl:=hk.resolve_right (by simp)) <;> simp_all [binOp,Op.intArith,OkV,wrap_inR,All,wrap_of_inR]
 case quo=>cases h;obtain rfl:=hk.resolve_right (by simp);simp only [All] at hc;simp [binOp,Op.intDiv,OkV,hc.1,hc.2.1,wrap_of_inR]
 case rem=>cases h;obtain rfl:=hk.resolve_right (by simp);simp only [All] at hc;simp [binOp,Op.intDiv,OkV,hc.1,hc.2.1]
 case and=>cases h;obtain rfl:=hk.resolve_right (by simp);simp [binOp,Op.intBits,OkV,bitsV,wrap_inR]
 case or=>cases h;obtain rfl:=hk.resolve_right (by simp);simp [binOp,Op.intBits,OkV,bitsV,wrap_inR]
 case xor=>cases h;obtain rfl:=hk.resolve_right (by simp);simp [binOp,Op.intBits,OkV,bitsV,wrap_inR]
 case andNot=>cases h;obtain rfl:=hk.resolve_right (by simp);simp [binOp,Op.intBits,OkV,bitsV,wrap_inR]
 case shl=>cases h;simp only [All] at hc;have h0:¬ b<0:=(by omega);simp [binOp,Op.shift,OkV,shlV,wrap_inR,h0]
 case shr=>cases h;simp only [All] at hc;have h0:¬ b<0:=(by omega);simp [binOp,Op.shift,OkV,shrV,h0];exact hc.2.1
 all_goals cases h;obtain rfl:=hk.resolve_right (by simp);simp [binOp,Op.intCmp,OkV]
theorem strV_run {op:BinOp} {a b:ByteArray} {cs:List Prop} {r:Value} (h:strV op a b=some (cs,r)) (hc:All cs) (T:TypeId) :
  (binOp op T (.string a) (.string b)).run P w = .ok r w∧OkV r:=by
 unfold strV at h
 cases op <;> simp only at h <;> first | (cases h;done) | cases h
 case add =>
  simp only [All] at hc
  have h0:¬ ((a.size+b.size:Nat):Int)>9223372036854775807:=by have:=hc.1;unfold maxLen at this;omega
  have h1:¬ (9223372036854775807:Int)<(a.size:Int)+(b.size:Int):=by omega
  simp [binOp,Op.stringOp,h1,OkV]
  exact hc.1
 all_goals simp [binOp,Op.stringOp,OkV]
theorem binV_run {wr:Bool} {op:BinOp} {u v:Value} {cs:List Prop} {r:Value} (h:binV wr op u v=some (cs,r)) (hc:All cs) (T:TypeId) (x y:Operand) :
  (do eqGuard op T x y u v;binOp op T u v:Sem Value).run P w = .ok r w∧OkV r:=by
 unfold binV at h
 split at h
 ·rename_i k a k' b
  rw [eqGuard_at_int]
  simp only [Sem.run_bind,Sem.run_pure,Result.andThen_ok]
  split at h
  ·exact intV_run h hc (.inr (.inl rfl)) T
  ·exact intV_run h hc (.inr (.inr rfl)) T
  ·by_cases hk:k=k'
   ·rw [if_pos hk] at h;exact intV_run h hc (.inl hk) T
   ·rw [if_neg hk] at h;cases h
 ·rw [eqGuard_at_string]
  simp only [Sem.run_bind,Sem.run_pure,Result.andThen_ok]
  exact strV_run h hc T
 ·cases h
end
def okC:Value→Bool
 | .int k n=>decide (k.min≤n)&&decide (n≤k.max)
 | .string s=>Nat.ble s.size 1048576
 | .slice none n c=>Nat.beq n 0&&Nat.beq c 0
 | .bool _=>true
 | _=>false
theorem okC_ok {v:Value} (h:okC v=true):OkV v:=by
 unfold okC at h
 split at h
 ·simp at h;exact h
 ·simp at h;simp only [OkV,maxLen];omega
 ·simp at h;exact h
 ·trivial
 ·cases h
def opnd (E:Env):Operand→PV
 | .tmp t=>E.get t
 | .const v=>match okC v with | true => .a (.val v) | false => .a .junk
 | .func f => .fn f []
 | .global _ => .a .junk
section
variable {n:Nat} {K:Ctx} {G:Nat→Prop} {w0 w:World} {a:Act} {E:Env} {L:Heap} {V:Nat→Value} {own:Nat→List Nat}
theorem RelV.opnd (h:RelV n K w0 G w a E L V own) (x:Operand):RepP w0 G L V (opnd E x) (a.eval x):=by
 cases x with
 | tmp t=>exact h.env t
 | const v =>
  simp only [Am.opnd]
  cases hc:okC v with
  | true=>exact ⟨rfl,okC_ok hc⟩
  | false=>trivial
 | func f=>exact ⟨[],rfl,rfl⟩
 | global g=>trivial
theorem RelV.atom (h:RelV n K w0 G w a E L V own) {x:Operand} {A:Atom} (hx:Am.opnd E x = .a A):RepA w0 G L V A (a.eval x):=by
 have:=h.opnd x
 rw [hx] at this
 exact this
theorem RelV.valEq (h:RelV n K w0 G w a E L V own) {x:Operand} {v:Value} (hx:Am.opnd E x = .a (.val v)):a.eval x=v∧OkV v:=h.atom hx
end
end Go.Am
namespace Go.Am
set_option linter.unusedVariables false
set_option linter.unusedSimpArgs false
theorem fldD_own {w:World}:∀ {t:Ty} {x:t.den} {n:Nat} {d:Dyn} {cs:List Value} {bs:List Nat},fldD t x n=some d→OwnC w t x cs bs →
  ∃ o bs',fldOff t n=some (o,d.t)∧OwnC w d.t d.x ((cs.drop o).take d.t.size) bs'∧o+d.t.size≤cs.length∧∀ b∈bs',b∈bs
 | .cons a b,x,0,d,cs,bs,h,hr=>by
  obtain ⟨c1,c2,b1,b2,rfl,rfl,h1,h2⟩:=hr
  cases h
  refine ⟨0,b1,rfl,?_,by rw [List.length_append,h1.length];simp,fun b hb=>List.mem_append_left _ hb⟩
  simp only [List.drop_zero]
  rw [← h1.length,List.take_left]
  exact h1
 | .cons a b,x,n+1,d,cs,bs,h,hr=>by
  obtain ⟨c1,c2,b1,b2,rfl,rfl,h1,h2⟩:=hr
  obtain ⟨o,bs',ho,hro,hl,hb⟩:=fldD_own (t:=b) h h2
  refine ⟨a.size+o,bs',by simp [fldOff,ho],?_,by rw [List.length_append,h1.length];omega,fun b hb'=>List.mem_append_right _ (hb b hb')⟩
  rw [← h1.length,List.drop_append,List.drop_of_length_le (by omega),List.nil_append,Nat.add_sub_cancel_left]
  exact hro
 | .int _,_,_,_,_,_,h,_=>by cases h
 | .bool,_,_,_,_,_,h,_=>by cases h
 | .fn,_,_,_,_,_,h,_=>by cases h
 | .str,_,_,_,_,_,h,_=>by cases h
 | .sl _,_,_,_,_,_,h,_=>by cases h
 | .unit,_,_,_,_,_,h,_=>by cases h
theorem take_drop_sub {α:Type} (l:List α) (o n o' n':Nat) (h:o'+n'≤n):(((l.drop o).take n).drop o').take n'=(l.drop (o+o')).take n':=by
 rw [List.drop_take,List.take_take,List.drop_drop]
 congr 1
 omega
theorem pathD_own {w:World}:∀ {p:List Nat} {d0 d:Dyn} {cs:List Value} {bs:List Nat},pathD p d0=some d→OwnC w d0.t d0.x cs bs →
  ∃ o bs',pathOff p d0.t=some (o,d.t)∧OwnC w d.t d.x ((cs.drop o).take d.t.size) bs'∧o+d.t.size≤cs.length∧∀ b∈bs',b∈bs
 | [],d0,d,cs,bs,h,hr=>by
  cases h
  refine ⟨0,bs,rfl,?_,by rw [hr.length];simp,fun _ h=>h⟩
  rw [List.drop_zero, ← hr.length,List.take_length]
  exact hr
 | f :: p,d0,d,cs,bs,h,hr=>by
  simp only [pathD] at h
  split at h
  ·rename_i d1 h1
   obtain ⟨o1,b1,ho1,hr1,hl1,hb1⟩:=fldD_own h1 hr
   obtain ⟨o2,b2,ho2,hr2,hl2,hb2⟩:=pathD_own h hr1
   have hl2':o2+d.t.size≤d1.t.size:=by
    rw [hr1.length] at hl2;exact hl2
   refine ⟨o1+o2,b2,by simp [pathOff,ho1,ho2],?_,by omega,fun b hb=>hb1 b (hb2 b hb)⟩
   rw [take_drop_sub _ _ _ _ _ hl2'] at hr2
   exact hr2
  ·cases h
theorem pathD_rep {w:World} {G:Nat→Prop}:∀ {p:List Nat} {d0 d:Dyn} {cs:List Value},pathD p d0=some d→RepC w G d0.t d0.x cs →
  ∃ o,pathOff p d0.t=some (o,d.t)∧RepC w G d.t d.x ((cs.drop o).take d.t.size)∧o+d.t.size≤cs.length
 | [],d0,d,cs,h,hr=>by
  cases h
  refine ⟨0,rfl,?_,by rw [hr.length];simp⟩
  rw [List.drop_zero, ← hr.length,List.take_length]
  exact hr
 | f :: p,d0,d,cs,h,hr=>by
  simp only [pathD] at h
  split at h
  ·rename_i d1 h1
   obtain ⟨o1,ho1,hr1,hl1⟩:=fldD_spec h1 hr
   obtain ⟨o2,ho2,hr2,hl2⟩:=pathD_rep h hr1
   have hl2':o2+d.t.size≤d1.t.size:=by
    rw [hr1.length] at hl2;exact hl2
   refine ⟨o1+o2,by simp [pathOff,ho1,ho2],?_,by omega⟩
   rw [take_drop_sub _ _ _ _ _ hl2'] at hr2
   exact hr2
  ·cases h
def leafA:Leaf→Atom
 | .val v => .val v
 | .sl t xs => .sl t xs
 | .osl r rg => .osl r rg
 | .junk => .junk
def unfn:Value→Option (Option Nat)
 | .nilFunc=>some none
 | .func (.func f) x y=>match x.toList,y.toList with
  | [],[]=>some (some f)
  | _,_=>none
 | _=>none
theorem unfn_eq {v:Value} {f:Option Nat} (h:unfn v=some f):v=fnV f:=by
 unfold unfn at h
 split at h
 ·cases h;rfl
 ·rename_i g x y
  split at h
  ·rename_i h1 h2
   cases h
   have e1:x = #[]:=by cases x;simpa using h1
   have e2:y = #[]:=by cases y;simpa using h2
   rw [e1,e2];rfl
  ·cases h
 ·cases h
def treeLs:(t:Ty)→List Leaf→Option t.den
 | .int k,ls=>match ls with
  | [.val (.int k' n)]=>match decide (k=k') with | true=>some n | false=>none
  | _=>none
 | .bool,ls=>match ls with
  | [.val (.bool b)]=>some b
  | _=>none
 | .fn,ls=>match ls with
  | [.val v]=>unfn v
  | _=>none
 | .str,ls=>match ls with
  | [.val (.string s)]=>some s
  | _=>none
 | .sl e,ls=>match ls with
  | [.val (.slice none _ _)]=>some []
  | [.sl t xs]=>if h:t=e then some (h ▸ xs) else none
  | _=>none
 | .unit,ls=>match ls with
  | []=>some ()
  | _=>none
 | .cons a b,ls=>match treeLs a (ls.take a.size),treeLs b (ls.drop a.size) with
  | some x,some y=>some (x,y)
  | _,_=>none
def hasSl:List Leaf→Bool
 | []=>false
 | .sl _ _ :: _=>true
 | _ :: r=>hasSl r
def keepRcd (t:Ty) (ls:List Leaf):Bool := !t.flat && !hasSl ls
def subA (t:Ty) (ls:List Leaf):Option Atom :=
 match t.agg with
 | true=>match keepRcd t ls,treeLs t ls with
  | false,some x=>some (.st t x)
  | _,_=>some (.rcd t ls)
 | false=>match ls with
  | [l]=>some (leafA l)
  | _=>none
def loadA (L:Heap) (t:Ty):Atom→Option Atom
 | .bptr r o t'=>match decide (t'=t),hget L r with
  | true,some A=>match A.ls with
   | some ls=>subA t ((ls.drop o).take t.size)
   | none=>none
  | _,_=>none
 | .ptr t' x=>match decide (t'=t) with | true=>some (toAtom t' x) | false=>none
 | .optr r i p=>match hget L r with
  | some A=>match pathD p ⟨A.t,A.xs.getD i A.t.dflt⟩ with
   | some d=>match decide (d.t=t)&&(A.bor||d.t.flat) with | true=>some d.atom | false=>none
   | none=>none
  | none=>none
 | _=>none
def fldAddrA (L:Heap) (t:Ty) (f:Nat):Atom→Option Atom
 | .bptr r o t'=>match decide (t'=t),fldOff t' f with
  | true,some (o',ft)=>some (.bptr r (o+o') ft)
  | _,_=>none
 | .ptr t' x=>match decide (t'=t) with
  | true=>match fldD t' x f with | some d=>some (.ptr d.t d.x) | none=>none
  | false=>none
 | .optr r i p=>match hget L r with
  | some A=>match pathOff p A.t with
   | some (_,t')=>match decide (t'=t) with
    | true=>match fldOff t' f with | some _=>some (.optr r i (p++[f])) | none=>none
    | false=>none
   | none=>none
  | none=>none
 | _=>none
def fieldA (t:Ty) (f:Nat):Atom→Option Atom
 | .rcd t' ls=>match decide (t'=t),fldOff t f with
  | true,some (o,ft)=>subA ft ((ls.drop o).take ft.size)
  | _,_=>none
 | .st t' x=>match decide (t'=t) with
  | true=>match fldD t' x f with | some d=>some d.atom | none=>none
  | false=>none
 | _=>none
def byteAt (s:ByteArray) (i:Int):Int:=((s.data.toList.getD i.toNat 0).toNat:Int)
def idxAddrA (L:Heap) (t:Ty) (n:Int):Atom→Option (List Prop×Atom)
 | .sl t' xs=>match decide (t'=t) with
  | true=>some ([0≤n,n<(xs.length:Int)],.ptr t' (xs.getD n.toNat t'.dflt))
  | false=>none
 | .osl r rg=>match hget L r with
  | some A=>match decide (A.t=t) with
   | true=>match rg with
    | none=>some ([0≤n,n<(A.xs.length:Int)],.optr r n.toNat [])
    | some (lo,hi)=>some ([0≤n,n<((hi - lo:Nat):Int)],.optr r (lo+n.toNat) [])
   | false=>none
  | none=>none
 | _=>none
def lenA (L:Heap):Atom→Option Int
 | .val (.string s)=>some (s.size:Int)
 | .val (.slice none _ _)=>some 0
 | .sl _ xs=>some (xs.length:Int)
 | .osl r rg=>match hget L r with
  | some A=>match rg with
   | none=>some (A.xs.length:Int)
   | some (lo,hi)=>some ((hi - lo:Nat):Int)
  | none=>none
 | _=>none
section
variable {P:Program} {n:Nat} {K:Ctx} {G:Nat→Prop} {w0 w:World} {a:Act} {E:Env} {L:Heap} {V:Nat→Value} {own:Nat→List Nat}
theorem RelV.keepG (h:RelV n K w0 G w a E L V own) {w':World} (k:Kept [] w w'):∀ b,G b→w'.heap[b]? = w0.heap[b]? :=
 (h.ext k).gref
theorem CellsAt.keep {w w':World} {b off:Nat} {cs:List Value} (hb:w'.heap[b]? = w.heap[b]?) (h:CellsAt w b off cs):CellsAt w' b off cs:=h.keepB hb
theorem own_elem {A:Arr} {v:Value} {bs:List Nat} {b off m cap:Nat} (h:EntC w0 G w A v bs) (hv:v = .slice (some ⟨b,off,none⟩) m cap) {i:Nat} {x:A.t.den} (hx:A.xs[i]? = some x) :
  ∃ cs bi,CellsAt w b (off+i*A.t.size) cs∧entR w0 G w A.t A.bor x cs bi∧(∀ k∈bi,k∈bs)∧b∈bs:=by
 rcases h.2 with ⟨_,_,h0,_⟩ | ⟨b',off',cap',cur,ty,fz,bss,h1,h2,h3,h4,h5,h6,h7,h8,h9⟩
 ·rw [h0] at hx;cases hx
 ·rw [h1] at hv
  cases hv
  have hlt:i<bss.length:=by rw [h7];exact (List.getElem?_eq_some_iff.1 hx).1
  obtain ⟨cs,hl,hc,hr⟩:=h9 i x _ hx (List.getElem?_eq_getElem hlt)
  refine ⟨cs,_,fun j c hj => ?_,hr,fun k hk=>by rw [h8];exact List.mem_cons_of_mem _ (mem_flatten_of_get (List.getElem?_eq_getElem hlt) k hk),by rw [h8];exact List.mem_cons_self ..⟩
  simp only [World.cell?, h5]
  exact hc j c hj
theorem getD_of_lt {α:Type} (xs:List α) (i:Nat) (d:α) (h:i<xs.length):xs[i]? = some (xs.getD i d):=by
 rw [List.getD_eq_getElem?_getD,List.getElem?_eq_getElem h];rfl
theorem CellsAt.sub {w:World} {b off:Nat} {cs:List Value} (h:CellsAt w b off cs) (o m:Nat):CellsAt w b (off+o) ((cs.drop o).take m):=fun j c hj=>by
 rw [List.getElem?_take] at hj
 split at hj
 ·rw [List.getElem?_drop] at hj
  rw [Nat.add_assoc]
  exact h _ _ hj
 ·cases hj
theorem repA_toAtom {t:Ty} {x:t.den} {v:Value} (h:RepB w0 G (toAtom t x) v):RepA w0 G L V (toAtom t x) v:=by
 cases t <;> exact h
theorem repLs_len:∀ {ls:List Leaf} {cs:List Value},RepLs w0 G L V ls cs→cs.length=ls.length
 | [],_,h=>by cases h;rfl
 | _ :: _,_,⟨_,_,h,_,h2⟩=>by subst h;simp [repLs_len h2]
theorem repLs_drop:∀ {ls:List Leaf} {cs:List Value} (k:Nat),RepLs w0 G L V ls cs→RepLs w0 G L V (ls.drop k) (cs.drop k)
 | _,_,0,h=>h
 | [],_,k+1,h=>by cases h;rfl
 | _ :: _,_,k+1,⟨_,_,h,_,h2⟩=>by subst h;exact repLs_drop k h2
theorem repLs_take:∀ {ls:List Leaf} {cs:List Value} (k:Nat),RepLs w0 G L V ls cs→RepLs w0 G L V (ls.take k) (cs.take k)
 | _,_,0,h=>by simp [RepLs]
 | [],_,k+1,h=>by cases h;rfl
 | _ :: _,_,k+1,⟨v,r,h,h1,h2⟩=>by subst h;exact ⟨v,r.take k,by simp,h1,repLs_take k h2⟩
theorem leafA_rep {l:Leaf} {v:Value} (h:RepL w0 G L V l v):RepA w0 G L V (leafA l) v:=by
 cases l with
 | val u=>exact ⟨h.1,h.2.1⟩
 | sl t xs=>exact h
 | osl r rg=>exact h
 | junk=>trivial
theorem treeLs_rep:∀ {t:Ty} {ls:List Leaf} {x:t.den} {cs:List Value},RepLs w0 G L V ls cs→treeLs t ls=some x→RepC w0 G t x cs
 | .int k,ls,x,cs,hr,h=>by
  simp only [treeLs] at h
  split at h
  ·split at h
   ·rename_i hk
    obtain rfl:=of_decide_eq_true hk
    cases h
    obtain ⟨v,r,rfl,⟨rfl,h1,_⟩,h2⟩:=hr
    cases h2
    exact ⟨rfl,h1⟩
   ·cases h
  ·cases h
 | .bool,ls,x,cs,hr,h=>by
  simp only [treeLs] at h
  split at h
  ·cases h
   obtain ⟨v,r,rfl,⟨rfl,h1,_⟩,h2⟩:=hr
   cases h2
   rfl
  ·cases h
 | .fn,ls,x,cs,hr,h=>by
  simp only [treeLs] at h
  split at h
  ·obtain ⟨v,r,rfl,⟨rfl,h1,_⟩,h2⟩:=hr
   cases h2
   rw [unfn_eq h]
   rfl
  ·cases h
 | .str,ls,x,cs,hr,h=>by
  simp only [treeLs] at h
  split at h
  ·cases h
   obtain ⟨v,r,rfl,⟨rfl,h1,_⟩,h2⟩:=hr
   cases h2
   exact ⟨rfl,h1⟩
  ·cases h
 | .sl e,ls,x,cs,hr,h=>by
  simp only [treeLs] at h
  split at h
  ·cases h
   obtain ⟨v,r,rfl,⟨rfl,⟨h1,h3⟩,_⟩,h2⟩:=hr
   cases h2
   subst h1 h3
   exact ⟨_,rfl,Nat.zero_le _,.inl ⟨_,rfl,rfl⟩⟩
  ·split at h
   ·rename_i ht
    subst ht
    cases h
    obtain ⟨v,r,rfl,h1,h2⟩:=hr
    cases h2
    exact ⟨v,rfl,h1⟩
   ·cases h
  ·cases h
 | .unit,ls,x,cs,hr,h=>by
  simp only [treeLs] at h
  split at h
  ·cases hr
   rfl
  ·cases h
 | .cons a b,ls,x,cs,hr,h=>by
  simp only [treeLs] at h
  split at h
  ·rename_i y z hy hz
   cases h
   exact ⟨cs.take a.size,cs.drop a.size,(List.take_append_drop _ _).symm,treeLs_rep (repLs_take _ hr) hy,treeLs_rep (repLs_drop _ hr) hz⟩
  ·cases h
theorem subA_rep {t:Ty} {ls:List Leaf} {cs:List Value} {A:Atom} (hr:RepLs w0 G L V ls cs) (hl:ls.length=t.size) (h:subA t ls=some A):RepA w0 G L V A (valOf t cs):=by
 unfold subA at h
 unfold valOf
 split at h
 ·rename_i ha
  rw [if_pos ha]
  split at h
  ·rename_i x hk hx
   cases h
   exact ⟨cs,rfl,treeLs_rep hr hx⟩
  ·cases h
   exact ⟨cs,rfl,hl,hr⟩
 ·rename_i ha
  rw [if_neg (by rw [ha];simp)]
  split at h
  ·rename_i l
   cases h
   obtain ⟨v,r,rfl,h1,h2⟩:=hr
   cases h2
   exact leafA_rep h1
  ·cases h
theorem fldOff_le:∀ {t:Ty} {n o:Nat} {ft:Ty},fldOff t n=some (o,ft)→o+ft.size≤t.size
 | .cons a b,0,o,ft,h=>by cases h;simp [Ty.size]
 | .cons a b,n+1,o,ft,h=>by
  simp only [fldOff] at h
  split at h
  ·rename_i o' t' h1
   cases h
   have:=fldOff_le h1
   simp only [Ty.size];omega
  ·cases h
 | .int _,_,_,_,h=>by cases h
 | .bool,_,_,_,h=>by cases h
 | .fn,_,_,_,h=>by cases h
 | .str,_,_,_,h=>by cases h
 | .sl _,_,_,_,h=>by cases h
 | .unit,_,_,_,h=>by cases h
theorem loadA_spec (hR:RelV n K w0 G w a E L V own) {T:TypeId} {t:Ty} (hT:TyOk P T t) {A A':Atom} {u:Value} (hu:RepA w0 G L V A u) (h:loadA L t A=some A') :
  ∃ v,RepA w0 G L V A' v∧∀ w',Kept [] w w'→(Instr.loadAt T u).run P w' = .ok v w':=by
 unfold loadA at h
 split at h
 ·rename_i r o t'
  split at h
  ·rename_i B ht hB
   obtain rfl:=of_decide_eq_true ht
   split at h
   ·rename_i ls hls
    obtain ⟨B',ls',b,off,hB',hls',hv,rfl,hsz⟩:=hu
    rw [hB] at hB';cases hB'
    rw [hls] at hls';cases hls'
    obtain ⟨b1,off1,cs,e1,e3,e4,e5,e6⟩:=hR.boxs r B ls hB hls
    rw [hv] at e1;cases e1
    have hlen:((ls.drop o).take t'.size).length=t'.size:=by simp;omega
    have hsub:=repLs_take t'.size (repLs_drop o e6)
    have hb:=(hR.heap r B hB).block hv (Nat.le_refl _)
    have hlt:=hR.own_lt hB b hb
    refine ⟨valOf t' ((cs.drop o).take t'.size),subA_rep hsub hlen h,fun w' k => ?_⟩
    unfold Instr.loadAt Instr.sureAddr
    simp only [Sem.run_bind,Sem.run_pure,Result.andThen_ok]
    exact loadVar_run hT (by rw [repLs_len hsub,hlen]) ((CellsAt.sub e5 o _).keep (k.block b hlt (by simp)))
   ·cases h
  ·cases h
 ·rename_i t' x
  split at h
  ·rename_i ht
   obtain rfl:=of_decide_eq_true ht
   cases h
   obtain ⟨b,off,cs,rfl,hb,hc,hr⟩:=hu
   refine ⟨valOf t' cs,repA_toAtom hr.repB,fun w' k => ?_⟩
   ·unfold Instr.loadAt Instr.sureAddr
    simp only [Sem.run_bind,Sem.run_pure,Result.andThen_ok]
    exact loadVar_run hT hr.length (hc.keep (hR.keepG k b hb))
  ·cases h
 ·rename_i r i p
  split at h
  ·rename_i B hB
   split at h
   ·rename_i d hd
    split at h
    ·rename_i hdt
     simp only [Bool.and_eq_true,decide_eq_true_eq] at hdt
     obtain ⟨hdt,hfl⟩:=hdt
     cases h
     obtain ⟨B',hB',hi,b,off,m,cap,po,t',hv,hp,rfl⟩:=hu
     rw [hB] at hB';cases hB'
     have hown:=hR.heap r B hB
     obtain ⟨cs,bi,hc,ho,hsub,hb⟩:=own_elem hown hv (getD_of_lt B.xs i B.t.dflt hi)
     have hrep:RepC w0 G d.t d.x ((cs.drop po).take d.t.size)∧t'=d.t:=by
      revert ho hfl
      unfold entR
      cases hbor:B.bor with
      | true =>
       intro hfl ho
       obtain ⟨o,ho1,ho2,ho3⟩:=pathD_rep hd ho.1
       rw [hp] at ho1;cases ho1
       exact ⟨ho2,rfl⟩
      | false =>
       intro hfl ho
       obtain ⟨o,bs',ho1,ho2,ho3,ho4⟩:=pathD_own hd ho
       rw [hp] at ho1;cases ho1
       exact ⟨(ho2.flat (w':=w0) (G:=G) (by simpa using hfl)).1,rfl⟩
     obtain ⟨hrep,rfl⟩:=hrep
     have hblt:b<w.heap.size:=hown.lt b hb
     refine ⟨valOf d.t ((cs.drop po).take d.t.size),repA_toAtom hrep.repB,fun w' k => ?_⟩
     ·unfold Instr.loadAt Instr.sureAddr
      simp only [Sem.run_bind,Sem.run_pure,Result.andThen_ok]
      subst hdt
      exact loadVar_run hT hrep.length ((hc.sub po _).keep (k.block b hblt (by simp)))
    ·cases h
   ·cases h
  ·cases h
 ·cases h
theorem pathOff_snoc:∀ {p:List Nat} {t t' t'':Ty} {o o' f:Nat},pathOff p t=some (o,t')→fldOff t' f=some (o',t'')→pathOff (p++[f]) t=some (o+o',t'')
 | [],t,t',t'',o,o',f,h,h2=>by cases h;simp [pathOff,h2]
 | g :: p,t,t',t'',o,o',f,h,h2=>by
  simp only [pathOff] at h
  split at h
  ·rename_i o1 t1 h1
   split at h
   ·rename_i o2 t2 h3
    cases h
    have:=pathOff_snoc h3 h2
    simp [pathOff,h1,this,Nat.add_assoc]
   ·cases h
  ·cases h
theorem fldAddrA_spec {S:TypeId} {t:Ty} (hS:TIOk P S (.struct t)) {f:Nat} {A A':Atom} {u:Value} (hu:RepA w0 G L V A u) (h:fldAddrA L t f A=some A') :
  ∃ v,RepA w0 G L V A' v∧∀ w',(Instr.fieldAt S u f).run P w' = .ok v w':=by
 unfold fldAddrA at h
 split at h
 ·rename_i r o t'
  split at h
  ·rename_i o' ft ht ho
   obtain rfl:=of_decide_eq_true ht
   cases h
   obtain ⟨B,ls,b,off,hB,hls,hv,rfl,hsz⟩:=hu
   have hle:=fldOff_le ho
   refine ⟨_,⟨B,ls,b,off,hB,hls,hv,rfl,by omega⟩,fun w' => ?_⟩
   rw [fieldAt_run hS ho b (off+o),Nat.add_assoc]
  ·cases h
 ·rename_i t' x
  split at h
  ·rename_i ht
   obtain rfl:=of_decide_eq_true ht
   split at h
   ·rename_i d hd
    cases h
    obtain ⟨b,off,cs,rfl,hb,hc,hr⟩:=hu
    obtain ⟨o,ho,hr',hl⟩:=fldD_spec hd hr
    exact ⟨_,⟨b,off+o,_,rfl,hb,hc.sub o _,hr'⟩,fun w'=>fieldAt_run hS ho b off⟩
   ·cases h
  ·cases h
 ·rename_i r i p
  split at h
  ·rename_i B hB
   split at h
   ·rename_i po t' hp
    split at h
    ·rename_i ht
     obtain rfl:=of_decide_eq_true ht
     split at h
     ·rename_i y hy
      obtain ⟨o',t''⟩:=y
      cases h
      obtain ⟨B',hB',hi,b,off,m,cap,po',t2,hv,hp',rfl⟩:=hu
      rw [hB] at hB';cases hB'
      rw [hp] at hp';cases hp'
      refine ⟨_,⟨B,hB,hi,b,off,m,cap,po+o',t'',hv,pathOff_snoc hp hy,rfl⟩,fun w' => ?_⟩
      have:=fieldAt_run (P:=P) (w:=w') hS hy b (off+i*B.t.size+po)
      rw [this]
      simp [Nat.add_assoc]
     ·cases h
    ·cases h
   ·cases h
  ·cases h
 ·cases h
theorem fieldA_spec {S:TypeId} {t:Ty} (hS:TIOk P S (.struct t)) {f:Nat} {A A':Atom} {u:Value} (hu:RepA w0 G L V A u) (h:fieldA t f A=some A') :
  ∃ v,RepA w0 G L V A' v∧∀ w',(Instr.field S u f).run P w' = .ok v w':=by
 unfold fieldA at h
 split at h
 ·rename_i t' ls
  split at h
  ·rename_i o ft ht ho
   obtain rfl:=of_decide_eq_true ht
   obtain ⟨cs,rfl,hl,hr⟩:=hu
   have hle:=fldOff_le ho
   have hcl:=repLs_len hr
   exact ⟨valOf ft ((cs.drop o).take ft.size),subA_rep (repLs_take _ (repLs_drop _ hr)) (by simp;omega) h,fun w'=>field_run hS ho cs (by omega)⟩
  ·cases h
 ·rename_i t' x
  split at h
  ·rename_i ht
   obtain rfl:=of_decide_eq_true ht
   split at h
   ·rename_i d hd
    cases h
    obtain ⟨cs,rfl,hr⟩:=hu
    obtain ⟨o,ho,hr',hl⟩:=fldD_spec hd hr
    exact ⟨valOf d.t ((cs.drop o).take d.t.size),repA_toAtom hr'.repB,fun w'=>field_run hS ho cs hl⟩
   ·cases h
  ·cases h
 ·cases h
theorem idxAddrA_spec {T e:TypeId} {t:Ty} {by':Nat} (hT:TIOk P T (.slice e t by')) {k:IntKind} {i:Int} {A A':Atom} {cs:List Prop} {u:Value} (hu:RepA w0 G L V A u)
  (h:idxAddrA L t i A=some (cs,A')) (hc:All cs) :
  ∃ v,RepA w0 G L V A' v∧∀ w',(Instr.indexAt T u (.int k i)).run P w' = .ok v w':=by
 unfold idxAddrA at h
 split at h
 ·rename_i t' xs
  split at h
  ·rename_i ht
   obtain rfl:=of_decide_eq_true ht
   cases h
   simp only [All] at hc
   obtain ⟨h0,h1,_⟩:=hc
   rcases hu.2 with ⟨_,_,rfl⟩ | ⟨b,off,cap,rfl,_,_,hb,hx⟩
   ·simp at h1;omega
   ·have hlt:i.toNat<xs.length:=by omega
    obtain ⟨cs,hl,hc,hr⟩:=hx i.toNat _ (getD_of_lt xs i.toNat t'.dflt hlt)
    exact ⟨_,⟨b,off+i.toNat*t'.size,cs,rfl,hb,hc,hr⟩,fun w'=>indexAt_run hT b off _ cap h0 h1⟩
  ·cases h
 ·rename_i r rg
  split at h
  ·rename_i B hB
   split at h
   ·rename_i ht
    have ht:=of_decide_eq_true ht
    obtain ⟨B',hB',_,hs1,hs2,hs3⟩:=hu
    rw [hB] at hB';cases hB'
    have key:∀ (lo hi:Nat),rgLo rg=lo→rgHi B.xs.length rg=hi→0≤i→i<((hi - lo:Nat):Int) →
      ∃ v,RepA w0 G L V (.optr r (lo+i.toNat) []) v∧∀ w',(Instr.indexAt T u (.int k i)).run P w' = .ok v w':=by
     intro lo hi hlo hhi h0 h1
     rw [hlo,hhi] at hs1 hs3
     rw [hhi] at hs2
     rcases hs3 with ⟨_,_,_,_,h3⟩ | ⟨b,off,m,cap,o,c,hv,rfl,hle,hcase⟩
     ·omega
     ·have hcase:=(hcase.resolve_right (by omega)).1
      subst hcase
      subst ht
      refine ⟨_,⟨B,hB,by omega,b,off,m,cap,0,B.t,hv,rfl,rfl⟩,fun w' => ?_⟩
      rw [indexAt_run hT b (off+lo*B.t.size) (hi - lo) c h0 h1,Nat.add_zero,Nat.add_mul,Nat.add_assoc]
    split at h
    ·cases h
     simp only [All] at hc
     have:=key 0 B.xs.length rfl rfl hc.1 (by simpa using hc.2.1)
     rwa [Nat.zero_add] at this
    ·cases h
     simp only [All] at hc
     exact key _ _ rfl rfl hc.1 hc.2.1
   ·cases h
  ·cases h
 ·cases h
end
end Go.Am
namespace Go.Am
set_option linter.unusedVariables false
set_option linter.unusedSimpArgs false
def optV:Option (IntKind×Int)→Option Value
 | none=>none
 | some (k,n)=>some (.int k n)
def optI:Option (IntKind×Int)→Option Int
 | some (_,n)=>some n
 | none=>none
theorem sliceBounds_run {P:Program} {w:World} (isS:Bool) (len cap:Nat) (lo hi:Option (IntKind×Int)) (hlc:len≤cap) {l h:Int}
  (hl:l=(optI lo).getD 0) (hh:h=(optI hi).getD len) (h0:0≤l) (h1:l≤h) (h2:h≤len) :
  (Instr.sliceBounds isS len cap (optV lo) (optV hi) none).run P w = .ok (l.toNat,h.toNat,cap) w:=by
 have hcap:h≤(cap:Int):=by omega
 unfold Instr.sliceBounds
 cases lo with
 | none=>cases hi with
  | none=>simp only [optI,Option.getD] at hl hh;subst hl hh;simp [optV]
  | some y =>
   obtain ⟨k,m⟩:=y
   simp only [optI,Option.getD] at hl hh
   subst hl hh
   simp [optV,run_sliceBound (P:=P) w k h cap _ h1 hcap]
 | some x =>
  obtain ⟨k,m⟩:=x
  simp only [optI,Option.getD] at hl
  subst hl
  cases hi with
  | none =>
   simp only [optI,Option.getD] at hh
   subst hh
   simp [optV,run_sliceBound (P:=P) w k l len _ h0 h1]
  | some y =>
   obtain ⟨k',m'⟩:=y
   simp only [optI,Option.getD] at hh
   subst hh
   have e:(h.toNat:Int)=h:=by omega
   simp [optV,run_sliceBound (P:=P) w k' h cap _ (by omega) hcap,run_sliceBound (P:=P) w k l h.toNat _ h0 (by omega)]
def bounds (len:Int):Option Int→Option Int→List Prop×Int×Int
 | none,none=>([],0,len)
 | some l,none=>([0≤l,l≤len],l,len)
 | none,some h=>([0≤h,h≤len],0,h)
 | some l,some h=>([0≤l,l≤h,h≤len],l,h)
def subL {α:Type} (xs:List α):Option Int→Option Int→List α
 | none,none=>xs
 | some l,none=>xs.drop l.toNat
 | none,some h=>xs.take h.toNat
 | some l,some h=>(xs.take h.toNat).drop l.toNat
def sliceA (L:Heap) (lo hi:Option Int):Atom→Option (List Prop×Atom)
 | .val (.string s)=>match bounds s.size lo hi with
  | (cs,l,h)=>some (cs,.val (.string (s.extract l.toNat h.toNat)))
 | .sl t xs=>match bounds xs.length lo hi with
  | (cs,_,_)=>some (cs,.sl t (subL xs lo hi))
 | .osl r rg=>match hget L r with
  | some A=>match bounds ((rgHi A.xs.length rg - rgLo rg:Nat):Int) lo hi with
   | (cs,l,h)=>some (cs,.osl r (some (rgLo rg+l.toNat,rgLo rg+h.toNat)))
  | none=>none
 | _=>none
theorem bounds_ok {len:Nat} {lo hi:Option Int} {cs:List Prop} {l h:Int} (hb:bounds len lo hi=(cs,l,h)) (hc:All cs) :
  0≤l∧l≤h∧h≤len∧l=lo.getD 0∧h=hi.getD len:=by
 unfold bounds at hb
 split at hb <;> cases hb <;> simp_all [All]
theorem subL_get {α:Type} {xs:List α} {lo hi:Option Int} {cs:List Prop} {l h:Int} (hb:bounds xs.length lo hi=(cs,l,h)) (hc:All cs) :
  (subL xs lo hi).length=h.toNat - l.toNat∧∀ i y,(subL xs lo hi)[i]? = some y→xs[l.toNat+i]? = some y:=by
 obtain ⟨h0,h1,h2,hl,hh⟩:=bounds_ok hb hc
 unfold subL
 split <;> simp only [Option.getD] at hl hh <;> subst hl hh
 ·refine ⟨?_,fun i y hy => ?_⟩ <;> simp_all
 ·refine ⟨by simp <;> omega,fun i y hy=>by rw [List.getElem?_drop] at hy;exact hy⟩
 ·refine ⟨by simp <;> omega,fun i y hy => ?_⟩
  rw [List.getElem?_take] at hy
  split at hy
  ·simpa using hy
  ·cases hy
 ·refine ⟨by simp <;> omega,fun i y hy => ?_⟩
  rw [List.getElem?_drop,List.getElem?_take] at hy
  split at hy
  ·exact hy
  ·cases hy
section
variable {P:Program} {n:Nat} {K:Ctx} {G:Nat→Prop} {w0 w:World} {a:Act} {E:Env} {L:Heap} {V:Nat→Value} {own:Nat→List Nat}
theorem sliceAt_slice_run {T e:TypeId} {t:Ty} {by':Nat} (hT:TIOk P T (.slice e t by')) (w:World) (adr:Option Addr) (len cap:Nat) (lo hi:Option (IntKind×Int)) (hlc:len≤cap) {l h:Int}
  (hl:l=(optI lo).getD 0) (hh:h=(optI hi).getD len) (h0:0≤l) (h1:l≤h) (h2:h≤len) :
  (Instr.sliceAt T (.slice adr len cap) (optV lo) (optV hi) none).run P w = .ok (.slice (if cap=l.toNat then adr else adr.map (·.add (l.toNat*t.size))) (h.toNat - l.toNat) (cap - l.toNat)) w:=by
 obtain ⟨_,hu,he,_⟩:=hT
 have hb:=sliceBounds_run (P:=P) (w:=w) true len cap lo hi hlc hl hh h0 h1 h2
 unfold Instr.sliceAt Instr.slice
 simp only [Sem.run_bind,run_underlying hu,Result.andThen_ok,hb,he.size_run,Sem.run_pure]
theorem sliceAt_string_run {T:TypeId} (hT:TyOk P T .str) (w:World) (s:ByteArray) (lo hi:Option (IntKind×Int)) {l h:Int}
  (hl:l=(optI lo).getD 0) (hh:h=(optI hi).getD s.size) (h0:0≤l) (h1:l≤h) (h2:h≤s.size) :
  (Instr.sliceAt T (.string s) (optV lo) (optV hi) none).run P w = .ok (.string (s.extract l.toNat h.toNat)) w:=by
 obtain ⟨d,hd,hf⟩:=hT.und
 have hd':d = .string:=by cases d <;> simp [descFits] at hf;rfl
 subst hd'
 have hb:=sliceBounds_run (P:=P) (w:=w) false s.size s.size lo hi (Nat.le_refl _) hl hh h0 h1 h2
 unfold Instr.sliceAt Instr.slice
 simp [run_underlying hd,hb]
theorem extract_size_le (s:ByteArray) (l h:Nat):(s.extract l h).size≤s.size:=by
 rw [ByteArray.size_extract];omega
theorem rgLo_some (x y:Nat):rgLo (some (x,y))=x:=rfl
theorem rgHi_some (n x y:Nat):rgHi n (some (x,y))=y:=rfl
def SlTy (L:Heap) (ti:TI):Atom→Prop
 | .sl t _=>∃ e b,ti = .slice e t b
 | .osl r _=>∃ B,hget L r=some B∧∃ e b,ti = .slice e B.t b
 | .val (.string _)=>ti = .scal .str
 | _=>True
def LenTy (ti:TI):Atom→Prop
 | .val (.string _)=>ti = .scal .str
 | _=>∃ e t b,ti = .slice e t b
theorem sliceA_spec {T:TypeId} {ti:TI} (hT:TIOk P T ti) (hok:(∃ e t b,ti = .slice e t b)∨ti = .scal .str) {lo hi:Option (IntKind×Int)} {A A':Atom} {cs:List Prop} {u:Value} (hu:RepA w0 G L V A u)
  (hty:SlTy L ti A)
  (h:sliceA L (optI lo) (optI hi) A=some (cs,A')) (hc:All cs) :
  ∃ v,RepA w0 G L V A' v∧∀ w',(Instr.sliceAt T u (optV lo) (optV hi) none).run P w' = .ok v w':=by
 unfold sliceA at h
 split at h
 ·rename_i s
  simp only [SlTy,LenTy] at hty
  subst hty
  split at h
  rename_i cs' l h' hb
  cases h
  obtain ⟨h0,h1,h2,hl,hh⟩:=bounds_ok hb hc
  obtain ⟨rfl,hs⟩:=hu
  exact ⟨_,⟨rfl,Nat.le_trans (extract_size_le _ _ _) hs⟩,fun w'=>sliceAt_string_run hT w' s lo hi hl hh h0 h1 h2⟩
 ·rename_i t xs
  obtain ⟨e,b,rfl⟩:=hty
  split at h
  rename_i cs' l h' hb
  cases h
  obtain ⟨h0,h1,h2,hl,hh⟩:=bounds_ok hb hc
  obtain ⟨hlen,hget⟩:=subL_get hb hc
  rcases hu.2 with ⟨ad,rfl,rfl⟩ | ⟨b',off,cap,rfl,h3,h4,h5,h6⟩
  ·refine ⟨.slice ad 0 0,⟨by rw [hlen];simp at h2;unfold maxLen;omega,.inl ⟨ad,rfl,List.eq_nil_of_length_eq_zero (by rw [hlen];simp at h2;omega)⟩⟩,fun w' => ?_⟩
   simp at h2
   have e0:l=0:=by omega
   have e1:h'=0:=by omega
   subst e0 e1
   rw [sliceAt_slice_run hT w' ad 0 0 lo hi (Nat.le_refl _) hl hh h0 h1 h2]
   rfl
  ·refine ⟨_,⟨?_,.inr ⟨b',if cap=l.toNat then off else off+l.toNat*t.size,cap - l.toNat,rfl,?_,?_,h5,?_⟩⟩,fun w' => ?_⟩
   ·have:=hu.1;rw [hlen];omega
   ·rw [hlen];omega
   ·omega
   ·intro i y hy
    have hi:i<h'.toNat - l.toNat:=by rw [← hlen];exact (List.getElem?_eq_some_iff.1 hy).1
    obtain ⟨cs,hl',hc',hr'⟩:=h6 _ y (hget i y hy)
    refine ⟨cs,hl',fun j c hj => ?_,hr'⟩
    rw [if_neg (by omega)]
    have:=hc' j c hj
    rwa [Nat.add_mul, ← Nat.add_assoc] at this
   ·rw [sliceAt_slice_run hT w' _ xs.length cap lo hi h3 hl hh h0 h1 h2,hlen]
    by_cases hcl:cap=l.toNat
    ·rw [if_pos hcl,if_pos hcl]
    ·rw [if_neg hcl,if_neg hcl];simp [Addr.add_lit]
 ·rename_i r rg
  obtain ⟨B,hB,e,b,rfl⟩:=hty
  obtain ⟨B',hB',_,hs1,hs2,hs3⟩:=hu
  rw [hB] at hB';cases hB'
  rw [hB] at h
  obtain ⟨cs',l,h',hb⟩:∃ cs' l h',bounds ((rgHi B.xs.length rg - rgLo rg:Nat):Int) (optI lo) (optI hi)=(cs',l,h'):=⟨_,_,_,rfl⟩
  simp only [hb] at h
  cases h
  obtain ⟨h0,h1,h2,hl,hh⟩:=bounds_ok hb hc
  rcases hs3 with ⟨ad,ad',hV,rfl,hz⟩ | ⟨b',off,m,cap,o,c,hV,rfl,hle,hcase⟩
  ·have e2:rgHi B.xs.length rg - rgLo rg=0:=by omega
   rw [e2] at h2 hh
   have e0:l=0:=by omega
   have e1:h'=0:=by omega
   subst e0 e1
   refine ⟨_,⟨B,hB,(fun h=>by cases h),?_,?_,.inl ⟨ad,ad',hV,rfl,hz⟩⟩,fun w' => ?_⟩
   ·simp only [rgLo_some,rgHi_some];simp
   ·simp only [rgHi_some];simp;omega
   ·rw [sliceAt_slice_run hT w' ad' 0 0 lo hi (Nat.le_refl _) hl hh h0 h1 h2]
    rfl
  ·refine ⟨_,⟨B,hB,(fun h=>by cases h),?_,?_,.inr ⟨b',off,m,cap,if c=l.toNat then o else o+l.toNat*B.t.size,c - l.toNat,hV,rfl,?_,?_⟩⟩,fun w' => ?_⟩
   ·simp only [rgLo_some,rgHi_some];omega
   ·simp only [rgHi_some];omega
   ·simp only [rgLo_some,rgHi_some];omega
   ·by_cases hcl:c=l.toNat
    ·right
     refine ⟨by omega,?_⟩
     rw [if_pos hcl]
     rcases hcase with ⟨ho,hcap⟩ | ⟨_,ho⟩
     ·rw [ho]
      exact Nat.add_le_add_left (Nat.mul_le_mul_right _ (by omega)) _
     ·exact ho
    ·left
     rw [if_neg hcl]
     obtain ⟨ho,hcap⟩:=hcase.resolve_right (by omega)
     refine ⟨?_,?_⟩
     ·rw [ho];simp only [rgLo_some,Nat.add_mul,Nat.add_assoc]
     ·simp only [rgLo_some];omega
   ·rw [sliceAt_slice_run hT w' _ _ c lo hi hle hl hh h0 h1 h2]
    simp only [rgLo_some,rgHi_some]
    have e3:rgLo rg+h'.toNat - (rgLo rg+l.toNat)=h'.toNat - l.toNat:=by omega
    rw [e3]
    by_cases hcl:c=l.toNat
    ·rw [if_pos hcl,if_pos hcl]
    ·rw [if_neg hcl,if_neg hcl];simp [Addr.add_lit]
 ·cases h
theorem lenA_spec (hR:RelV n K w0 G w a E L V own) {T:TypeId} {ti:TI} (hT:TIOk P T ti) (hok:(∃ e t b,ti = .slice e t b)∨ti = .scal .str) {A:Atom} {i:Int} {u:Value} (hu:RepA w0 G L V A u) (h:lenA L A=some i)
  (hty:LenTy ti A) (ty:TypeId) :
  OkV (.int .i64 i)∧∀ w',(Builtin.len_ #[T] ty #[u]).run P w' = .ok (.int .i64 i) w':=by
 have slrun:∀ (e:TypeId) (t:Ty) (b:Nat),ti = .slice e t b→∀ (adr:Option Addr) (l c:Nat) (w':World),(Builtin.len_ #[T] ty #[.slice adr l c]).run P w' = .ok (.int .i64 l) w':=by
  rintro e t b rfl adr l c w'
  obtain ⟨_,hu,_,_⟩:=hT
  simp [Builtin.len_,run_underlying hu,goInt]
 have i64:∀ m:Nat,m≤maxLen→OkV (.int .i64 (m:Int)):=by
  intro m hm;unfold maxLen at hm;simp [OkV,InR,IntKind.min,IntKind.max,IntKind.bits,IntKind.signed];omega
 unfold lenA at h
 split at h
 ·rename_i s
  cases h
  simp only [SlTy,LenTy] at hty
  subst hty
  obtain ⟨rfl,hs⟩:=hu
  refine ⟨i64 _ hs,fun w' => ?_⟩
  obtain ⟨d,hd,hf⟩:=hT.und
  have hd':d = .string:=by cases d <;> simp [descFits] at hf;rfl
  subst hd'
  simp [Builtin.len_,run_underlying hd,goInt]
 ·cases h
  obtain ⟨e,t,b,rfl⟩:=hty
  obtain ⟨rfl,h1,h2⟩:=hu
  subst h1
  exact ⟨i64 0 (Nat.zero_le _),fun w'=>slrun e t b rfl _ _ _ w'⟩
 ·rename_i t xs
  cases h
  obtain ⟨e,t',b,rfl⟩:=hty
  refine ⟨i64 _ hu.1,fun w' => ?_⟩
  rcases hu.2 with ⟨ad,rfl,rfl⟩ | ⟨b',off,cap,rfl,_⟩
  ·exact slrun e t' b rfl _ _ _ w'
  ·exact slrun e t' b rfl _ _ _ w'
 ·rename_i r rg
  obtain ⟨e,t',b,rfl⟩:=hty
  try simp only at h
  split at h
  ·rename_i B hB
   obtain ⟨B',hB',_,hs1,hs2,hs3⟩:=hu
   rw [hB] at hB';cases hB'
   have hown:=hR.heap r B hB
   have hwf:=hown.len
   have key:i=((rgHi B.xs.length rg - rgLo rg:Nat):Int):=by
    split at h <;> cases h <;> simp [rgLo,rgHi]
   subst key
   refine ⟨i64 _ (by omega),fun w' => ?_⟩
   rcases hs3 with ⟨ad,ad',hV,rfl,hz⟩ | ⟨b',off,m,cap,o,c,hV,rfl,hle,hcase⟩
   ·have e2:rgHi B.xs.length rg - rgLo rg=0:=by omega
    rw [e2]
    exact slrun e t' b rfl _ _ _ w'
   ·exact slrun e t' b rfl _ _ _ w'
  ·cases h
 ·cases h
end
end Go.Am
namespace Go.Am
set_option linter.unusedVariables false
set_option linter.unusedSimpArgs false
def decB:(t:Ty)→Atom→Option t.den
 | .int k,.val (.int k' n)=>match decide (k=k') with | true=>some n | false=>none
 | .bool,.val (.bool b)=>some b
 | .fn,.val v=>unfn v
 | .str,.val (.string s)=>some s
 | .sl _,.val (.slice none _ _)=>some []
 | .sl e,.sl t xs=>if h:t=e then some (h ▸ xs) else none
 | .unit,.st t x=>if h:t = .unit then some () else none
 | .cons a b,.st t x=>if h:t = .cons a b then some (h ▸ x) else none
 | _,_=>none
theorem decB_spec {w:World} {G:Nat→Prop}:∀ {t:Ty} {A:Atom} {x:t.den} {v:Value},RepB w G A v→decB t A=some x→∃ cs,RepC w G t x cs∧v=valOf t cs
 | .int k,A,x,v,hr,h=>by
  cases A with
  | val u=>cases u with
   | int k' n =>
    simp only [decB] at h
    split at h
    ·rename_i hd
     have:=of_decide_eq_true hd
     cases h
     obtain ⟨rfl,ho⟩:=hr
     subst this
     exact ⟨_,⟨rfl,ho⟩,rfl⟩
    ·cases h
   | _=>cases h
  | _=>cases h
 | .bool,A,x,v,hr,h=>by
  cases A with
  | val u=>cases u with
   | bool b=>cases h;obtain ⟨rfl,ho⟩:=hr;exact ⟨_,rfl,rfl⟩
   | _=>cases h
  | _=>cases h
 | .fn,A,x,v,hr,h=>by
  cases A with
  | val u =>
   obtain ⟨rfl,ho⟩:=hr
   exact ⟨_,rfl,by rw [unfn_eq (show unfn _=some x from h)];cases x <;> rfl⟩
  | _=>cases h
 | .str,A,x,v,hr,h=>by
  cases A with
  | val u=>cases u with
   | string b=>cases h;obtain ⟨rfl,ho⟩:=hr;exact ⟨_,⟨rfl,ho⟩,rfl⟩
   | _=>cases h
  | _=>cases h
 | .sl e,A,x,v,hr,h=>by
  cases A with
  | val u=>cases u with
   | slice b n c=>cases b with
    | none =>
     cases h
     obtain ⟨rfl,h1,h2⟩:=hr
     subst h1 h2
     exact ⟨_,⟨_,rfl,Nat.zero_le _,.inl ⟨_,rfl,rfl⟩⟩,rfl⟩
    | some b=>cases h
   | _=>cases h
  | sl t xs =>
   simp only [decB] at h
   split at h
   ·rename_i ht
    subst ht
    cases h
    exact ⟨_,⟨v,rfl,hr⟩,rfl⟩
   ·cases h
  | _=>cases h
 | .unit,A,x,v,hr,h=>by
  cases A with
  | st t y =>
   simp only [decB] at h
   split at h
   ·rename_i ht
    subst ht
    cases h
    obtain ⟨cs,rfl,hc⟩:=hr
    exact ⟨cs,hc,rfl⟩
   ·cases h
  | val u=>cases u <;> cases h
  | _=>cases h
 | .cons a b,A,x,v,hr,h=>by
  cases A with
  | st t y =>
   simp only [decB] at h
   split at h
   ·rename_i ht
    subst ht
    cases h
    obtain ⟨cs,rfl,hc⟩:=hr
    exact ⟨cs,hc,rfl⟩
   ·cases h
  | val u=>cases u <;> cases h
  | _=>cases h
def setA:(t:Ty)→t.den→Nat→Atom→Option t.den
 | .cons a _,x,0,A=>match decB a A with | some y=>some (y,x.2) | none=>none
 | .cons _ b,x,n+1,A=>match setA b x.2 n A with | some y=>some (x.1,y) | none=>none
 | _,_,_,_=>none
def splice (cs:List Value) (o:Nat) (c:List Value):List Value:=cs.take o++c++cs.drop (o+c.length)
theorem setA_spec {w:World} {G:Nat→Prop} {A:Atom} {v:Value} (hA:∀ t (x:t.den),decB t A=some x→RepB w G A v):∀ {t:Ty} {x x':t.den} {n:Nat} {cs:List Value},setA t x n A=some x'→RepC w G t x cs →
  ∃ o ft c,fldOff t n=some (o,ft)∧v=valOf ft c∧(∃ y,RepC w G ft y c)∧o+ft.size≤cs.length∧RepC w G t x' (splice cs o c)
 | .cons a b,x,x',0,cs,h,hr=>by
  obtain ⟨c1,c2,rfl,h1,h2⟩:=hr
  simp only [setA] at h
  split at h
  ·rename_i y hy
   cases h
   obtain ⟨c,hc,hv⟩:=decB_spec (hA _ _ hy) hy
   refine ⟨0,a,c,rfl,hv,⟨y,hc⟩,by rw [List.length_append,h1.length];omega,c,c2,?_,hc,h2⟩
   simp [splice,hc.length, ← h1.length]
  ·cases h
 | .cons a b,x,x',n+1,cs,h,hr=>by
  obtain ⟨c1,c2,rfl,h1,h2⟩:=hr
  simp only [setA] at h
  split at h
  ·rename_i y hy
   cases h
   obtain ⟨o,ft,c,ho,hv,hl,hle,hc⟩:=setA_spec hA (t:=b) hy h2
   refine ⟨a.size+o,ft,c,by simp [fldOff,ho],hv,hl,by rw [List.length_append,h1.length];omega,c1,splice c2 o c,?_,h1,hc⟩
   simp [splice, ← h1.length,List.take_append,List.drop_append,List.take_of_length_le,Nat.add_assoc]
  ·cases h
 | .int _,_,_,_,_,h,_=>by cases h
 | .bool,_,_,_,_,h,_=>by cases h
 | .fn,_,_,_,_,h,_=>by cases h
 | .str,_,_,_,_,h,_=>by cases h
 | .sl _,_,_,_,_,h,_=>by cases h
 | .unit,_,_,_,_,h,_=>by cases h
def buildA (t:Ty):t.den→List (Nat×PV)→Option t.den
 | x,[]=>some x
 | x,(n,.a A) :: r=>match setA t x n A with | some y=>buildA t y r | none=>none
 | _,_=>none
theorem dcells_rep (w:World) (G:Nat→Prop):∀ t:Ty,RepC w G t t.dflt (dcells t)
 | .int k=>⟨rfl,by cases k <;> simp [InR,IntKind.min,IntKind.max,IntKind.bits,IntKind.signed,Ty.dflt]⟩
 | .bool=>rfl
 | .fn=>rfl
 | .str=>⟨rfl,Nat.zero_le _⟩
 | .sl e=>⟨_,rfl,Nat.zero_le _,.inl ⟨_,rfl,rfl⟩⟩
 | .unit=>rfl
 | .cons a b=>⟨_,_,rfl,dcells_rep w G a,dcells_rep w G b⟩
theorem fill_splice (cells:Array Value) (off:Nat) (c:List Value) (h:off+c.length≤cells.size) :
  (c.toArray.zipIdx.foldl (fun cs (x:Value×Nat)=>cs.setIfInBounds (off+x.2) x.1) cells).toList=splice cells.toList off c:=by
 have key:∀ (c:List Value) (k:Nat) (cells:Array Value),off+k+c.length≤cells.size →
   ((c.zipIdx k).foldl (fun cs (x:Value×Nat)=>cs.setIfInBounds (off+x.2) x.1) cells).toList=cells.toList.take (off+k)++c++cells.toList.drop (off+k+c.length):=by
  intro c
  induction c with
  | nil=>intro k cells h;simp
  | cons v r ih =>
   intro k cells h
   simp only [List.length_cons] at h
   simp only [List.zipIdx_cons,List.foldl_cons]
   rw [ih (k+1) _ (by simp;omega)]
   simp only [Array.toList_setIfInBounds]
   have h1:off+(k+1)=off+k+1:=by omega
   have hlt:off+k<cells.toList.length:=by rw [Array.length_toList];omega
   rw [h1,List.take_add_one]
   simp only [List.getElem?_set_self hlt,Option.toList_some,List.append_assoc,List.cons_append,List.nil_append,List.length_cons]
   rw [List.take_set_of_le (Nat.le_refl _),List.drop_set_of_lt (by omega)]
   rw [show off+k+1+r.length=off+k+(r.length+1) from by omega]
 have:=key c 0 cells (by simpa using h)
 simpa [splice] using this
section
variable {P:Program}
theorem fill_step (place:Nat→Option (Nat×Nat)) (cells:List Value) (n o:Nat) (v:Value) (c:List Value) (sz:Nat) (rest:List (Nat×Value)) (hp:place n=some (o,sz)) (hv:v.cells.toList=c) (hl:c.length=sz) (hle:o+sz≤cells.length) :
  Instr.fill place cells.toArray ((n,v) :: rest)=Instr.fill place (splice cells o c).toArray rest:=by
 have hs:v.cells.size=sz:=by rw [← Array.length_toList,hv,hl]
 have hcs:v.cells=c.toArray:=by rw [← hv]
 simp only [Instr.fill,hp,hs]
 rw [if_neg (by simp;omega)]
 congr 1
 rw [hcs]
 have h3:=fill_splice cells.toArray o c (by simp;omega)
 have h4:=congrArg List.toArray h3
 simpa using h4
theorem valOf_cells {t:Ty} {cs:List Value} {w:World} {G:Nat→Prop} {x:t.den} (h:RepC w G t x cs):(valOf t cs).cells.toList=cs:=by
 unfold valOf
 by_cases ha:t.agg=true
 ·rw [if_pos ha];simp [Value.cells]
 ·rw [if_neg ha]
  have h1:t.size=1:=by cases t <;> simp_all [Ty.agg,Ty.size]
  have hl:=h.length
  rw [h1] at hl
  match cs,hl with
  | [c],_ =>
   cases t with
   | int k=>obtain ⟨h,_⟩:=h;cases h;rfl
   | bool=>cases h;rfl
   | fn=>cases h;cases x <;> rfl
   | str=>obtain ⟨h,_⟩:=h;cases h;rfl
   | sl e =>
    obtain ⟨v,h,h2⟩:=h
    cases h
    rcases h2.2 with ⟨_,rfl,_⟩ | ⟨b,off,cap,rfl,_⟩ <;> rfl
   | unit=>simp [Ty.agg] at ha
   | cons a b=>simp [Ty.agg] at ha
def PartsRep (w:World) (G:Nat→Prop):List (Nat×PV)→List (Nat×Value)→Prop
 | [],vs=>vs=[]
 | p :: r,vs=>∃ v s,vs=(p.1,v) :: s∧(∀ A,p.2 = .a A→∀ t (x:t.den),decB t A=some x→RepB w G A v)∧PartsRep w G r s
theorem buildA_spec {w:World} {G:Nat→Prop} {t:Ty} {place:Nat→Option (Nat×Nat)} (hpl:∀ n o ft,fldOff t n=some (o,ft)→place n=some (o,ft.size)) :
  ∀ {parts:List (Nat×PV)} {vs:List (Nat×Value)} {x x':t.den} {cs:List Value},buildA t x parts=some x'→PartsRep w G parts vs→RepC w G t x cs →
  ∃ cs',Instr.fill place cs.toArray vs=some cs'.toArray∧RepC w G t x' cs'
 | [],vs,x,x',cs,h,hv,hr=>by
  cases hv;cases h
  exact ⟨cs,rfl,hr⟩
 | (n,.a A) :: r,vs,x,x',cs,h,hv,hr=>by
  obtain ⟨v,s,rfl,h1,h2⟩:=hv
  simp only [buildA] at h
  split at h
  ·rename_i y hy
   obtain ⟨o,ft,c,ho,hvc,⟨z,hz⟩,hle,hrep⟩:=setA_spec (h1 A rfl) hy hr
   obtain ⟨cs',hf,hr'⟩:=buildA_spec hpl h h2 hrep
   refine ⟨cs',?_,hr'⟩
   rw [fill_step place cs n o v c ft.size s (hpl n o ft ho) (by rw [hvc];exact valOf_cells hz) hz.length hle]
   exact hf
  ·cases h
 | (_,.tup _) :: _,_,_,_,_,h,_,_=>by cases h
 | (_,.fn _ _) :: _,_,_,_,_,h,_,_=>by cases h
theorem mapM_run {α β:Type} {w:World} (f:α→Sem β) (g:α→β):∀ (l:List α),(∀ x∈l,(f x).run P w = .ok (g x) w)→(l.mapM f).run P w = .ok (l.map g) w
 | [],_=>by simp
 | x :: r,h=>by
  rw [List.mapM_cons]
  simp only [Sem.run_bind,h x (List.mem_cons_self ..),Result.andThen_ok,mapM_run f g r (fun y hy=>h y (List.mem_cons_of_mem _ hy)),Sem.run_pure,List.map_cons]
theorem fieldsOk_size:∀ {fs:List Field} {t:Ty} {o:Nat},FieldsOk P fs t o→∀ f∈fs,∃ ft,TyOk P f.type ft
 | f :: fs,.cons a b,o,h,g,hg=>by
  rcases List.mem_cons.1 hg with rfl | hg
  ·exact ⟨a,h.2.1⟩
  ·exact fieldsOk_size h.2.2.2 g hg
 | [],.unit,_,_,_,hg=>by cases hg
 | [],.int _,_,h,_,_=>h.elim
 | [],.bool,_,h,_,_=>h.elim
 | [],.fn,_,h,_,_=>h.elim
 | [],.str,_,h,_,_=>h.elim
 | [],.sl _,_,h,_,_=>h.elim
 | [],.cons _ _,_,h,_,_=>h.elim
 | _ :: _,.int _,_,h,_,_=>h.elim
 | _ :: _,.bool,_,h,_,_=>h.elim
 | _ :: _,.fn,_,h,_,_=>h.elim
 | _ :: _,.str,_,h,_,_=>h.elim
 | _ :: _,.sl _,_,h,_,_=>h.elim
 | _ :: _,.unit,_,h,_,_=>h.elim
theorem build_run {T:TypeId} {t:Ty} (hT:TIOk P T (.struct t)) (ha:t.agg=true) {w0:World} {G:Nat→Prop} {parts:List (Nat×PV)} {vs:List (Nat×Value)} {x:t.den}
  (h:buildA t t.dflt parts=some x) (hv:PartsRep w0 G parts vs):∃ cs,RepC w0 G t x cs∧∀ w:World,(Instr.build T vs.toArray).run P w = .ok (.agg cs.toArray) w:=by
 obtain ⟨ht,fs,hu,hfs,_⟩:=hT
 let place:Nat→Option (Nat×Nat):=fun i=>(fs.toList.map fun f=>(f.offset,P.cellsOf f.type)).toArray[i]?
 have hcell:∀ {T:TypeId} {t:Ty},TyOk P T t→P.cellsOf T=t.size:=fun {T t} h=>by
  obtain ⟨i,hi,hs,_⟩:=h.info
  simp [Program.cellsOf,hi,hs]
 have hpl:∀ n o ft,fldOff t n=some (o,ft)→place n=some (o,ft.size):=fun n o ft hf=>by
  obtain ⟨f,h1,h2,h3,_⟩:=fields_get hfs hf
  simp only [place,List.getElem?_toArray,List.getElem?_map,h1,Option.map_some,h2,hcell h3,Nat.zero_add]
 obtain ⟨cs,hf,hr⟩:=buildA_spec hpl h hv (dcells_rep w0 G t)
 refine ⟨cs,hr,fun w => ?_⟩
 unfold Instr.build
 have hz:(valOf t (dcells t)).cells=(dcells t).toArray:=by
  have h5:=congrArg List.toArray (valOf_cells (dcells_rep w0 G t))
  simpa using h5
 have hm:(fs.mapM fun f=>do pure (f.offset, ← sizeOf f.type):Sem (Array (Nat×Nat))).run P w = .ok (fs.toList.map fun f=>(f.offset,P.cellsOf f.type)).toArray w:=by
  rw [Array.mapM_eq_mapM_toList]
  simp only [Sem.run_map]
  rw [mapM_run _ (fun f=>(f.offset,P.cellsOf f.type)) fs.toList (fun f hf=>by
   obtain ⟨ft,h⟩:=fieldsOk_size hfs f hf
   simp [h.size_run,hcell h])]
  rfl
 simp only [Sem.run_bind,ht.zero_run,Result.andThen_ok,run_underlying hu,hm,hz]
 have hf':Instr.fill (fun x=>(fs.toList.map fun f=>(f.offset,P.cellsOf f.type)).toArray[x]?) (dcells t).toArray vs=some cs.toArray:=hf
 rw [hf']
 rfl
end
end Go.Am
namespace Go.Am
set_option linter.unusedVariables false
set_option linter.unusedSimpArgs false
def okLeaf:Value→Bool
 | .int _ _=>true
 | .bool _=>true
 | .string _=>true
 | .nilFunc=>true
 | .func _ _ _=>true
 | .slice none _ _=>true
 | _=>false
def bLs:(t:Ty)→t.den→List Leaf
 | .int k,n=>[.val (.int k n)]
 | .bool,b=>[.val (.bool b)]
 | .fn,f=>[.val (fnV f)]
 | .str,s=>[.val (.string s)]
 | .sl e,xs=>[.sl e xs]
 | .unit,_=>[]
 | .cons a b,x=>bLs a x.1++bLs b x.2
def zLs:Ty→List Leaf
 | .int k=>[.val (.int k 0)]
 | .bool=>[.val (.bool false)]
 | .fn=>[.val .nilFunc]
 | .str=>[.val (.string ByteArray.empty)]
 | .sl _=>[.val (.slice none 0 0)]
 | .unit=>[]
 | .cons a b=>zLs a++zLs b
def lsOf (t:Ty):Atom→Option (List Leaf)
 | .val v=>match decB t (.val v),okLeaf v && !t.agg with
  | some _,true=>some [.val v]
  | _,_=>none
 | .sl t' xs=>match t with
  | .sl e=>if h:t'=e then some [.sl t' xs] else none
  | _=>none
 | .osl r rg=>match t with
  | .sl e=>some [.osl r rg]
  | _=>none
 | .rcd t' ls=>match decide (t'=t),t.agg with
  | true,true=>some ls
  | _,_=>none
 | .st t' x=>match decide (t'=t),t.agg with
  | true,true=>some (bLs t' x)
  | _,_=>none
 | _=>none
def spliceL (ls:List Leaf) (o:Nat) (l:List Leaf):List Leaf:=ls.take o++l++ls.drop (o+l.length)
def buildLs (t:Ty):List Leaf→List (Nat×PV)→Option (List Leaf)
 | ls,[]=>some ls
 | ls,(n,.a A) :: r=>match fldOff t n with
  | some (o,ft)=>match lsOf ft A with
   | some l=>buildLs t (spliceL ls o l) r
   | none=>none
  | none=>none
 | _,_=>none
section
variable {P:Program} {n:Nat} {K:Ctx} {G:Nat→Prop} {w0 w:World} {a:Act} {E:Env} {L:Heap} {V:Nat→Value} {own:Nat→List Nat}
theorem SlAt.one {α:Type} {R:α→List Value→Prop} {sz:Nat} {xs:List α} {v:Value} (h:SlAt w G R sz xs v):v.oneCell'=true:=by
 rcases h.2 with ⟨_,rfl,_⟩ | ⟨b,off,cap,rfl,_⟩ <;> rfl
theorem RepO.one {r:Nat} {rg:Option (Nat×Nat)} {v:Value} (h:RepO L V r rg v):v.oneCell'=true:=by
 obtain ⟨A,_,_,_,_,h⟩:=h
 rcases h with ⟨_,_,_,rfl,_⟩ | ⟨b,off,m,cap,o,c,_,rfl,_⟩ <;> rfl
theorem RepL.one {l:Leaf} {v:Value} (h:RepL w0 G L V l v):v.oneCell'=true:=by
 cases l with
 | val u=>obtain ⟨rfl,_,h⟩:=h;exact h
 | sl t xs=>exact SlAt.one h
 | osl r rg=>exact RepO.one h
 | junk=>exact h
theorem RepLs.one:∀ {ls:List Leaf} {cs:List Value},RepLs w0 G L V ls cs→∀ c∈cs,c.oneCell'=true
 | [],_,h,c,hc=>by cases h;cases hc
 | _ :: _,_,⟨v,r,h,h1,h2⟩,c,hc=>by
  subst h
  rcases List.mem_cons.1 hc with rfl | hc
  ·exact h1.one
  ·exact h2.one c hc
theorem repLs_append:∀ {ls ms:List Leaf} {cs ds:List Value},RepLs w0 G L V ls cs→RepLs w0 G L V ms ds→RepLs w0 G L V (ls++ms) (cs++ds)
 | [],_,_,_,h,h2=>by cases h;exact h2
 | _ :: _,_,_,_,⟨v,r,h,h1,h3⟩,h2=>by subst h;exact ⟨v,_,rfl,h1,repLs_append h3 h2⟩
theorem okLeaf_one {v:Value} (h:okLeaf v=true):v.oneCell'=true:=by
 unfold okLeaf at h
 split at h <;> first | rfl | cases h
theorem bLs_length:∀ {t:Ty} {x:t.den},(bLs t x).length=t.size
 | .int _,_=>rfl
 | .bool,_=>rfl
 | .fn,_=>rfl
 | .str,_=>rfl
 | .sl _,_=>rfl
 | .unit,_=>rfl
 | .cons a b,x=>by simp [bLs,Ty.size,bLs_length]
theorem bLs_rep:∀ {t:Ty} {x:t.den} {cs:List Value},RepC w0 G t x cs→RepLs w0 G L V (bLs t x) cs
 | .int _,_,_,h=>by obtain ⟨rfl,h⟩:=h;exact ⟨_,_,rfl,⟨rfl,h,rfl⟩,rfl⟩
 | .bool,_,_,h=>by cases h;exact ⟨_,_,rfl,⟨rfl,trivial,rfl⟩,rfl⟩
 | .fn,x,_,h=>by cases h;exact ⟨_,_,rfl,⟨rfl,fnV_ok x,fnV_one x⟩,rfl⟩
 | .str,_,_,h=>by obtain ⟨rfl,h⟩:=h;exact ⟨_,_,rfl,⟨rfl,h,rfl⟩,rfl⟩
 | .sl _,_,_,h=>by obtain ⟨v,rfl,h⟩:=h;exact ⟨_,_,rfl,h,rfl⟩
 | .unit,_,_,h=>h
 | .cons a b,x,_,h=>by
  obtain ⟨c1,c2,rfl,h1,h2⟩:=h
  exact repLs_append (bLs_rep h1) (bLs_rep h2)
theorem zLs_length:∀ {t:Ty},(zLs t).length=t.size
 | .int _=>rfl
 | .bool=>rfl
 | .fn=>rfl
 | .str=>rfl
 | .sl _=>rfl
 | .unit=>rfl
 | .cons a b=>by simp [zLs,Ty.size,zLs_length (t:=a),zLs_length (t:=b)]
theorem zLs_rep:∀ {t:Ty},RepLs w0 G L V (zLs t) (dcells t)
 | .int k=>⟨_,_,rfl,⟨rfl,(dcells_rep w0 G (.int k)).2,rfl⟩,rfl⟩
 | .bool=>⟨_,_,rfl,⟨rfl,trivial,rfl⟩,rfl⟩
 | .fn=>⟨_,_,rfl,⟨rfl,trivial,rfl⟩,rfl⟩
 | .str=>⟨_,_,rfl,⟨rfl,Nat.zero_le _,rfl⟩,rfl⟩
 | .sl _=>⟨_,_,rfl,⟨rfl,⟨rfl,rfl⟩,rfl⟩,rfl⟩
 | .unit=>rfl
 | .cons a b=>repLs_append zLs_rep zLs_rep
theorem lsOf_rep {t:Ty} {A:Atom} {v:Value} {ls:List Leaf} (hA:RepA w0 G L V A v) (h:lsOf t A=some ls) :
  ∃ cs,v=valOf t cs∧ls.length=t.size∧cs.length=t.size∧RepLs w0 G L V ls cs∧v.cells.toList=cs:=by
 cases A with
 | val u =>
  simp only [lsOf] at h
  split at h
  ·rename_i x hd hk
   simp only [Bool.and_eq_true,Bool.not_eq_true'] at hk
   cases h
   obtain ⟨cs,hc,hv⟩:=decB_spec (w:=w0) (G:=G) (A := .val u) hA hd
   have h1:t.size=1:=by cases t <;> simp_all [Ty.agg,Ty.size]
   have hl:=hc.length
   have hcells:=valOf_cells hc
   rw [h1] at hl
   have hvc:cs=[v]:=by
    match cs,hl with
    | [c],_=>rw [hv,valOf,if_neg (by rw [hk.2];simp)];rfl
   refine ⟨cs,hv,by rw [h1];rfl,by rw [h1];exact hl,?_,by rw [hv];exact hcells⟩
   rw [hvc]
   obtain ⟨rfl,ho⟩:=hA
   exact ⟨_,_,rfl,⟨rfl,ho,okLeaf_one hk.1⟩,rfl⟩
  ·cases h
 | sl t' xs =>
  simp only [lsOf] at h
  split at h
  ·split at h
   ·rename_i e ht
    subst ht
    cases h
    refine ⟨[v],rfl,rfl,rfl,⟨_,_,rfl,hA,rfl⟩,?_⟩
    have hA:SlAt w0 G (RepC w0 G t') t'.size xs v:=hA
    rcases hA.2 with ⟨_,rfl,_⟩ | ⟨b,off,cap,rfl,_⟩ <;> rfl
   ·cases h
  ·cases h
 | osl r rg =>
  simp only [lsOf] at h
  split at h
  ·cases h
   refine ⟨[v],rfl,rfl,rfl,⟨_,_,rfl,hA,rfl⟩,?_⟩
   obtain ⟨A,_,_,_,_,hA⟩:=hA
   rcases hA with ⟨_,_,_,rfl,_⟩ | ⟨b,off,m,cap,o,c,_,rfl,_⟩ <;> rfl
  ·cases h
 | rcd t' ls' =>
  simp only [lsOf] at h
  split at h
  ·rename_i ht ha
   obtain rfl:=of_decide_eq_true ht
   cases h
   obtain ⟨cs,rfl,hl,hr⟩:=hA
   exact ⟨cs,by rw [valOf,if_pos ha],hl,by rw [repLs_len hr,hl],hr,by simp [Value.cells]⟩
  ·cases h
 | st t' x =>
  simp only [lsOf] at h
  split at h
  ·rename_i ht ha
   obtain rfl:=of_decide_eq_true ht
   cases h
   obtain ⟨cs,rfl,hr⟩:=hA
   exact ⟨cs,by rw [valOf,if_pos ha],bLs_length,hr.length,bLs_rep hr,by simp [Value.cells]⟩
  ·cases h
 | _=>cases h
theorem spliceL_rep {ls l:List Leaf} {cs c:List Value} {o:Nat} (h:RepLs w0 G L V ls cs) (h1:RepLs w0 G L V l c):RepLs w0 G L V (spliceL ls o l) (splice cs o c):=by
 unfold spliceL splice
 rw [repLs_len h1]
 exact repLs_append (repLs_append (repLs_take _ h) h1) (repLs_drop _ h)
theorem spliceL_length {ls l:List Leaf} {o:Nat} (h:o+l.length≤ls.length):(spliceL ls o l).length=ls.length:=by
 simp [spliceL];omega
theorem buildLs_spec {t:Ty} {place:Nat→Option (Nat×Nat)} (hpl:∀ n o ft,fldOff t n=some (o,ft)→place n=some (o,ft.size)) (hR:RelV n K w0 G w a E L V own) :
  ∀ {parts:List (Nat×Operand)} {ls ls':List Leaf} {cs:List Value},buildLs t ls (parts.map fun p=>(p.1,opnd E p.2))=some ls'→ls.length=t.size→RepLs w0 G L V ls cs →
  ∃ cs',Instr.fill place cs.toArray (parts.map fun p=>(p.1,a.eval p.2))=some cs'.toArray∧ls'.length=t.size∧RepLs w0 G L V ls' cs'
 | [],ls,ls',cs,h,hl,hr=>by cases h;exact ⟨cs,rfl,hl,hr⟩
 | p :: r,ls,ls',cs,h,hl,hr=>by
  simp only [List.map_cons] at h ⊢
  cases hp:opnd E p.2 with
  | a A =>
   rw [hp] at h
   simp only [buildLs] at h
   split at h
   ·rename_i o ft ho
    split at h
    ·rename_i l hls
     obtain ⟨c,e1,e2,e3,e4,e5⟩:=lsOf_rep (hR.atom hp) hls
     have hle:=fldOff_le ho
     have hcl:=repLs_len hr
     obtain ⟨cs',f1,f2,f3⟩:=buildLs_spec hpl hR h (by rw [spliceL_length (by omega)];exact hl) (spliceL_rep hr e4)
     refine ⟨cs',?_,f2,f3⟩
     rw [fill_step place cs p.1 o (a.eval p.2) c ft.size _ (hpl _ _ _ ho) e5 e3 (by omega)]
     exact f1
    ·cases h
   ·cases h
  | tup _=>rw [hp] at h;cases h
  | fn _ _=>rw [hp] at h;cases h
theorem buildLs_run {T:TypeId} {t:Ty} (hT:TIOk P T (.struct t)) (hR:RelV n K w0 G w a E L V own) {parts:List (Nat×Operand)} {ls:List Leaf}
  (h:buildLs t (zLs t) (parts.map fun p=>(p.1,opnd E p.2))=some ls):∃ cs,ls.length=t.size∧RepLs w0 G L V ls cs∧∀ w':World,(Instr.build T (parts.map fun p=>(p.1,a.eval p.2)).toArray).run P w' = .ok (.agg cs.toArray) w':=by
 obtain ⟨ht,fs,hu,hfs,_⟩:=hT
 let place:Nat→Option (Nat×Nat):=fun i=>(fs.toList.map fun f=>(f.offset,P.cellsOf f.type)).toArray[i]?
 have hcell:∀ {T:TypeId} {t:Ty},TyOk P T t→P.cellsOf T=t.size:=fun {T t} h=>by
  obtain ⟨i,hi,hs,_⟩:=h.info
  simp [Program.cellsOf,hi,hs]
 have hpl:∀ n o ft,fldOff t n=some (o,ft)→place n=some (o,ft.size):=fun n o ft hf=>by
  obtain ⟨f,h1,h2,h3,_⟩:=fields_get hfs hf
  simp only [place,List.getElem?_toArray,List.getElem?_map,h1,Option.map_some,h2,hcell h3,Nat.zero_add]
 obtain ⟨cs,hf,hl,hr⟩:=buildLs_spec hpl hR h zLs_length zLs_rep
 refine ⟨cs,hl,hr,fun w' => ?_⟩
 unfold Instr.build
 have hz:(valOf t (dcells t)).cells=(dcells t).toArray:=by
  have h5:=congrArg List.toArray (valOf_cells (dcells_rep w0 G t))
  simpa using h5
 have hm:(fs.mapM fun f=>do pure (f.offset, ← sizeOf f.type):Sem (Array (Nat×Nat))).run P w' = .ok (fs.toList.map fun f=>(f.offset,P.cellsOf f.type)).toArray w':=by
  rw [Array.mapM_eq_mapM_toList]
  simp only [Sem.run_map]
  rw [mapM_run _ (fun f=>(f.offset,P.cellsOf f.type)) fs.toList (fun f hf=>by
   obtain ⟨ft,h⟩:=fieldsOk_size hfs f hf
   simp [h.size_run,hcell h])]
  rfl
 simp only [Sem.run_bind,ht.zero_run,Result.andThen_ok,run_underlying hu,hm,hz]
 have hf':Instr.fill (fun x=>(fs.toList.map fun f=>(f.offset,P.cellsOf f.type)).toArray[x]?) (dcells t).toArray (parts.map fun p=>(p.1,a.eval p.2))=some cs.toArray:=hf
 rw [hf']
 rfl
end
end Go.Am
namespace Go.Am
set_option linter.unusedVariables false
set_option linter.unusedSimpArgs false
def nthA:List Atom→Nat→Option Atom
 | [],_=>none
 | a :: _,0=>some a
 | _ :: r,n+1=>nthA r n
def atomsOf (E:Env):List Operand→Option (List Atom)
 | []=>some []
 | x :: r=>match opnd E x,atomsOf E r with
  | .a A,some s=>some (A :: s)
  | _,_=>none
def bytesStr (xs:List Int):ByteArray:=xs.foldl (fun r n=>r.push (UInt8.ofNat n.toNat)) ByteArray.empty
def slOk (L:Heap) (ti:TI):Atom→Bool
 | .val (.string _)=>match ti with | .scal .str=>true | _=>false
 | .sl t _=>match ti with | .slice _ t' _=>decide (t=t') | _=>false
 | .osl r _=>match hget L r,ti with | some A,.slice _ t' _=>decide (A.t=t') | _,_=>false
 | _=>false
def isSl:TI→Bool
 | .slice _ _ _=>true
 | _=>false
def lenOk (ti:TI):Atom→Bool
 | .val (.string _)=>match ti with | .scal .str=>true | _=>false
 | _=>isSl ti
def intO (E:Env):Option Operand→Option (Option Int)
 | none=>some none
 | some x=>match opnd E x with | .a (.val (.int _ n))=>some (some n) | _=>none
def cmpV (isMax:Bool) (x y:Int):Int:=match isMax with | true=>if x<y then y else x | false=>if y<x then y else x
def builtinA (tab:List TI) (L:Heap) (b:Builtin) (args:List PV) (ts:List TypeId):Option (List Prop×PV) :=
 match b,args,ts with
 | .len,[.a A],[T]=>match lenOk (tabGet tab T) A,lenA L A with
  | true,some i=>some ([],.a (.val (.int .i64 i)))
  | _,_=>none
 | .min,[.a (.val (.int k x)),.a (.val (.int k' y))],_=>match decide (k=k') with
  | true=>some ([],.a (.val (.int k (cmpV false x y))))
  | false=>none
 | .max,[.a (.val (.int k x)),.a (.val (.int k' y))],_=>match decide (k=k') with
  | true=>some ([],.a (.val (.int k (cmpV true x y))))
  | false=>none
 | _,_,_=>none
def binA (tab:List TI) (wr:Bool) (op:BinOp) (T:TypeId):PV→PV→Option (List Prop×PV)
 | .a (.val (.bool a)),.a (.val (.bool b))=>match tabGet tab T,op with
  | .scal .bool,.eql=>some ([],.a (.val (.bool (a==b))))
  | .scal .bool,.neq=>some ([],.a (.val (.bool (!(a==b)))))
  | _,_=>none
 | .a (.val u),.a (.val v)=>match binV wr op u v with
  | some (cs,r)=>some (cs,.a (.val r))
  | none=>none
 | .a (.st t x),.a (.st t' y)=>match tabGet tab T,op with
  | .struct u,.eql=>if h:t=u then if h':t'=u then (match u.flat with | true=>some ([],.a (.val (.bool (eqD u (h ▸ x) (h' ▸ y))))) | false=>none) else none else none
  | .struct u,.neq=>if h:t=u then if h':t'=u then (match u.flat with | true=>some ([],.a (.val (.bool (!eqD u (h ▸ x) (h' ▸ y))))) | false=>none) else none else none
  | _,_=>none
 | _,_=>none
def unA (wr:Bool) (op:UnOp):PV→Option (List Prop×PV)
 | .a (.val (.bool b))=>match op with | .not=>some ([],.a (.val (.bool (!b)))) | _=>none
 | .a (.val (.int k n))=>match op,wr with
  | .neg,true=>some ([],.a (.val (.int k (k.wrap (0 - n)))))
  | .neg,false=>some ([InR k (0 - n)],.a (.val (.int k (0 - n))))
  | _,_=>none
 | _=>none
def convA (tab:List TI) (wr:Bool) (L:Heap) (src dst:TypeId):PV→Option (List Prop×PV)
 | .a (.val (.int _ n))=>match tabGet tab src,tabGet tab dst,wr with
  | .scal (.int _),.scal (.int k),true=>some ([],.a (.val (.int k (k.wrap n))))
  | .scal (.int _),.scal (.int k),false=>some ([InR k n],.a (.val (.int k n)))
  | _,_,_=>none
 | _=>none
def isLoad:Op→Bool
 | .load _ _=>true
 | _=>false
def absQ (tab:List TI) (wr:Bool) (E:Env) (L:Heap):Op→Option (List Prop×PV)
 | .move x | .assign x=>some ([],opnd E x)
 | .nilCheck x=>match opnd E x with
  | .a (.ptr t y)=>some ([],.a (.ptr t y))
  | .a (.optr r i p)=>some ([],.a (.optr r i p))
  | .a (.bptr r o t)=>some ([],.a (.bptr r o t))
  | .fn f cs=>some ([],.fn f cs)
  | _=>none
 | .binOp op T x y _=>binA tab wr op T (opnd E x) (opnd E y)
 | .unOp op _ x=>unA wr op (opnd E x)
 | .convert s d x=>convA tab wr L s d (opnd E x)
 | .extract x i=>match opnd E x with
  | .tup xs=>match nthA xs i with | some A=>some ([],.a A) | none=>none
  | _=>none
 | .makeFunc (.func f) first caps=>match first.toList,atomsOf E caps.toList with
  | [],some ats=>some ([],.fn f ats)
  | _,_=>none
 | .load T x=>match opnd E x,(tabGet tab T).ty with
  | .a A,some t=>match loadA L t A with | some B=>some ([],.a B) | none=>none
  | _,_=>none
 | .fieldAddr S x f=>match opnd E x,tabGet tab S with
  | .a A,.struct t=>match fldAddrA L t f A with | some B=>some ([],.a B) | none=>none
  | _,_=>none
 | .field S x f=>match opnd E x,tabGet tab S with
  | .a A,.struct t=>match fieldA t f A with | some B=>some ([],.a B) | none=>none
  | _,_=>none
 | .indexAddr T x i=>match opnd E x,opnd E i,tabGet tab T with
  | .a A,.a (.val (.int _ n)),.slice _ t _=>match idxAddrA L t n A with | some (cs,B)=>some (cs,.a B) | none=>none
  | _,_,_=>none
 | .index T x i=>match opnd E x,opnd E i,tabGet tab T with
  | .a (.val (.string s)),.a (.val (.int _ n)),.scal .str=>some ([0≤n,n<(s.size:Int)],.a (.val (.int .u8 (byteAt s n))))
  | _,_,_=>none
 | .slice T x lo hi none=>match opnd E x,intO E lo,intO E hi with
  | .a A,some l,some h=>match slOk L (tabGet tab T) A,sliceA L l h A with
   | true,some (cs,B)=>some (cs,.a B)
   | _,_=>none
  | _,_,_=>none
 | .build T parts=>match tabGet tab T with
  | .struct t=>match t.agg,buildA t t.dflt (parts.toList.map fun p=>(p.1,opnd E p.2)) with
   | true,some x=>match t.flat,buildLs t (zLs t) (parts.toList.map fun p=>(p.1,opnd E p.2)) with
    | false,some ls=>match hasSl ls with
     | false=>some ([],.a (.rcd t ls))
     | true=>some ([],.a (.st t x))
    | _,_=>some ([],.a (.st t x))
   | _,_=>match buildLs t (zLs t) (parts.toList.map fun p=>(p.1,opnd E p.2)) with
    | some ls=>some ([],.a (.rcd t ls))
    | none=>none
  | _=>none
 | .call { callee := .builtin b,args,argTypes }=>builtinA tab L b (args.toList.map (opnd E)) argTypes.toList
 | _=>none
section
variable {P:Program} {n:Nat} {K:Ctx} {G:Nat→Prop} {w0 w:World} {a:Act} {E:Env} {L:Heap} {V:Nat→Value} {own:Nat→List Nat}
theorem run_value (s:Sem Value) (v:Value) (w w':World) (h:s.run P w = .ok v w'):(do pure (Next.value (← s)):Sem Next).run P w = .ok (.value v) w':=by
 simp [h]
theorem TI.ty_ok {T:TypeId} {ti:TI} {t:Ty} (h:TIOk P T ti) (ht:ti.ty=some t):TyOk P T t:=by
 cases ti <;> cases ht
 ·exact h
 ·exact h.1
 ·exact h.1
theorem TyOk.int_und {T:TypeId} {k:IntKind} (h:TyOk P T (.int k)):P.underlying T=some (.int k):=by
 obtain ⟨d,hd,hf⟩:=h.und
 cases d <;> simp [descFits] at hf
 subst hf
 exact hd
theorem TyOk.bool_und {T:TypeId} (h:TyOk P T .bool):P.underlying T=some .bool:=by
 obtain ⟨d,hd,hf⟩:=h.und
 cases d <;> simp [descFits] at hf
 exact hd
theorem TyOk.str_und {T:TypeId} (h:TyOk P T .str):P.underlying T=some .string:=by
 obtain ⟨d,hd,hf⟩:=h.und
 cases d <;> simp [descFits] at hf
 exact hd
theorem flat_lists {G:Nat→Prop}:∀ (t:Ty),
  (∀ T d x y c1 c2 w,wrapE P t.agg T (eqB P t)=true→dep t≤d→RepC w0 G t x c1→RepC w0 G t y c2→(Op.equalIn (d+1) T (valOf t c1) (valOf t c2)).run P w = .ok (eqD t x y) w) ∧
  (∀ fs o d x y (xs ys:List Value) w,eqB P t (.inr (fs,o))=true→dep t≤d→RepC w0 G t x (xs.drop o)→RepC w0 G t y (ys.drop o)→o+t.size≤xs.length→o+t.size≤ys.length →
   (Op.eqFields d xs.toArray ys.toArray fs).run P w = .ok (eqD t x y) w)
 | .int k=>by
  refine ⟨fun T d x y c1 c2 w h _ h1 h2 => ?_,fun fs o d x y xs ys w h=>by simp [eqB] at h⟩
  have hu:=isIntB_eq (by simpa [wrapE,Ty.agg,eqB] using h)
  obtain ⟨rfl,_⟩:=h1
  obtain ⟨rfl,_⟩:=h2
  exact run_equalIn_int w d T k k x y hu
 | .bool=>by
  refine ⟨fun T d x y c1 c2 w h _ h1 h2 => ?_,fun fs o d x y xs ys w h=>by simp [eqB] at h⟩
  have hu:=isBoolB_eq (by simpa [wrapE,Ty.agg,eqB] using h)
  have h1:c1=[.bool x]:=h1
  have h2:c2=[.bool y]:=h2
  subst h1 h2
  exact run_equalIn_bool' w d T x y hu
 | .fn=>⟨fun T d x y c1 c2 w h=>by simp [wrapE,Ty.agg,eqB] at h,fun fs o d x y xs ys w h=>by simp [eqB] at h⟩
 | .str=>by
  refine ⟨fun T d x y c1 c2 w h _ h1 h2 => ?_,fun fs o d x y xs ys w h=>by simp [eqB] at h⟩
  have hu:=isStrB_eq (by simpa [wrapE,Ty.agg,eqB] using h)
  obtain ⟨rfl,_⟩:=h1
  obtain ⟨rfl,_⟩:=h2
  exact run_equalIn_string w d T x y hu
 | .sl e=>⟨fun T d x y c1 c2 w h=>by simp [wrapE,Ty.agg,eqB] at h,fun fs o d x y xs ys w h=>by simp [eqB] at h⟩
 | .unit=>by
  have hB:∀ fs o d x y (xs ys:List Value) w,eqB P .unit (.inr (fs,o))=true→(Op.eqFields d xs.toArray ys.toArray fs).run P w = .ok (eqD .unit x y) w:=by
   intro fs o d x y xs ys w h
   match fs,h with
   | [],h=>simp [Op.eqFields,eqD]
   | _ :: _,h=>simp [eqB] at h
  refine ⟨fun T d x y c1 c2 w h _ h1 h2 => ?_,fun fs o d x y xs ys w h _ _ _ _ _=>hB fs o d x y xs ys w h⟩
  simp only [wrapE,Ty.agg] at h
  split at h
  ·rename_i fs hu
   simp only [Bool.and_eq_true,Bool.not_eq_true'] at h
   have hf:P.fieldsOf T=fs:=by simp [Program.fieldsOf,hu]
   show (Op.equalIn (d+1) T (.agg c1.toArray) (.agg c2.toArray)).run P w=_
   rw [run_equalIn_agg w d T _ _ (by rw [hf];exact hu) h.1,hf]
   exact hB _ _ d x y _ _ w h.2
  ·cases h
 | .cons a b=>by
  obtain ⟨ha,_⟩:=flat_lists a
  obtain ⟨_,hb⟩:=flat_lists b
  have hB:∀ fs o d x y (xs ys:List Value) w,eqB P (.cons a b) (.inr (fs,o))=true→dep (.cons a b)≤d→RepC w0 G (.cons a b) x (xs.drop o)→RepC w0 G (.cons a b) y (ys.drop o)→o+(Ty.cons a b).size≤xs.length→o+(Ty.cons a b).size≤ys.length →
    (Op.eqFields d xs.toArray ys.toArray fs).run P w = .ok (eqD (.cons a b) x y) w:=by
   intro fs o d x y xs ys w h hd hx hy hlx hly
   match fs,h with
   | [],h=>simp [eqB] at h
   | f :: fs,h =>
    simp only [eqB,Bool.and_eq_true,bne_iff_ne,ne_eq] at h
    obtain ⟨h0,h1,h2,h3,h4⟩:=h
    have h1:=Nat.eq_of_beq_eq_true h1
    have h2:=tyCheck_ok h2
    simp only [dep] at hd
    have hd1:dep a+1≤d:=Nat.le_trans (Nat.le_max_left _ _) hd
    have hd2:dep b≤d:=Nat.le_trans (Nat.le_max_right _ _) hd
    obtain ⟨d,rfl⟩:∃ d',d=d'+1:=⟨d - 1,by omega⟩
    simp only [Ty.size] at hlx hly
    obtain ⟨p1,p2,hp,hp1,hp2⟩:=hx
    obtain ⟨q1,q2,hq,hq1,hq2⟩:=hy
    have e1:(xs.drop o).take a.size=p1:=by rw [hp, ← hp1.length,List.take_left'];rfl
    have e2:(ys.drop o).take a.size=q1:=by rw [hq, ← hq1.length,List.take_left'];rfl
    have e3:xs.drop (o+a.size)=p2:=by rw [← List.drop_drop,hp, ← hp1.length,List.drop_left'];rfl
    have e4:ys.drop (o+a.size)=q2:=by rw [← List.drop_drop,hq, ← hq1.length,List.drop_left'];rfl
    have r1:(part f.type xs.toArray f.offset).run P w = .ok (valOf a p1) w:=by
     rw [h1, ← e1];exact part_run h2 xs o (by omega)
    have r2:(part f.type ys.toArray f.offset).run P w = .ok (valOf a q1) w:=by
     rw [h1, ← e2];exact part_run h2 ys o (by omega)
    have r3:=ha f.type d x.1 y.1 p1 q1 w h3 (by omega) hp1 hq1
    have r4:=hb fs (o+a.size) (d+1) x.2 y.2 xs ys w h4 hd2 (by rw [e3];exact hp2) (by rw [e4];exact hq2) (by omega) (by omega)
    simp only [Op.eqFields,ne_eq,h0,not_false_eq_true,if_true,Sem.run_bind,r1,r2,r3,Result.andThen_ok,Sem.run_ite,Sem.run_pure]
    simp only [eqD]
    cases eqD a x.1 y.1 with
    | true=>simpa using r4
    | false=>simp
  refine ⟨fun T d x y c1 c2 w h hd h1 h2 => ?_,hB⟩
  have l1:=h1.length
  have l2:=h2.length
  simp only [wrapE,Ty.agg] at h
  split at h
  ·rename_i fs hu
   simp only [Bool.and_eq_true,Bool.not_eq_true'] at h
   have hf:P.fieldsOf T=fs:=by simp [Program.fieldsOf,hu]
   show (Op.equalIn (d+1) T (.agg c1.toArray) (.agg c2.toArray)).run P w=_
   rw [run_equalIn_agg w d T _ _ (by rw [hf];exact hu) h.1,hf]
   exact hB _ 0 d x y c1 c2 w h.2 hd (by simpa using h1) (by simpa using h2) (by omega) (by omega)
  ·cases h
theorem st_eq {u:Ty} {T:TypeId} (hu:TIOk P T (.struct u)) (hf:u.flat=true) {x y:u.den} {v1 v2:Value} {G:Nat→Prop} (h1:∃ cs,v1 = .agg cs.toArray∧RepC w0 G u x cs) (h2:∃ cs,v2 = .agg cs.toArray∧RepC w0 G u y cs) (w':World) (ox oy:Operand) :
  (do eqGuard .eql T ox oy v1 v2;binOp .eql T v1 v2:Sem Value).run P w' = .ok (.bool (eqD u x y)) w'∧(do eqGuard .neq T ox oy v1 v2;binOp .neq T v1 v2:Sem Value).run P w' = .ok (.bool (!eqD u x y)) w':=by
 obtain ⟨c1,rfl,r1⟩:=h1
 obtain ⟨c2,rfl,r2⟩:=h2
 obtain ⟨hty,fs,hund,_,he⟩:=hu
 have he:=he hf
 simp only [eqT,Bool.and_eq_true,Bool.not_eq_true'] at he
 obtain ⟨e1,e2,e3⟩:=he
 have hd:=Nat.le_of_ble_eq_true e1
 have hag:u.agg=true:=by
  cases hh:u.agg with
  | true=>rfl
  | false =>
   obtain ⟨d,hd,hfit⟩:=hty.und
   rw [hund] at hd
   cases hd
   cases u <;> simp [descFits,Ty.agg] at hfit hh
 have hv1:valOf u c1 = .agg c1.toArray:=by simp [valOf,hag]
 have hv2:valOf u c2 = .agg c2.toArray:=by simp [valOf,hag]
 have heq:=(flat_lists (G:=G) u).1 T 9999 x y c1 c2 w' e3 hd r1 r2
 rw [hv1,hv2] at heq
 constructor
 ·simp only [Sem.run_bind,run_eqGuard_agg w' .eql T ox oy _ _ e2,Result.andThen_ok,run_eql_struct,heq]
 ·simp only [Sem.run_bind,run_eqGuard_agg w' .neq T ox oy _ _ e2,Result.andThen_ok,run_neq_struct,heq]
theorem binA_spec {tab:List TI} (hT:TabOk P tab) (hR:RelV n K w0 G w a E L V own) {wr:Bool} {op:BinOp} {T:TypeId} {x y:Operand} {cs:List Prop} {pv:PV}
  (h:binA tab wr op T (opnd E x) (opnd E y)=some (cs,pv)) (hc:All cs) :
  ∃ v,RepP w0 G L V pv v∧∀ w',(do eqGuard op T x y (a.eval x) (a.eval y);binOp op T (a.eval x) (a.eval y):Sem Value).run P w' = .ok v w':=by
 unfold binA at h
 split at h
 ·rename_i b1 b2 hx hy
  obtain ⟨e1,_⟩:=hR.valEq hx
  obtain ⟨e2,_⟩:=hR.valEq hy
  rw [e1,e2,eqGuard_at_bool]
  split at h
  ·rename_i ht
   cases h
   have hu:=hT T
   rw [ht] at hu
   refine ⟨_,⟨rfl,trivial⟩,fun w' => ?_⟩
   have h9:(Op.equalIn 10000 T (.bool b1) (.bool b2)).run P w' = .ok (b1==b2) w':=run_equalIn_bool' w' 9999 T b1 b2 (TyOk.bool_und hu)
   simp only [binOp,Op.equal,Op.maxDepth,Sem.run_bind,Sem.run_pure,Result.andThen_ok,h9]
  ·rename_i ht
   cases h
   have hu:=hT T
   rw [ht] at hu
   refine ⟨_,⟨rfl,trivial⟩,fun w' => ?_⟩
   have h9:(Op.equalIn 10000 T (.bool b1) (.bool b2)).run P w' = .ok (b1==b2) w':=run_equalIn_bool' w' 9999 T b1 b2 (TyOk.bool_und hu)
   simp only [binOp,Op.equal,Op.maxDepth,Sem.run_bind,Sem.run_pure,Result.andThen_ok,h9]
  ·cases h
 ·rename_i u v _ hx hy
  obtain ⟨e1,_⟩:=hR.valEq hx
  obtain ⟨e2,_⟩:=hR.valEq hy
  rw [e1,e2]
  split at h
  ·rename_i cs' r hb
   cases h
   exact ⟨r,⟨rfl,(binV_run (P:=P) (w:=w) hb hc T x y).2⟩,fun w'=>(binV_run hb hc T x y).1⟩
  ·cases h
 ·rename_i t x1 t' y1 hx hy
  have hvx:=hR.atom hx
  have hvy:=hR.atom hy
  split at h
  ·rename_i u ht
   have hu:=hT T
   rw [ht] at hu
   split at h
   ·rename_i he
    subst he
    split at h
    ·rename_i he
     subst he
     split at h
     ·rename_i hf
      cases h
      exact ⟨_,⟨rfl,trivial⟩,fun w'=>(st_eq hu hf hvx hvy w' x y).1⟩
     ·cases h
    ·cases h
   ·cases h
  ·rename_i u ht
   have hu:=hT T
   rw [ht] at hu
   split at h
   ·rename_i he
    subst he
    split at h
    ·rename_i he
     subst he
     split at h
     ·rename_i hf
      cases h
      exact ⟨_,⟨rfl,trivial⟩,fun w'=>(st_eq hu hf hvx hvy w' x y).2⟩
     ·cases h
    ·cases h
   ·cases h
  ·cases h
 ·cases h
theorem unA_spec (hR:RelV n K w0 G w a E L V own) {wr:Bool} {op:UnOp} {x:Operand} {cs:List Prop} {pv:PV}
  (h:unA wr op (opnd E x)=some (cs,pv)) (hc:All cs) :
  ∃ v,RepP w0 G L V pv v∧∀ w',(Op.unary op (a.eval x)).run P w' = .ok v w':=by
 unfold unA at h
 split at h
 ·rename_i b hx
  obtain ⟨e1,_⟩:=hR.valEq hx
  rw [e1]
  split at h
  ·cases h;exact ⟨_,⟨rfl,trivial⟩,fun w'=>by simp [Op.unary]⟩
  ·cases h
 ·rename_i k m hx
  obtain ⟨e1,_⟩:=hR.valEq hx
  rw [e1]
  split at h
  ·cases h;exact ⟨_,⟨rfl,wrap_inR _ _⟩,fun w'=>by simp [Op.unary,Op.intArith]⟩
  ·cases h
   simp only [All] at hc
   exact ⟨_,⟨rfl,hc.1⟩,fun w'=>by simp only [Op.unary,Op.intArith,wrap_of_inR hc.1];rfl⟩
  ·cases h
 ·cases h
theorem convA_spec {tab:List TI} (hT:TabOk P tab) (hR:RelV n K w0 G w a E L V own) {wr:Bool} {s d:TypeId} {x:Operand} {cs:List Prop} {pv:PV}
  (h:convA tab wr L s d (opnd E x)=some (cs,pv)) (hc:All cs) :
  ∃ v,RepP w0 G L V pv v∧∀ w',(convert s d (a.eval x)).run P w' = .ok v w':=by
 unfold convA at h
 split at h
 ·rename_i k0 m hx
  obtain ⟨e1,_⟩:=hR.valEq hx
  rw [e1]
  split at h
  ·rename_i hs hd
   cases h
   have hu:=hT s;rw [hs] at hu
   have hv:=hT d;rw [hd] at hv
   exact ⟨_,⟨rfl,wrap_inR _ _⟩,fun w'=>by simp [convert,run_underlying (TyOk.int_und hu),run_underlying (TyOk.int_und hv),Conv.intToInt]⟩
  ·rename_i hs hd
   cases h
   simp only [All] at hc
   have hu:=hT s;rw [hs] at hu
   have hv:=hT d;rw [hd] at hv
   exact ⟨_,⟨rfl,hc.1⟩,fun w'=>by simp [convert,run_underlying (TyOk.int_und hu),run_underlying (TyOk.int_und hv),Conv.intToInt,wrap_of_inR hc.1]⟩
  ·cases h
 ·cases h
theorem atomsOf_spec (hR:RelV n K w0 G w a E L V own):∀ {xs:List Operand} {ats:List Atom},atomsOf E xs=some ats→RepAs w0 G L V ats (xs.map a.eval)
 | [],ats,h=>by cases h;rfl
 | x :: r,ats,h=>by
  simp only [atomsOf] at h
  split at h
  ·rename_i A s hx hr
   cases h
   exact ⟨_,_,rfl,hR.atom hx,atomsOf_spec hR hr⟩
  ·cases h
theorem nthA_spec:∀ {xs:List Atom} {vs:List Value} {i:Nat} {A:Atom},nthA xs i=some A→RepAs w0 G L V xs vs→∃ v,vs[i]? = some v∧RepA w0 G L V A v
 | x :: r,vs,0,A,h,hr=>by
  cases h
  obtain ⟨v,s,rfl,h1,h2⟩:=hr
  exact ⟨v,rfl,h1⟩
 | x :: r,vs,i+1,A,h,hr=>by
  obtain ⟨v,s,rfl,h1,h2⟩:=hr
  obtain ⟨u,hu,hr'⟩:=nthA_spec (i:=i) h h2
  exact ⟨u,by simpa using hu,hr'⟩
 | [],_,_,_,h,_=>by cases h
theorem intO_spec (hR:RelV n K w0 G w a E L V own) {x:Option Operand} {i:Option Int} (h:intO E x=some i):∃ o,i=optI o∧x.map a.eval=optV o:=by
 cases x with
 | none=>cases h;exact ⟨none,rfl,rfl⟩
 | some x =>
  simp only [intO] at h
  split at h
  ·rename_i k m hx
   cases h
   exact ⟨some (k,m),rfl,by simp [optV,(hR.valEq hx).1]⟩
  ·cases h
theorem slOk_spec {ti:TI} {A:Atom} (h:slOk L ti A=true):((∃ e t b,ti = .slice e t b)∨ti = .scal .str)∧SlTy L ti A:=by
 cases A with
 | val u=>cases u with
  | string s =>
   simp only [slOk] at h
   split at h
   ·exact ⟨.inr rfl,rfl⟩
   ·cases h
  | _=>cases h
 | sl t xs =>
  simp only [slOk] at h
  split at h
  ·rename_i e t' b
   obtain rfl:=of_decide_eq_true h
   exact ⟨.inl ⟨_,_,_,rfl⟩,_,_,rfl⟩
  ·cases h
 | osl r rg =>
  simp only [slOk] at h
  split at h
  ·rename_i B e t' b hB
   have:=of_decide_eq_true h
   subst this
   exact ⟨.inl ⟨_,_,_,rfl⟩,B,hB,_,_,rfl⟩
  ·cases h
 | _=>cases h
theorem lenOk_spec {ti:TI} {A:Atom} (h:lenOk ti A=true):((∃ e t b,ti = .slice e t b)∨ti = .scal .str)∧LenTy ti A:=by
 have key:isSl ti=true→∃ e t b,ti = .slice e t b:=by
  intro h;cases ti <;> first | (cases h;done) | exact ⟨_,_,_,rfl⟩
 cases A with
 | val u=>cases u with
  | string s =>
   simp only [lenOk] at h
   split at h
   ·exact ⟨.inr rfl,rfl⟩
   ·cases h
  | _=>exact ⟨.inl (key h),key h⟩
 | _=>exact ⟨.inl (key h),key h⟩
theorem byteAt_run {T:TypeId} (hT:TyOk P T .str) (s:ByteArray) (k:IntKind) (i:Int) (h0:0≤i) (h1:i<s.size) (w:World) :
  (Instr.index T (.string s) (.int k i)).run P w = .ok (.int .u8 (byteAt s i)) w∧OkV (.int .u8 (byteAt s i)):=by
 have hlt:i.toNat<s.size:=by omega
 have hb:byteAt s i=((s[i.toNat]'hlt).toNat:Int):=by
  unfold byteAt
  rw [List.getD_eq_getElem?_getD,List.getElem?_eq_getElem (by simpa using hlt)]
  rfl
 refine ⟨?_,?_⟩
 ·rw [run_index_string (P:=P) w T s k i hT.str_und,dif_pos ⟨h0,h1⟩,hb]
 ·rw [hb]
  have:=(s[i.toNat]'hlt).toNat_lt
  simp [OkV,InR,IntKind.min,IntKind.max,IntKind.bits,IntKind.signed]
  omega
theorem builtinA_spec {tab:List TI} (hT:TabOk P tab) (hR:RelV n K w0 G w a E L V own) {b:Builtin} {xs:List Operand} {ts:List TypeId} {cs:List Prop} {pv:PV}
  (h:builtinA tab L b (xs.map (opnd E)) ts=some (cs,pv)) (hc:All cs) (ty:TypeId) (consts:Array Bool) :
  ∃ v,RepP w0 G L V pv v∧∀ w',(builtin b ts.toArray ty consts (xs.map a.eval).toArray).run P w' = .ok (.value v) w':=by
 unfold builtinA at h
 split at h
 ·rename_i A T hxs
  have:∃ x,xs=[x]∧opnd E x = .a A:=by
   cases xs with
   | nil=>simp at hxs
   | cons x r=>cases r with
    | nil=>simp at hxs;exact ⟨x,rfl,hxs⟩
    | cons y s=>simp at hxs
  obtain ⟨x,rfl,hx⟩:=this
  split at h
  ·rename_i i hok hl
   cases h
   obtain ⟨h1,h2⟩:=lenOk_spec hok
   obtain ⟨h3,h4⟩:=lenA_spec hR (hT T) h1 (hR.atom hx) hl h2 ty
   refine ⟨_,⟨rfl,h3⟩,fun w' => ?_⟩
   simp only [builtin,List.map_cons,List.map_nil]
   exact run_value _ _ _ _ (h4 w')
  ·cases h
 ·rename_i k x k' y hxs
  have:∃ o1 o2,xs=[o1,o2]∧opnd E o1 = .a (.val (.int k x))∧opnd E o2 = .a (.val (.int k' y)):=by
   cases xs with
   | nil=>simp at hxs
   | cons o1 r=>cases r with
    | nil=>simp at hxs
    | cons o2 s=>cases s with
     | nil=>simp at hxs;exact ⟨o1,o2,rfl,hxs.1,hxs.2⟩
     | cons y s=>simp at hxs
  obtain ⟨o1,o2,rfl,h1,h2⟩:=this
  split at h
  ·rename_i hk
   obtain rfl:=of_decide_eq_true hk
   cases h
   obtain ⟨e1,i1⟩:=hR.valEq h1
   obtain ⟨e2,i2⟩:=hR.valEq h2
   refine ⟨_,⟨rfl,?_⟩,fun w' => ?_⟩
   ·simp only [OkV,cmpV] at i1 i2 ⊢
    split <;> assumption
   ·simp [builtin,e1,e2,Builtin.min_,Builtin.min2,cmpV]
  ·cases h
 ·rename_i k x k' y hxs
  have:∃ o1 o2,xs=[o1,o2]∧opnd E o1 = .a (.val (.int k x))∧opnd E o2 = .a (.val (.int k' y)):=by
   cases xs with
   | nil=>simp at hxs
   | cons o1 r=>cases r with
    | nil=>simp at hxs
    | cons o2 s=>cases s with
     | nil=>simp at hxs;exact ⟨o1,o2,rfl,hxs.1,hxs.2⟩
     | cons y s=>simp at hxs
  obtain ⟨o1,o2,rfl,h1,h2⟩:=this
  split at h
  ·rename_i hk
   obtain rfl:=of_decide_eq_true hk
   cases h
   obtain ⟨e1,i1⟩:=hR.valEq h1
   obtain ⟨e2,i2⟩:=hR.valEq h2
   refine ⟨_,⟨rfl,?_⟩,fun w' => ?_⟩
   ·simp only [OkV,cmpV] at i1 i2 ⊢
    split <;> assumption
   ·simp [builtin,e1,e2,Builtin.max_,Builtin.max2,cmpV]
  ·cases h
 ·cases h
theorem repB_of_decB {A:Atom} {u:Value} {t:Ty} {x:t.den} (h:RepA w0 G L V A u) (hd:decB t A=some x):RepB w0 G A u:=by
 cases A with
 | osl r rg=>cases t <;> cases hd
 | optr r i p=>cases t <;> cases hd
 | rcd t' ls=>cases t <;> cases hd
 | bptr r o t'=>cases t <;> cases hd
 | _=>exact h
theorem partsRep (hR:RelV n K w0 G w a E L V own):∀ (l:List (Nat×Operand)),PartsRep w0 G (l.map fun p=>(p.1,opnd E p.2)) (l.map fun p=>(p.1,a.eval p.2))
 | []=>rfl
 | p :: r=>⟨a.eval p.2,_,rfl,fun A hA t x hd=>repB_of_decB (hR.atom hA) hd,partsRep hR r⟩
theorem absQ_spec {tab:List TI} (hT:TabOk P tab) (hR:RelV n K w0 G w a E L V own) {wr:Bool} {o:Oper} {cs:List Prop} {pv:PV}
  (h:absQ tab wr E L o.op=some (cs,pv)) (hc:All cs) :
  ∃ v,RepP w0 G L V pv v∧∀ w',(isLoad o.op=true→Kept [] w w')→(execOp a.eval o).run P w' = .ok (.value v) w':=by
 unfold absQ at h
 split at h
 ·rename_i x ho
  cases h
  exact ⟨_,hR.opnd x,fun w' _=>by simp [execOp,ho]⟩
 ·rename_i x ho
  cases h
  exact ⟨_,hR.opnd x,fun w' _=>by simp [execOp,ho]⟩
 ·rename_i x ho
  have hx:=hR.opnd x
  split at h
  ·rename_i t y hp
   cases h
   rw [hp] at hx
   refine ⟨_,hx,fun w' _ => ?_⟩
   obtain ⟨b,off,cs,he,_⟩:=hx
   simp [execOp,ho,he]
  ·rename_i r i p hp
   cases h
   rw [hp] at hx
   refine ⟨_,hx,fun w' _ => ?_⟩
   obtain ⟨_,_,_,b,off,m,cap,po,t',_,_,he⟩:=hx
   simp [execOp,ho,he]
  ·rename_i r o t hp
   cases h
   rw [hp] at hx
   refine ⟨_,hx,fun w' _ => ?_⟩
   obtain ⟨_,_,b,off,_,_,_,he,_⟩:=hx
   simp [execOp,ho,he]
  ·rename_i f cs hp
   cases h
   rw [hp] at hx
   refine ⟨_,hx,fun w' _ => ?_⟩
   obtain ⟨vs,he,_⟩:=hx
   simp [execOp,ho,he]
  ·cases h
 ·rename_i op T x y yt ho
  obtain ⟨v,hv,hr⟩:=binA_spec hT hR h hc
  exact ⟨v,hv,fun w' _=>by simp only [execOp,ho];exact run_value _ _ _ _ (hr w')⟩
 ·rename_i op T x ho
  obtain ⟨v,hv,hr⟩:=unA_spec (P:=P) hR h hc
  exact ⟨v,hv,fun w' _=>by simp only [execOp,ho];exact run_value _ _ _ _ (hr w')⟩
 ·rename_i s d x ho
  obtain ⟨v,hv,hr⟩:=convA_spec hT hR h hc
  exact ⟨v,hv,fun w' _=>by simp only [execOp,ho];exact run_value _ _ _ _ (hr w')⟩
 ·rename_i x i ho
  have hx:=hR.opnd x
  split at h
  ·rename_i xs hp
   rw [hp] at hx
   split at h
   ·rename_i A hA
    cases h
    obtain ⟨vs,he,hr⟩:=hx
    obtain ⟨v,hv,hv'⟩:=nthA_spec hA hr
    exact ⟨v,hv',fun w' _=>by simp [execOp,ho,he,Instr.extract,hv]⟩
   ·cases h
  ·cases h
 ·rename_i f first caps ho
  split at h
  ·rename_i ats hf has
   cases h
   have hr:=atomsOf_spec hR has
   refine ⟨_,⟨_,rfl,hr⟩,fun w' _ => ?_⟩
   have hfe:first = #[]:=by cases first;simp_all
   simp [execOp,ho,Instr.makeFunc,hfe, ← Array.toList_map]
  ·cases h
 ·rename_i T x ho
  split at h
  ·rename_i A t hx ht
   split at h
   ·rename_i B hB
    cases h
    obtain ⟨v,hv,hr⟩:=loadA_spec hR (TI.ty_ok (hT T) ht) (hR.atom hx) hB
    exact ⟨v,hv,fun w' k=>by simp only [execOp,ho];exact run_value _ _ _ _ (hr w' (k (by rw [ho];rfl)))⟩
   ·cases h
  ·cases h
 ·rename_i S x f ho
  split at h
  ·rename_i A t hx ht
   split at h
   ·rename_i B hB
    cases h
    have hS:=hT S;rw [ht] at hS
    obtain ⟨v,hv,hr⟩:=fldAddrA_spec hS (hR.atom hx) hB
    exact ⟨v,hv,fun w' k=>by simp only [execOp,ho];exact run_value _ _ _ _ (hr w')⟩
   ·cases h
  ·cases h
 ·rename_i S x f ho
  split at h
  ·rename_i A t hx ht
   split at h
   ·rename_i B hB
    cases h
    have hS:=hT S;rw [ht] at hS
    obtain ⟨v,hv,hr⟩:=fieldA_spec hS (hR.atom hx) hB
    exact ⟨v,hv,fun w' k=>by simp only [execOp,ho];exact run_value _ _ _ _ (hr w')⟩
   ·cases h
  ·cases h
 ·rename_i T x i ho
  split at h
  ·rename_i A k m e t b hx hi ht
   split at h
   ·rename_i cs' B hB
    cases h
    have hS:=hT T;rw [ht] at hS
    obtain ⟨v,hv,hr⟩:=idxAddrA_spec (k:=k) hS (hR.atom hx) hB hc
    exact ⟨v,hv,fun w' _=>by simp only [execOp,ho,(hR.valEq hi).1];exact run_value _ _ _ _ (hr w')⟩
   ·cases h
  ·cases h
 ·rename_i T x i ho
  split at h
  ·rename_i s k m hx hi ht
   cases h
   simp only [All] at hc
   have hS:=hT T;rw [ht] at hS
   have hb:=fun w'=>byteAt_run (P:=P) hS s k m hc.1 hc.2.1 w'
   exact ⟨_,⟨rfl,(hb w).2⟩,fun w' _=>by simp only [execOp,ho,(hR.valEq hi).1,(hR.valEq hx).1];exact run_value _ _ _ _ (hb w').1⟩
  ·cases h
 ·rename_i T x lo hi ho
  split at h
  ·rename_i A l h' hx hl hh
   split at h
   ·rename_i cs' B hok hB
    cases h
    obtain ⟨ol,rfl,e1⟩:=intO_spec hR hl
    obtain ⟨oh,rfl,e2⟩:=intO_spec hR hh
    obtain ⟨h1,h2⟩:=slOk_spec hok
    obtain ⟨v,hv,hr⟩:=sliceA_spec (hT T) h1 (hR.atom hx) h2 hB hc
    exact ⟨v,hv,fun w' _=>by simp only [execOp,ho,e1,e2,Option.map_none];exact run_value _ _ _ _ (hr w')⟩
   ·cases h
  ·cases h
 ·rename_i T parts ho
  split at h
  ·rename_i t ht
   have asSt:∀ {x:t.den},t.agg=true→buildA t t.dflt (parts.toList.map fun p=>(p.1,opnd E p.2))=some x→∃ v,RepP w0 G L V (.a (.st t x)) v∧∀ w',(isLoad o.op=true→Kept [] w w')→(execOp a.eval o).run P w' = .ok (.value v) w':=by
    intro x ha hb
    have hS:=hT T;rw [ht] at hS
    obtain ⟨cs,hr,hrun⟩:=build_run hS ha hb (partsRep hR parts.toList)
    refine ⟨_,⟨cs,rfl,hr⟩,fun w' _ => ?_⟩
    simp only [execOp,ho]
    refine run_value _ _ _ _ ?_
    have:=hrun w'
    have e:(parts.map fun p=>(p.1,a.eval p.2))=(parts.toList.map fun p=>(p.1,a.eval p.2)).toArray:=by
     rw [← Array.toList_map]
    have e':(Array.map (fun x=>match x with | (i,x)=>(i,a.eval x)) parts)=(parts.map fun p=>(p.1,a.eval p.2)):=rfl
    rw [e',e]
    exact this
   have asRcd:∀ {ls:List Leaf},buildLs t (zLs t) (parts.toList.map fun p=>(p.1,opnd E p.2))=some ls→∃ v,RepP w0 G L V (.a (.rcd t ls)) v∧∀ w',(isLoad o.op=true→Kept [] w w')→(execOp a.eval o).run P w' = .ok (.value v) w':=by
    intro ls hls
    have hS:=hT T;rw [ht] at hS
    obtain ⟨cs,hl,hr,hrun⟩:=buildLs_run hS hR hls
    refine ⟨_,⟨cs,rfl,hl,hr⟩,fun w' _ => ?_⟩
    simp only [execOp,ho]
    refine run_value _ _ _ _ ?_
    have:=hrun w'
    have e:(parts.map fun p=>(p.1,a.eval p.2))=(parts.toList.map fun p=>(p.1,a.eval p.2)).toArray:=by
     rw [← Array.toList_map]
    have e':(Array.map (fun x=>match x with | (i,x)=>(i,a.eval x)) parts)=(parts.map fun p=>(p.1,a.eval p.2)):=rfl
    rw [e',e]
    exact this
   split at h
   ·rename_i x ha hb
    split at h
    ·rename_i ls hf hls
     split at h
     ·cases h;exact asRcd hls
     ·cases h;exact asSt ha hb
    ·cases h;exact asSt ha hb
   ·split at h
    ·rename_i ls hls
     cases h
     exact asRcd hls
    ·cases h
  ·cases h
 ·rename_i b args ts ho
  obtain ⟨v,hv,hr⟩:=builtinA_spec hT hR h hc o.type (args.map fun | .const _=>true | _=>false)
  refine ⟨v,hv,fun w' _ => ?_⟩
  have:=hr w'
  simp only [execOp,ho,resolve,Sem.run_bind,Sem.run_pure,Result.andThen_ok,invoke]
  have e:args.map a.eval=(args.toList.map a.eval).toArray:=by rw [← Array.toList_map]
  rw [e]
  exact this
 ·cases h
end
end Go.Am
namespace Go.Am
set_option linter.unusedVariables false
set_option linter.unusedSimpArgs false
def Callable (P : Program) (f : FuncId) : Prop := ∃ fn, P.funcs[f]? = some fn ∧ (fn.name == "runtime.NumGoroutine") = false ∧ fn.body.isNone = false
abbrev Ext:=List (FuncId×Spec)
def ExtOk (P:Program):Ext→Prop
 | []=>True
 | (f,S) :: r=>(Callable P f∧Contract P f S)∧ExtOk P r
def rgL {α:Type} (rg:Option (Nat×Nat)) (xs:List α):List α :=
 match rg with
 | none=>xs
 | some (lo,hi)=>(xs.take hi).drop lo
def castL {t e:Ty} (h:t=e) (xs:List t.den):List e.den:=h ▸ xs
def castT {t e:Ty} (h:t=e) (x:t.den):e.den:=h ▸ x
def slR (L:Heap) (e:Ty):Leaf→Option (List e.den)
 | .val (.slice none _ _)=>some []
 | .sl t xs=>if h:t=e then some (castL h xs) else none
 | .osl r rg=>match hget L r with
  | some A=>if h:A.t=e then some (rgL rg (castL h A.xs)) else none
  | none=>none
 | _=>none
def readLs (L:Heap):(t:Ty)→List Leaf→Option t.den
 | .sl e,ls=>match ls with
  | [l]=>slR L e l
  | _=>none
 | .cons a b,ls=>match readLs L a (ls.take a.size),readLs L b (ls.drop a.size) with
  | some x,some y=>some (x,y)
  | _,_=>none
 | t,ls=>treeLs t ls
def slW (L:Heap) (e:Ty):Leaf→Option (List e.den×List Nat)
 | .val (.slice none _ _)=>some ([],[])
 | .osl r none=>match hget L r with
  | some A=>match A.bor with
   | true=>none
   | false=>if h:A.t=e then some (castL h A.xs,[r]) else none
  | none=>none
 | .osl r (some (lo,hi))=>match hget L r with
  | some A=>match e.flat && !A.bor with
   | true=>if h:A.t=e then some (rgL (some (lo,hi)) (castL h A.xs),[r]) else none
   | false=>none
  | none=>none
 | _=>none
def ownLs (L:Heap):(t:Ty)→List Leaf→Option (t.den×List Nat)
 | .sl e,ls=>match ls with
  | [l]=>slW L e l
  | _=>none
 | .cons a b,ls=>match ownLs L a (ls.take a.size),ownLs L b (ls.drop a.size) with
  | some (x,us),some (y,vs)=>some ((x,y),us++vs)
  | _,_=>none
 | t,ls=>match treeLs t ls with
  | some x=>some (x,[])
  | none=>none
def decV (L:Heap):(t:Ty)→Atom→Option t.den
 | .sl e,.osl r rg=>match hget L r with
  | some A=>if h:A.t=e then some (rgL rg (castL h A.xs)) else none
  | none=>none
 | t,.rcd t' ls=>match decide (t'=t),t.agg with
  | true,true=>readLs L t ls
  | _,_=>none
 | t,A=>decB t A
def decP (L:Heap) (t:Ty):Atom→Option t.den
 | .ptr t' x=>if h:t'=t then some (castT h x) else none
 | .optr r i p=>match hget L r with
  | some A=>match pathD p ⟨A.t,A.xs.getD i A.t.dflt⟩ with
   | some d=>if h:d.t=t then some (castT h d.x) else none
   | none=>none
  | none=>none
 | .bptr r o t'=>match decide (t'=t),hget L r with
  | true,some A=>match A.ls with
   | some ls=>readLs L t ((ls.drop o).take t.size)
   | none=>none
  | _,_=>none
 | _=>none
def refL:Leaf→List Nat
 | .osl r _=>[r]
 | _=>[]
def refLs:List Leaf→List Nat
 | []=>[]
 | l :: r=>refL l++refLs r
def refA:Atom→List Nat
 | .osl r _=>[r]
 | .optr r _ _=>[r]
 | .rcd _ ls=>refLs ls
 | .bptr r _ _=>[r]
 | _=>[]
def lendA (L:Heap):Atom→List Nat
 | .bptr r _ _=>match hget L r with
  | some A=>match A.ls with
   | some ls=>r :: refLs ls
   | none=>[r]
  | none=>[r]
 | A=>refA A
def decCaps (L:Heap):(caps:List (Bool×Ty))→List Atom→Option (capsDen caps×List Nat)
 | [],[]=>some ((),[])
 | (true,t) :: r,A :: s=>match decP L t A,decCaps L r s with
  | some x,some (y,us)=>some ((x,y),lendA L A++us)
  | _,_=>none
 | (false,t) :: r,A :: s=>match decB t A,decCaps L r s with
  | some x,some (y,us)=>some ((x,y),us)
  | _,_=>none
 | _,_=>none
def one1 {α:Type}:List α→Option α
 | [x]=>some x
 | _=>none
def decPb (L:Heap) (t:Ty):Atom→Option (t.den×List Nat)
 | .optr r 0 []=>match hget L r with
  | some A=>match A.bor,A.ls,A.sm with
   | true,none,some _=>if h:A.t=t then (match one1 (castL h A.xs) with | some x=>some (x,[r]) | none=>none) else none
   | _,_,_=>none
  | none=>none
 | _=>none
def decPo (L:Heap) (t:Ty):Atom→Option (t.den×List Nat)
 | .bptr r 0 t'=>match decide (t'=t),hget L r with
  | true,some A=>match A.ls,decide (A.t=t)&&A.xs.isEmpty with
   | some ls,true=>match ownLs L t ls with
    | some (x,us)=>some (x,r :: us)
    | none=>none
   | _,_=>none
  | _,_=>none
 | _=>none
def decSv (L:Heap) (t:Ty):Atom→Option (t.den×List Nat)
 | .rcd t' ls=>match decide (t'=t) with
  | true=>ownLs L t ls
  | false=>none
 | _=>none
def fnsB:List (Option Nat)→List Nat→Bool
 | [],[]=>true
 | some a :: r,b :: s=>match Nat.beq a b with | true=>fnsB r s | false=>false
 | _,_=>false
theorem fnsB_eq:∀ {xs:List (Option Nat)} {fs:List Nat},fnsB xs fs=true→xs=fs.map some
 | [],[],_=>rfl
 | some a :: r,b :: s,h=>by
  simp only [fnsB] at h
  split at h
  ·rename_i hab
   rw [Nat.eq_of_beq_eq_true hab,fnsB_eq h];rfl
  ·cases h
 | [],_ :: _,h=>by cases h
 | none :: _,_,h=>by cases h
 | some _ :: _,[],h=>by cases h
def decA (L:Heap):(a:AT)→PV→Option (a.den×List Nat×List Nat)
 | .v t,.a A=>match decV L t A with | some x=>some (x,[],lendA L A) | none=>none
 | .p t,.a A=>match decP L t A with | some x=>some (x,[],lendA L A) | none=>none
 | .own t,.a (.osl r none)=>match hget L r with
  | some A=>match A.bor with
   | true=>none
   | false=>if h:A.t=t then some (castL h A.xs,[r],[]) else none
  | none=>none
 | .pb t,.a A=>match decPb L t A with | some (x,us)=>some (x,us,[]) | none=>none
 | .po t,.a A=>match decPo L t A with | some (x,us)=>some (x,us,[]) | none=>none
 | .sv t,.a A=>match decSv L t A with | some (x,us)=>some (x,us,[]) | none=>none
 | .fns fs,.a A=>match decV L (.sl .fn) A with | some x=>(match fnsB x fs with | true=>some ((),[],lendA L A) | false=>none) | none=>none
 | .fn f caps,.fn g ats=>match Nat.beq f g,decCaps L caps ats with
  | true,some (x,us)=>some (x,[],us)
  | _,_=>none
 | _,_=>none
def smA (L:Heap):AT→PV→Bool
 | .pb _,.a (.optr r _ _)=>match hget L r with
  | some A=>match A.sm with
   | some true=>true
   | _=>false
  | none=>false
 | _,_=>true
def smArgs (L:Heap):List AT→List PV→Bool
 | a :: r,p :: s=>smA L a p&&smArgs L r s
 | _,_=>true
def decArgs (L:Heap):(sig:List AT)→List PV→Option (sigDen sig×List (List Nat)×List Nat)
 | [],[]=>some ((),[],[])
 | a :: r,p :: s=>match decA L a p,decArgs L r s with
  | some (x,o,u),some (y,os,us)=>some ((x,y),o :: os,u++us)
  | _,_=>none
 | _,_=>none
def memB (n:Nat):List Nat→Bool
 | []=>false
 | m :: r=>Nat.beq n m||memB n r
def disjB:List Nat→List Nat→Bool
 | [],_=>true
 | n :: r,l => !(memB n l)&&disjB r l
def nodupB:List Nat→Bool
 | []=>true
 | n :: r => !(memB n r)&&nodupB r
theorem memB_iff {n:Nat}:∀ {l:List Nat},memB n l=true↔n∈l
 | []=>by simp [memB]
 | m :: r=>by simp [memB,memB_iff (l:=r)]
theorem disjB_spec:∀ {l m:List Nat},disjB l m=true→∀ n∈l,n ∉ m
 | [],_,_,n,hn=>by cases hn
 | k :: r,m,h,n,hn=>by
  simp only [disjB,Bool.and_eq_true,Bool.not_eq_true'] at h
  rcases List.mem_cons.1 hn with rfl | hn
  ·intro hm;rw [memB_iff.2 hm] at h;cases h.1
  ·exact disjB_spec h.2 n hn
theorem nodupB_spec:∀ {l:List Nat},nodupB l=true→l.Nodup
 | [],_=>List.nodup_nil
 | k :: r,h=>by
  simp only [nodupB,Bool.and_eq_true,Bool.not_eq_true'] at h
  refine List.nodup_cons.2 ⟨fun hm => ?_,nodupB_spec h.2⟩
  rw [memB_iff.2 hm] at h;cases h.1
section
variable {P:Program} {n:Nat} {K:Ctx} {G G':Nat→Prop} {w0 w:World} {a:Act} {E:Env} {L:Heap} {V:Nat→Value} {own:Nat→List Nat}
theorem SlAt.sub {w:World} {G:Nat→Prop} {α:Type} {R:α→List Value→Prop} {sz nn lo hi:Nat} {xs:List α} {V v:Value} (h:SlAt w G R sz xs V) (hs:SubSl sz xs.length V lo hi v) :
  SlAt w G R sz ((xs.take hi).drop lo) v:=by
 obtain ⟨h1,h2,h3⟩:=hs
 have hlen:((xs.take hi).drop lo).length=hi - lo:=by simp;omega
 refine ⟨by rw [hlen];have:=h.1;omega,?_⟩
 rcases h3 with ⟨_,_,hV,rfl,hz⟩ | ⟨b,off,m,cap,o,c,hV,rfl,hle,hcase⟩
 ·exact .inl ⟨_,rfl,List.eq_nil_of_length_eq_zero (by rw [hlen];omega)⟩
 ·rcases h.2 with ⟨_,h5,hx0⟩ | ⟨b',off',cap',h5,h6,h7,h8,h9⟩
  ·rw [h5] at hV;cases hV
   have hl0:hi - lo=0:=by rw [hx0] at h2;simp at h2;omega
   have hc0:c=0:=by rcases hcase with ⟨_,h⟩ | ⟨h,_⟩ <;> omega
   exact .inl ⟨_,by rw [hl0,hc0],List.eq_nil_of_length_eq_zero (by rw [hlen];omega)⟩
  ·rw [h5] at hV
   cases hV
   rw [← hlen] at hle ⊢
   by_cases hc0:c=0
   ·subst hc0
    refine .inr ⟨_,o,0,rfl,hle,Nat.zero_le _,h8,fun i x hx => ?_⟩
    have:=(List.getElem?_eq_some_iff.1 hx).1
    omega
   ·obtain ⟨ho,hcap⟩:=hcase.resolve_right (fun h=>hc0 h.1)
    refine .inr ⟨_,o,c,rfl,hle,by omega,h8,fun i x hx => ?_⟩
    have hx':xs[lo+i]? = some x:=by
     rw [List.getElem?_drop,List.getElem?_take] at hx
     split at hx
     ·exact hx
     ·cases hx
    obtain ⟨cs,hl,hcs,hr⟩:=h9 _ x hx'
    refine ⟨cs,hl,fun j cc hj => ?_,hr⟩
    have:=hcs j cc hj
    rwa [ho,Nat.add_assoc off, ← Nat.add_mul]
theorem SlAt.whole {w:World} {G:Nat→Prop} {α:Type} {R:α→List Value→Prop} {sz:Nat} {xs:List α} {V v:Value} (h:SlAt w G R sz xs V) (hs:SubSl sz xs.length V 0 xs.length v):SlAt w G R sz xs v:=by
 have:=h.sub (nn:=0) hs
 rwa [List.take_length,List.drop_zero] at this
theorem RelV.lend (hR:RelV n K w0 G w a E L V own) {w':World} (k:Kept [] w w') (hG:∀ b,G b→G' b) {r:Nat} {A:Arr} (h:hget L r=some A) (hd:∀ b∈own r,G' b) :
  SlAt w' G' (RepC w' G' A.t) A.t.size A.xs (V r):=by
 have h1:=(hR.heap r A h).keep (w':=w') fun b hb=>k.block b (hR.own_lt h b hb) (by simp)
 refine OwnSl.read (fun x cs bi hs hr => ?_) hd h1
 revert hr
 unfold entR
 cases A.bor with
 | true=>exact fun hr=>hr.1.keep hG (hR.keepG k)
 | false=>exact fun hr=>OwnC.read (fun b hb=>hd b (hs b hb)) hr
theorem decB_rep {w:World} {G:Nat→Prop} {t:Ty} {A:Atom} {x:t.den} {v:Value} (h:RepB w G A v) (hd:decB t A=some x):RepB w G (toAtom t x) v:=by
 obtain ⟨cs,hr,rfl⟩:=decB_spec h hd
 exact hr.repB
theorem castL_slAt {w:World} {G:Nat→Prop} {t e:Ty} (h:t=e) {xs:List t.den} {v:Value} (hx:SlAt w G (RepC w G t) t.size xs v):SlAt w G (RepC w G e) e.size (castL h xs) v:=by
 subst h;exact hx
theorem repO_lend (hR:RelV n K w0 G w a E L V own) {w':World} (k:Kept [] w w') (hG:∀ b,G b→G' b) {r:Nat} {rg:Option (Nat×Nat)} {A:Arr} {v:Value} (hv:RepO L V r rg v) (hA:hget L r=some A) (hd:∀ b∈own r,G' b):SlAt w' G' (RepC w' G' A.t) A.t.size (rgL rg A.xs) v:=by
 obtain ⟨B,hB,_,hs⟩:=hv
 rw [hA] at hB;cases hB
 have hsl:=hR.lend k hG hA hd
 cases rg with
 | none=>exact hsl.whole hs
 | some q=>obtain ⟨lo,hi⟩:=q;exact hsl.sub (nn:=0) hs
theorem readLs_rep (hR:RelV n K w0 G w a E L V own) {w':World} (k:Kept [] w w') (hG:∀ b,G b→G' b):∀ {t:Ty} {ls:List Leaf} {x:t.den} {cs:List Value},RepLs w0 G L V ls cs→readLs L t ls=some x→(∀ r∈refLs ls,∀ b∈own r,G' b)→RepC w' G' t x cs
 | .int k',ls,x,cs,hr,h,_=>(treeLs_rep (t := .int k') hr h).keep hG (hR.keepG k)
 | .bool,ls,x,cs,hr,h,_=>(treeLs_rep (t := .bool) hr h).keep hG (hR.keepG k)
 | .fn,ls,x,cs,hr,h,_=>(treeLs_rep (t := .fn) hr h).keep hG (hR.keepG k)
 | .str,ls,x,cs,hr,h,_=>(treeLs_rep (t := .str) hr h).keep hG (hR.keepG k)
 | .unit,ls,x,cs,hr,h,_=>(treeLs_rep (t := .unit) hr h).keep hG (hR.keepG k)
 | .sl e,ls,x,cs,hr,h,hd=>by
  simp only [readLs] at h
  split at h
  ·rename_i l
   obtain ⟨v,r,rfl,h1,h2⟩:=hr
   cases h2
   refine ⟨v,rfl,?_⟩
   unfold slR at h
   split at h
   ·cases h
    obtain ⟨rfl,⟨h3,h4⟩,_⟩:=h1
    subst h3 h4
    exact ⟨Nat.zero_le _,.inl ⟨_,rfl,rfl⟩⟩
   ·split at h
    ·rename_i ht
     cases h
     exact castL_slAt ht (SlAt.keep (fun _ _=>RepC.keep hG (hR.keepG k)) hG (hR.keepG k) h1)
    ·cases h
   ·rename_i r rg
    split at h
    ·rename_i A hA
     split at h
     ·rename_i ht
      cases h
      subst ht
      exact repO_lend hR k hG h1 hA (hd r (by simp [refLs,refL]))
     ·cases h
    ·cases h
   ·cases h
  ·cases h
 | .cons p q,ls,x,cs,hr,h,hd=>by
  simp only [readLs] at h
  split at h
  ·rename_i y z hy hz
   cases h
   have hsplit:∀ (k:Nat) (ls:List Leaf),refLs ls=refLs (ls.take k)++refLs (ls.drop k):=by
    intro k
    induction k with
    | zero=>intro ls;simp [refLs]
    | succ k ih =>
     intro ls
     cases ls with
     | nil=>simp [refLs]
     | cons l r=>simp only [List.take_succ_cons,List.drop_succ_cons,refLs,List.append_assoc, ← ih r]
   refine ⟨cs.take p.size,cs.drop p.size,(List.take_append_drop _ _).symm,readLs_rep hR k hG (repLs_take _ hr) hy fun r hr'=>hd r ?_,readLs_rep hR k hG (repLs_drop _ hr) hz fun r hr'=>hd r ?_⟩
   ·rw [hsplit p.size ls];exact List.mem_append_left _ hr'
   ·rw [hsplit p.size ls];exact List.mem_append_right _ hr'
  ·cases h
theorem refLs_sub {ls:List Leaf} {r:Nat} (k:Nat):r∈refLs (ls.take k)∨r∈refLs (ls.drop k)→r∈refLs ls:=by
 have hsplit:∀ (k:Nat) (ls:List Leaf),refLs ls=refLs (ls.take k)++refLs (ls.drop k):=by
  intro k
  induction k with
  | zero=>intro ls;simp [refLs]
  | succ k ih =>
   intro ls
   cases ls with
   | nil=>simp [refLs]
   | cons l r=>simp only [List.take_succ_cons,List.drop_succ_cons,refLs,List.append_assoc, ← ih r]
 intro h
 rw [hsplit k ls]
 exact List.mem_append.2 h
theorem decV_rep (hR:RelV n K w0 G w a E L V own) {w':World} (k:Kept [] w w') (hG:∀ b,G b→G' b) {t:Ty} {A:Atom} {x:t.den} {v:Value} (hA:RepA w0 G L V A v)
  (hd:decV L t A=some x) (hdis:∀ r∈lendA L A,∀ b∈own r,G' b):RepB w' G' (toAtom t x) v:=by
 have borrowed:decB t A=some x→RepB w' G' (toAtom t x) v:=fun h =>
  decB_rep (repB_keep hG (hR.keepG k) (repB_of_decB hA h)) h
 unfold decV at hd
 split at hd
 ·rename_i e r rg
  split at hd
  ·rename_i B hB
   split at hd
   ·rename_i hBe
    subst hBe
    cases hd
    exact repO_lend hR k hG hA hB (hdis r (by simp [lendA,refA]))
   ·cases hd
  ·cases hd
 ·rename_i t' ls
  split at hd
  ·rename_i ht ha
   obtain rfl:=of_decide_eq_true ht
   obtain ⟨cs,rfl,hl,hr⟩:=hA
   have:=(readLs_rep hR k hG hr hd hdis).repB
   rwa [valOf,if_pos ha] at this
  ·cases hd
 ·exact borrowed hd
theorem castT_rep {w:World} {G:Nat→Prop} {t t':Ty} (h:t'=t) {x:t'.den} {v:Value} (hp:PtrAt w G t' x v):PtrAt w G t (castT h x) v:=by
 subst h;exact hp
theorem decP_rep (hR:RelV n K w0 G w a E L V own) {w':World} (k:Kept [] w w') (hG:∀ b,G b→G' b) {t:Ty} {A:Atom} {x:t.den} {v:Value} (hA:RepA w0 G L V A v)
  (hd:decP L t A=some x) (hdis:∀ r∈lendA L A,∀ b∈own r,G' b):PtrAt w' G' t x v:=by
 unfold decP at hd
 split at hd
 ·rename_i t' y
  split at hd
  ·rename_i ht
   cases hd
   exact castT_rep ht (repB_keep (A := .ptr t' y) hG (hR.keepG k) hA)
  ·cases hd
 ·rename_i r i p
  split at hd
  ·rename_i B hB
   split at hd
   ·rename_i d hpd
    split at hd
    ·rename_i ht
     cases hd
     refine castT_rep ht ?_
     obtain ⟨B',hB',hi,b,off,m,cap,po,t',hv,hp,rfl⟩:=hA
     rw [hB] at hB';cases hB'
     have hown:=hR.heap r B hB
     obtain ⟨cs,bi,hc,ho,hsub,hb⟩:=own_elem hown hv (getD_of_lt B.xs i B.t.dflt hi)
     have hGo:=hdis r (by simp [lendA,refA])
     have hblt:∀ c∈own r,c<w.heap.size:=hR.own_lt hB
     have hrep:t'=d.t∧RepC w' G' d.t d.x ((cs.drop po).take d.t.size):=by
      revert ho
      unfold entR
      cases hbor:B.bor with
      | true =>
       intro ho
       obtain ⟨o,ho1,ho2,ho3⟩:=pathD_rep hpd ho.1
       rw [hp] at ho1;cases ho1
       exact ⟨rfl,ho2.keep hG (hR.keepG k)⟩
      | false =>
       intro ho
       obtain ⟨o,bs',ho1,ho2,ho3,ho4⟩:=pathD_own hpd ho
       rw [hp] at ho1;cases ho1
       exact ⟨rfl,(ho2.keep (w':=w') fun c hc=>k.block c (hblt c (hsub c (ho4 c hc))) (by simp)).read fun c hc=>hGo c (hsub c (ho4 c hc))⟩
     obtain ⟨rfl,hrep⟩:=hrep
     exact ⟨b,_,(cs.drop po).take d.t.size,rfl,hGo b hb,(hc.sub po _).keep (k.block b (hblt b hb) (by simp)),hrep⟩
    ·cases hd
   ·cases hd
  ·cases hd
 ·rename_i r o t'
  split at hd
  ·rename_i B ht hB
   obtain rfl:=of_decide_eq_true ht
   split at hd
   ·rename_i ls hls
    obtain ⟨B',ls',b,off,hB',hls',hv,rfl,hsz⟩:=hA
    rw [hB] at hB';cases hB'
    rw [hls] at hls';cases hls'
    obtain ⟨b1,off1,cs,e1,e3,e4,e5,e6⟩:=hR.boxs r B ls hB hls
    rw [hv] at e1;cases e1
    have hb:=(hR.heap r B hB).block hv (Nat.le_refl _)
    have hlt:=hR.own_lt hB b hb
    simp only [lendA,hB,hls] at hdis
    exact ⟨b,off+o,(cs.drop o).take t'.size,rfl,hdis r (List.mem_cons_self ..) b hb,(CellsAt.sub e5 o _).keep (k.block b hlt (by simp)),
     readLs_rep hR k hG (repLs_take _ (repLs_drop _ e6)) hd fun s hs=>hdis s (List.mem_cons_of_mem _ (refLs_sub o (.inr (refLs_sub t'.size (.inl hs)))))⟩
   ·cases hd
  ·cases hd
 ·cases hd
theorem decCaps_rep (hR:RelV n K w0 G w a E L V own) {w':World} (k:Kept [] w w') (hG:∀ b,G b→G' b):∀ {caps:List (Bool×Ty)} {ats:List Atom} {x:capsDen caps} {us:List Nat} {vs:List Value},
  decCaps L caps ats=some (x,us)→RepAs w0 G L V ats vs→(∀ r∈us,∀ b∈own r,G' b)→CapsRep w' G' caps x vs
 | [],[],x,us,vs,h,hr,_=>hr
 | (true,t) :: r,A :: s,x,us,vs,h,hr,hd=>by
  obtain ⟨v,vs',rfl,h1,h2⟩:=hr
  simp only [decCaps] at h
  split at h
  ·rename_i y z us' hy hz
   cases h
   exact ⟨v,vs',rfl,decP_rep hR k hG h1 hy (fun r hr=>hd r (List.mem_append_left _ hr)),decCaps_rep hR k hG hz h2 (fun r hr=>hd r (List.mem_append_right _ hr))⟩
  ·cases h
 | (false,t) :: r,A :: s,x,us,vs,h,hr,hd=>by
  obtain ⟨v,vs',rfl,h1,h2⟩:=hr
  simp only [decCaps] at h
  split at h
  ·rename_i y z us' hy hz
   cases h
   exact ⟨v,vs',rfl,decB_rep (repB_keep hG (hR.keepG k) (repB_of_decB h1 hy)) hy,decCaps_rep hR k hG hz h2 hd⟩
  ·cases h
 | [],_ :: _,_,_,_,h,_,_=>by cases h
 | (true,_) :: _,[],_,_,_,h,_,_=>by cases h
 | (false,_) :: _,[],_,_,_,h,_,_=>by cases h
def RepPs (w0:World) (G:Nat→Prop) (L:Heap) (V:Nat→Value):List PV→List Value→Prop
 | [],vs=>vs=[]
 | p :: r,vs=>∃ v s,vs=v :: s∧RepP w0 G L V p v∧RepPs w0 G L V r s
theorem RelV.opnds (hR:RelV n K w0 G w a E L V own):∀ xs:List Operand,RepPs w0 G L V (xs.map (Am.opnd E)) (xs.map a.eval)
 | []=>rfl
 | x :: r=>⟨_,_,rfl,hR.opnd x,hR.opnds r⟩
theorem repPs_atoms:∀ {ats:List Atom} {vs:List Value},RepAs w0 G L V ats vs→RepPs w0 G L V (ats.map PV.a) vs
 | [],vs,h=>h
 | A :: s,vs,⟨v,r,h,h1,h2⟩=>⟨v,r,h,h1,repPs_atoms h2⟩
theorem repPs_append:∀ {ps qs:List PV} {vs us:List Value},RepPs w0 G L V ps vs→RepPs w0 G L V qs us→RepPs w0 G L V (ps++qs) (vs++us)
 | [],qs,vs,us,h,h2=>by cases h;exact h2
 | p :: r,qs,vs,us,⟨v,s,h,h1,h3⟩,h2=>by subst h;exact ⟨v,_,rfl,h1,repPs_append h3 h2⟩
def ownOf (own:Nat→List Nat) (os:List (List Nat)):List (List Nat):=os.map fun l=>(l.map own).flatten
theorem castL_own {w:World} {t t':Ty} (h:t'=t) {xs:List t'.den} {cs:List Value} {bs:List Nat} (hp:OwnC w (.sl t') xs cs bs):OwnC w (.sl t) (castL h xs) cs bs:=by
 subst h;exact hp
theorem own_sub {w:World} {t:Ty} (hf:t.flat=true) {xs:List t.den} {V v:Value} {bs:List Nat} {lo hi:Nat} (h:OwnC w (.sl t) xs [V] bs) (hs:SubSl t.size xs.length V lo hi v):OwnC w (.sl t) (rgL (some (lo,hi)) xs) [v] bs:=by
 obtain ⟨V',hV,h⟩:=h
 cases hV
 obtain ⟨hlo,hhi,hcase⟩:=hs
 have hlen:(rgL (some (lo,hi)) xs).length=hi - lo:=by
  show ((xs.take hi).drop lo).length=hi - lo
  rw [List.length_drop,List.length_take];omega
 refine ⟨v,rfl,by rw [hlen];have:=h.1;omega,?_⟩
 rcases h.2 with ⟨ad,h1,h2,h3⟩ | ⟨b,off,cap,cur,ty,fz,bss,h1,h2,h3,h4,h5,h6,h7,h8,h9⟩
 ·subst h2
  have h0:hi - lo=0:=by simp at hhi;omega
  have hnil:rgL (some (lo,hi)) ([]:List t.den)=[]:=List.eq_nil_of_length_eq_zero (by rw [hlen,h0])
  rcases hcase with ⟨_,ad',_,hv,_⟩ | ⟨b,off,m,cap,o,c,hV,hv,hc,hcase⟩
  ·exact .inl ⟨ad',hv,hnil,h3⟩
  ·rw [h1] at hV
   simp only [Value.slice.injEq] at hV
   obtain ⟨_,_,hcap⟩:=hV
   have:c=0:=by rcases hcase with ⟨_,e⟩ | ⟨e,_⟩ <;> omega
   subst this
   exact .inl ⟨_,by rw [hv,h0],hnil,h3⟩
 ·have hbn:∀ l∈bss,l=[]:=fun l hl=>by
   obtain ⟨i,hi',rfl⟩:=List.mem_iff_getElem.1 hl
   have hx:i<xs.length:=by rw [← h7];exact hi'
   obtain ⟨cs,_,_,hr⟩:=h9 i _ _ (List.getElem?_eq_getElem hx) (List.getElem?_eq_getElem hi')
   exact (hr.flat (w':=w) (G:=fun _=>True) hf).2
  have hb:bss.flatten=[]:=List.flatten_eq_nil_iff.2 hbn
  rcases hcase with ⟨_,_,hV,hv,h0⟩ | ⟨b',off',m,cap',o,c,hV,hv,hc,hcase⟩
  ·obtain ⟨h0,rfl⟩:=h0
   have hx0:xs=[]:=List.eq_nil_of_length_eq_zero h0
   subst hx0
   have hnil:rgL (some (lo,hi)) ([]:List t.den)=[]:=List.eq_nil_of_length_eq_zero (by rw [hlen];simp at hhi;omega)
   rw [hnil,hv, ← hV]
   exact .inr ⟨b,off,cap,cur,ty,fz,bss,h1,h2,h3,h4,h5,h6,h7,h8,h9⟩
  ·rw [h1] at hV
   cases hV
   refine .inr ⟨b,o,c,cur,ty,fz,((bss.take hi).drop lo),by rw [hv,hlen],by rw [hlen];exact hc,by omega,?_,h5,h6,by rw [hlen,List.length_drop,List.length_take,h7];omega,?_,fun i x bi hx hbi => ?_⟩
   ·rcases hcase with ⟨e1,e2⟩ | ⟨e1,e2⟩
    ·have:(lo+c)*t.size≤cap*t.size:=Nat.mul_le_mul_right _ e2
     rw [Nat.add_mul] at this
     omega
    ·rw [e1];omega
   ·have:((bss.take hi).drop lo).flatten=[]:=List.flatten_eq_nil_iff.2 fun l hl=>hbn l (List.mem_of_mem_take (List.mem_of_mem_drop hl))
    rw [h8,hb,this]
   ·have hx':xs[lo+i]? = some x:=by
     change ((xs.take hi).drop lo)[i]? = some x at hx
     rw [List.getElem?_drop,List.getElem?_take] at hx
     split at hx
     ·exact hx
     ·cases hx
    have hb':bss[lo+i]? = some bi:=by
     rw [List.getElem?_drop,List.getElem?_take] at hbi
     split at hbi
     ·exact hbi
     ·cases hbi
    obtain ⟨cs,e1,e2,e3⟩:=h9 (lo+i) x bi hx' hb'
    refine ⟨cs,e1,fun j u hj => ?_,e3⟩
    have hi0:i<hi - lo:=by
     rw [← hlen]
     exact (List.getElem?_eq_some_iff.1 hx).1
    rcases hcase with ⟨f1,_⟩ | ⟨f1,_⟩
    ·have:=e2 j u hj
     rw [Nat.add_mul] at this
     rw [f1]
     rwa [show off+lo*t.size+i*t.size+j=off+(lo*t.size+i*t.size)+j by omega]
    ·omega
theorem slW_rep (hR:RelV n K w0 G w a E L V own) {e:Ty} {l:Leaf} {x:List e.den} {us:List Nat} {v:Value} (hr:RepL w0 G L V l v) (h:slW L e l=some (x,us)) :
  OwnC w (.sl e) x [v] (us.map own).flatten∧∀ r∈us,∃ B,hget L r=some B:=by
 unfold slW at h
 split at h
 ·cases h
  obtain ⟨rfl,⟨h3,h4⟩,_⟩:=hr
  subst h3 h4
  exact ⟨⟨_,rfl,Nat.zero_le _,.inl ⟨_,rfl,rfl,rfl⟩⟩,fun r hr=>by cases hr⟩
 ·rename_i r
  split at h
  ·rename_i B hB
   split at h
   ·cases h
   ·rename_i hbor
    split at h
    ·rename_i he
     cases h
     obtain ⟨B',hB',h1,_⟩:=hr
     rw [hB] at hB'
     cases hB'
     refine ⟨?_,fun s hs=>⟨B,by rw [List.mem_singleton.1 hs];exact hB⟩⟩
     have:=hR.heap r B hB
     obtain ⟨t',xs,bor,_,_⟩:=B
     simp only at hbor he
     subst hbor he
     rw [h1 rfl]
     simp only [List.map_cons,List.map_nil,List.flatten_cons,List.flatten_nil,List.append_nil]
     exact EntC.own.1 this
    ·cases h
  ·cases h
 ·rename_i r lo hi
  split at h
  ·rename_i B hB
   split at h
   ·rename_i hfb
    split at h
    ·rename_i he
     cases h
     obtain ⟨B',hB',_,h2⟩:=hr
     rw [hB] at hB'
     cases hB'
     have hent:=hR.heap r B hB
     obtain ⟨t',xs,bor,bls,bsm⟩:=B
     simp only [Bool.and_eq_true,Bool.not_eq_true'] at hfb he
     obtain ⟨hf,hbor⟩:=hfb
     subst hbor he
     refine ⟨?_,fun s hs=>⟨⟨t',xs,false,bls,bsm⟩,by rw [List.mem_singleton.1 hs];exact hB⟩⟩
     simp only [List.map_cons,List.map_nil,List.flatten_cons,List.flatten_nil,List.append_nil]
     exact own_sub hf (EntC.own.1 hent) h2
    ·cases h
   ·cases h
  ·cases h
 ·cases h
theorem ownLs_rep (hR:RelV n K w0 G w a E L V own):∀ {t:Ty} {ls:List Leaf} {x:t.den} {us:List Nat} {cs:List Value},RepLs w0 G L V ls cs→ownLs L t ls=some (x,us)→OwnC w t x cs (us.map own).flatten∧∀ r∈us,∃ B,hget L r=some B
 | .int k',ls,x,us,cs,hr,h=>by
  simp only [ownLs] at h
  split at h
  ·rename_i y hy
   cases h
   exact ⟨(treeLs_rep (t := .int k') hr hy).own rfl,fun r hr=>by cases hr⟩
  ·cases h
 | .bool,ls,x,us,cs,hr,h=>by
  simp only [ownLs] at h
  split at h
  ·rename_i y hy
   cases h
   exact ⟨(treeLs_rep (t := .bool) hr hy).own rfl,fun r hr=>by cases hr⟩
  ·cases h
 | .fn,ls,x,us,cs,hr,h=>by
  simp only [ownLs] at h
  split at h
  ·rename_i y hy
   cases h
   exact ⟨(treeLs_rep (t := .fn) hr hy).own rfl,fun r hr=>by cases hr⟩
  ·cases h
 | .str,ls,x,us,cs,hr,h=>by
  simp only [ownLs] at h
  split at h
  ·rename_i y hy
   cases h
   exact ⟨(treeLs_rep (t := .str) hr hy).own rfl,fun r hr=>by cases hr⟩
  ·cases h
 | .unit,ls,x,us,cs,hr,h=>by
  simp only [ownLs] at h
  split at h
  ·rename_i y hy
   cases h
   exact ⟨(treeLs_rep (t := .unit) hr hy).own rfl,fun r hr=>by cases hr⟩
  ·cases h
 | .sl e,ls,x,us,cs,hr,h=>by
  simp only [ownLs] at h
  split at h
  ·rename_i l
   obtain ⟨v,r,rfl,h1,h2⟩:=hr
   cases h2
   exact slW_rep hR h1 h
  ·cases h
 | .cons p q,ls,x,us,cs,hr,h=>by
  simp only [ownLs] at h
  split at h
  ·rename_i y ys z zs hy hz
   cases h
   obtain ⟨h1,h2⟩:=ownLs_rep hR (repLs_take p.size hr) hy
   obtain ⟨h3,h4⟩:=ownLs_rep hR (repLs_drop p.size hr) hz
   refine ⟨⟨_,_,_,_,(List.take_append_drop p.size cs).symm,by rw [List.map_append,List.flatten_append],h1,h3⟩,fun r hr => ?_⟩
   rcases List.mem_append.1 hr with hr | hr
   ·exact h2 r hr
   ·exact h4 r hr
  ·cases h
theorem one1_eq {α:Type} {l:List α} {x:α} (h:one1 l=some x):l=[x]:=by
 match l,h with
 | [y],h=>cases h;rfl
theorem box_own (hR:RelV n K w0 G w a E L V own) {r:Nat} {A:Arr} {ls:List Leaf} {b off:Nat} (hA:hget L r=some A) (hls:A.ls=some ls) (hx:A.xs=[]) (hv:V r = .slice (some ⟨b,off,none⟩) 0 1) {t:Ty} (ht:A.t=t) {x:t.den} {us:List Nat} (ho:ownLs L t ls=some (x,us)) :
  PoAt w t x (.pointer (some ⟨b,off,none⟩)) (own r++(us.map own).flatten)∧∀ s∈us,∃ B,hget L s=some B:=by
 subst ht
 obtain ⟨b1,off1,cs,e1,e3,e4,e5,e6⟩:=hR.boxs r A ls hA hls
 rw [hv] at e1;cases e1
 obtain ⟨h1,h2⟩:=ownLs_rep hR e6 ho
 refine ⟨⟨b,off,rfl,by simp [maxLen],?_⟩,h2⟩
 rcases (hR.heap r A hA).2 with ⟨_,g1,_,_⟩ | ⟨b',off',cap',cur,ty,fz,bss,g1,g2,g3,g4,g5,g6,g7,g8,g9⟩
 ·rw [hv] at g1;cases g1
 ·rw [hv] at g1
  simp only [Value.slice.injEq,Option.some.injEq,Addr.mk.injEq] at g1
  obtain ⟨⟨q1,q2,_⟩,_,q3⟩:=g1
  have hbss:bss=[]:=List.eq_nil_of_length_eq_zero (by rw [g7,hx];rfl)
  subst hbss q1 q2 q3
  refine .inr ⟨b,off,1,cur,ty,fz,[(us.map own).flatten],rfl,Nat.le_refl _,by simp [maxLen],by omega,g5,g6,rfl,by rw [g8];simp,fun i y bi hy hb => ?_⟩
  cases i with
  | succ i=>simp at hy
  | zero =>
   cases hy;cases hb
   refine ⟨cs,e3,fun j c hj => ?_,h1⟩
   have:=e5 j c hj
   simp only [World.cell?, g5] at this
   simpa using this
def LendG (G:Nat→Prop) (own:Nat→List Nat) (us:List Nat) (b:Nat):Prop:=G b∨∃ r∈us,b∈own r
def SmG (K:Ctx) (G:Nat→Prop) (sm:Bool):Nat→Prop:=if sm=true then K.G0 else G
theorem decPb_rep (hR:RelV n K w0 G w a E L V own) {w':World} (k:Kept [] w w') {q:Bool} {t:Ty} {A:Atom} {x:t.den} {us:List Nat} {v:Value} (hA:RepA w0 G L V A v) (h:decPb L t A=some (x,us)) (hq:q=true→smA L (.pb t) (.a A)=true) :
  PbAt w' (SmG K G q) t x v (us.map own).flatten∧∃ r B b off,us=[r]∧A = .optr r 0 []∧hget L r=some B∧B.t=t∧B.bor=true∧B.ls=none∧B.xs.length=1∧V r = .slice (some ⟨b,off,none⟩) 1 1∧v = .pointer (some ⟨b,off,none⟩):=by
 unfold decPb at h
 split at h
 ·rename_i r
  split at h
  ·rename_i B hB
   split at h
   ·rename_i qs hbor hls hsmB
    split at h
    ·rename_i ht
     split at h
     ·rename_i x hx
      cases h
      obtain ⟨B',hB',hi,b,off,m,cap,po,t',hv,hp,rfl⟩:=hA
      rw [hB] at hB';cases hB'
      simp only [pathOff,Option.some.injEq,Prod.mk.injEq] at hp
      obtain ⟨rfl,rfl⟩:=hp
      obtain ⟨⟨b1,off1,hv1⟩,hsm⟩:=hR.small r B qs hB hsmB
      have hsq:q=true→qs=true:=fun e=>by
       have:=hq e
       simp only [smA,hB,hsmB] at this
       split at this
       ·rename_i h;exact Option.some.inj h
       ·cases this
      obtain ⟨tB,xB,bB,lB,sB⟩:=B
      simp only at hbor hls ht
      subst ht
      have hy:xB=[x]:=one1_eq hx
      subst hbor hls hy
      rw [hv1] at hv
      cases hv
      have hent:EntC w' (SmG K G q) w' ⟨tB,[x],true,none,none⟩ (V r) (own r):=by
       have e1:EntC w0 (SmG K G q) w ⟨tB,[x],true,none,none⟩ (V r) (own r):=by
        unfold SmG
        cases q with
        | true=>exact (hsm (hsq rfl)).2
        | false=>exact (show EntC w0 G w ⟨tB,[x],true,none,sB⟩ (V r) (own r) from hR.heap r _ hB)
       refine e1.keepG (fun _ h=>h) (fun b hb=>hR.keepG k b ?_) (fun b hb=>k.block b (hR.own_lt hB b hb) (by simp))
       unfold SmG at hb
       split at hb
       ·exact hR.gsub b hb
       ·exact hb
      rw [hv1] at hent
      refine ⟨⟨b,off,by simp,?_⟩,r,_,b,off,rfl,rfl,hB,rfl,rfl,rfl,rfl,hv1,by simp⟩
      simp only [List.map_cons,List.map_nil,List.flatten_cons,List.flatten_nil,List.append_nil]
      exact hent
     ·cases h
    ·cases h
   ·cases h
  ·cases h
 ·cases h
theorem decPo_rep (hR:RelV n K w0 G w a E L V own) {w':World} (k:Kept [] w w') {t:Ty} {A:Atom} {x:t.den} {us:List Nat} {v:Value} (hA:RepA w0 G L V A v) (h:decPo L t A=some (x,us)) :
  PoAt w' t x v (us.map own).flatten∧(∀ r∈us,∃ B,hget L r=some B)∧∃ r B vs b off ls,us=r :: vs∧A = .bptr r 0 t∧hget L r=some B∧B.t=t∧B.xs=[]∧B.ls=some ls∧V r = .slice (some ⟨b,off,none⟩) 0 1∧v = .pointer (some ⟨b,off,none⟩):=by
 unfold decPo at h
 split at h
 ·rename_i r t'
  split at h
  ·rename_i B ht hB
   split at h
   ·rename_i ls hls hck
    split at h
    ·rename_i y us1 hown
     cases h
     have ht:=of_decide_eq_true ht
     simp only [Bool.and_eq_true,decide_eq_true_eq,List.isEmpty_iff] at hck
     obtain ⟨hBt,hxs⟩:=hck
     subst ht
     obtain ⟨B',ls',b,off,hB',hls',hv,rfl,hsz⟩:=hA
     rw [hB] at hB';cases hB'
     obtain ⟨h1,h2⟩:=box_own (hR.ext k) hB hls hxs hv hBt hown
     refine ⟨by simpa using h1,fun s hs => ?_,r,B,us1,b,off,ls,rfl,rfl,hB,hBt,hxs,hls,hv,by simp⟩
     rcases List.mem_cons.1 hs with rfl | hs
     ·exact ⟨B,hB⟩
     ·exact h2 s hs
    ·cases h
   ·cases h
  ·cases h
 ·cases h
theorem decSv_rep (hR:RelV n K w0 G w a E L V own) {w':World} (k:Kept [] w w') {t:Ty} {A:Atom} {x:t.den} {us:List Nat} {v:Value} (hA:RepA w0 G L V A v) (h:decSv L t A=some (x,us)) :
  SvAt w' t x v (us.map own).flatten∧∀ r∈us,∃ B,hget L r=some B:=by
 unfold decSv at h
 split at h
 ·rename_i t' ls
  split at h
  ·rename_i ht
   obtain rfl:=of_decide_eq_true ht
   obtain ⟨cs,rfl,hl,hr⟩:=hA
   obtain ⟨h1,h2⟩:=ownLs_rep (hR.ext k) hr h
   exact ⟨⟨cs,rfl,h1⟩,h2⟩
  ·cases h
 ·cases h
theorem decArgs_rep (hR:RelV n K w0 G w a E L V own) {w':World} (k:Kept [] w w') (hG:∀ b,G b→G' b) {q:Bool}:∀ {sig:List AT} {ps:List PV} {vs:List Value} {x:sigDen sig} {os:List (List Nat)} {us:List Nat},
  RepPs w0 G L V ps vs→decArgs L sig ps=some (x,os,us)→(q=true→smArgs L sig ps=true)→(∀ r∈us,∀ b∈own r,G' b)→ArgsK w' G' (SmG K G q) sig x vs (ownOf own os)
 | [],[],vs,x,os,us,hp,h,_,_=>by cases h;cases hp;exact ⟨rfl,rfl⟩
 | t :: r,y :: s,vs,x,os,us,⟨v,vs',hvs,hpy,hps⟩,h,hq,hd=>by
  subst hvs
  simp only [decArgs] at h
  split at h
  ·rename_i z o u zs os' us' h1 h2
   cases h
   have ih:=decArgs_rep hR k hG hps h2 (fun e=>by have:=hq e;simp only [smArgs,Bool.and_eq_true] at this;exact this.2) (fun r hr=>hd r (List.mem_append_right _ hr))
   have hd1:=fun r hr=>hd r (List.mem_append_left us' hr)
   refine ⟨_,_,(o.map own).flatten,ownOf own os',rfl,rfl,?_,ih⟩
   cases t with
   | v t =>
    cases y with
    | a A =>
     simp only [decA] at h1
     split at h1
     ·rename_i q hq
      cases h1
      exact ⟨rfl,decV_rep hR k hG hpy hq hd1⟩
     ·cases h1
    | tup _=>cases h1
    | fn _ _=>cases h1
   | p t =>
    cases y with
    | a A =>
     simp only [decA] at h1
     split at h1
     ·rename_i q hq
      cases h1
      exact ⟨rfl,decP_rep hR k hG hpy hq hd1⟩
     ·cases h1
    | tup _=>cases h1
    | fn _ _=>cases h1
   | own t =>
    cases y with
    | a A =>
     cases A with
     | osl r rg =>
      cases rg with
      | none =>
       simp only [decA] at h1
       split at h1
       ·rename_i B hB
        split at h1
        ·cases h1
        rename_i hbor
        split at h1
        ·rename_i ht
         cases h1
         obtain ⟨B',hB',hve,hs⟩:=hpy
         rw [hB] at hB';cases hB'
         obtain ⟨tB,xB,bB,lB,sB⟩:=B
         simp only at hbor
         subst hbor
         have hown:=(hR.heap r _ hB).keep (w':=w') fun b hb=>k.block b (hR.own_lt hB b hb) (by simp)
         have hv:v=V r:=hve rfl
         simp only [List.map_cons,List.map_nil,List.flatten_cons,List.flatten_nil,List.append_nil]
         rw [hv]
         exact castL_own ht (EntC.own.1 hown)
        ·cases h1
       ·cases h1
      | some q=>cases h1
     | _=>cases h1
    | tup _=>cases h1
    | fn _ _=>cases h1
   | pb t =>
    cases y with
    | a A =>
     simp only [decA] at h1
     split at h1
     ·rename_i x us1 hpb
      cases h1
      refine (decPb_rep hR k hpy hpb (q:=q) fun e => ?_).1
      have:=hq e
      simp only [smArgs,Bool.and_eq_true] at this
      exact this.1
     ·cases h1
    | tup _=>cases h1
    | fn _ _=>cases h1
   | po t =>
    cases y with
    | a A =>
     simp only [decA] at h1
     split at h1
     ·rename_i x us1 hpo
      cases h1
      exact (decPo_rep hR k hpy hpo).1
     ·cases h1
    | tup _=>cases h1
    | fn _ _=>cases h1
   | sv t =>
    cases y with
    | a A =>
     simp only [decA] at h1
     split at h1
     ·rename_i x us1 hsv
      cases h1
      exact (decSv_rep hR k hpy hsv).1
     ·cases h1
    | tup _=>cases h1
    | fn _ _=>cases h1
   | fns fs =>
    cases y with
    | a A =>
     simp only [decA] at h1
     split at h1
     ·rename_i q hq
      split at h1
      ·rename_i hfs
       cases h1
       exact ⟨rfl,by rw [← fnsB_eq hfs];exact decV_rep hR k hG hpy hq hd1⟩
      ·cases h1
     ·cases h1
    | tup _=>cases h1
    | fn _ _=>cases h1
   | fn f caps =>
    cases y with
    | a A=>cases h1
    | tup _=>cases h1
    | fn g ats =>
     simp only [decA] at h1
     split at h1
     ·rename_i q2 us'' hfg hq2
      cases h1
      obtain ⟨vs,hv,hr⟩:=hpy
      obtain rfl:=Nat.eq_of_beq_eq_true hfg
      exact ⟨rfl,vs,hv,decCaps_rep hR k hG hq2 hr hd1⟩
     ·cases h1
  ·cases h
 | [],_ :: _,_,_,_,_,_,h,_,_=>by cases h
 | _ :: _,[],_,_,_,_,_,h,_,_=>by cases h
end
end Go.Am
namespace Go.Am
set_option linter.unusedVariables false
set_option linter.unusedSimpArgs false
def refsP:PV→List Nat
 | .a A=>refA A
 | .tup xs=>xs.flatMap refA
 | .fn _ xs=>xs.flatMap refA
def killP (r:Nat) (p:PV):PV:=match memB r (refsP p) with | true => .a .junk | false=>p
def killE (r:Nat) (E:Env):Env:=E.map fun q=>(q.1,killP r q.2)
theorem get_killE (r:Nat):∀ (E:Env) (i:Nat),(killE r E).get i=killP r (E.get i)
 | [],i=>rfl
 | (j,p) :: s,i=>by
  simp only [killE,List.map_cons,Env.get]
  cases h:Nat.beq j i with
  | true=>rfl
  | false=>exact get_killE r s i
theorem killP_refs {r:Nat} {p:PV}:r ∉ refsP (killP r p)∧∀ s∈refsP (killP r p),s∈refsP p:=by
 unfold killP
 cases h:memB r (refsP p) with
 | true=>simp [refsP,refA]
 | false =>
  refine ⟨fun hm => ?_,fun _ h=>h⟩
  rw [memB_iff.2 hm] at h
  cases h
def Agree (L:Heap) (V:Nat→Value) (L':Heap) (V':Nat→Value) (r:Nat):Prop :=
 V' r=V r∧∀ A,hget L r=some A→∃ A',hget L' r=some A'∧A'.t=A.t∧A'.xs.length=A.xs.length∧∀ ls,A.ls=some ls→∃ ls',A'.ls=some ls'
theorem Agree.of_same {L:Heap} {V:Nat→Value} {L':Heap} {V':Nat→Value} {r:Nat} (hV:V' r=V r) (h:hget L' r=hget L r):Agree L V L' V' r :=
 ⟨hV,fun A hA=>⟨A,by rw [h];exact hA,rfl,rfl,fun ls h=>⟨ls,h⟩⟩⟩
theorem Agree.trans {L L1 L2:Heap} {V V1 V2:Nat→Value} {r:Nat} (h:Agree L V L1 V1 r) (k:Agree L1 V1 L2 V2 r):Agree L V L2 V2 r:=by
 refine ⟨k.1.trans h.1,fun A hA => ?_⟩
 obtain ⟨A',e1,e2,e3,e4⟩:=h.2 A hA
 obtain ⟨A'',f1,f2,f3,f4⟩:=k.2 A' e1
 exact ⟨A'',f1,f2.trans e2,f3.trans e3,fun ls hls=>by obtain ⟨l',h'⟩:=e4 ls hls;exact f4 l' h'⟩
theorem repO_agree {L L':Heap} {V V':Nat→Value} {r:Nat} {rg:Option (Nat×Nat)} {v:Value} (h:RepO L V r rg v) (ha:Agree L V L' V' r):RepO L' V' r rg v:=by
 obtain ⟨B,hB,h1,h2⟩:=h
 obtain ⟨hV,hL⟩:=ha
 obtain ⟨B',hB',ht,hl,_⟩:=hL B hB
 exact ⟨B',hB',by rw [hV];exact h1,by rw [hV,hl,ht];exact h2⟩
theorem repL_agree {w0:World} {G:Nat→Prop} {L L':Heap} {V V':Nat→Value} {l:Leaf} {v:Value} (h:RepL w0 G L V l v) (ha:∀ r∈refL l,Agree L V L' V' r):RepL w0 G L' V' l v:=by
 cases l with
 | osl r rg=>exact repO_agree h (ha r (by simp [refL]))
 | _=>exact h
theorem repLs_agree {w0:World} {G:Nat→Prop} {L L':Heap} {V V':Nat→Value}:∀ {ls:List Leaf} {cs:List Value},RepLs w0 G L V ls cs→(∀ r∈refLs ls,Agree L V L' V' r)→RepLs w0 G L' V' ls cs
 | [],_,h,_=>h
 | l :: ls,_,⟨v,r,h,h1,h2⟩,ha=>⟨v,r,h,repL_agree h1 (fun r hr=>ha r (by simp [refLs,hr])),repLs_agree h2 (fun r hr=>ha r (by simp [refLs,hr]))⟩
theorem repA_agree {w0:World} {G:Nat→Prop} {L L':Heap} {V V':Nat→Value} {A:Atom} {v:Value} (h:RepA w0 G L V A v) (ha:∀ r∈refA A,Agree L V L' V' r):RepA w0 G L' V' A v:=by
 cases A with
 | osl r rg=>exact repO_agree h (ha r (by simp [refA]))
 | optr r i p =>
  obtain ⟨B,hB,h2⟩:=h
  obtain ⟨hV,hL⟩:=ha r (by simp [refA])
  obtain ⟨B',hB',ht,hl,_⟩:=hL B hB
  exact ⟨B',hB',by rw [hV,hl,ht];exact h2⟩
 | rcd t ls =>
  obtain ⟨cs,h1,h2,h3⟩:=h
  exact ⟨cs,h1,h2,repLs_agree h3 ha⟩
 | bptr r o t =>
  obtain ⟨B,ls,b,off,hB,h1,h2,h3,h4⟩:=h
  obtain ⟨hV,hL⟩:=ha r (by simp [refA])
  obtain ⟨B',hB',ht,hl,hls⟩:=hL B hB
  obtain ⟨ls',hls'⟩:=hls ls h1
  exact ⟨B',ls',b,off,hB',hls',by rw [hV];exact h2,h3,by rw [ht];exact h4⟩
 | _=>exact h
theorem repAs_agree {w0:World} {G:Nat→Prop} {L L':Heap} {V V':Nat→Value}:∀ {ats:List Atom} {vs:List Value},RepAs w0 G L V ats vs→(∀ r∈ats.flatMap refA,Agree L V L' V' r)→RepAs w0 G L' V' ats vs
 | [],_,h,_=>h
 | A :: s,vs,⟨v,r,h,h1,h2⟩,ha=>⟨v,r,h,repA_agree h1 (fun r hr=>ha r (by simp [hr])),repAs_agree h2 (fun r hr=>ha r (by simp only [List.flatMap_cons,List.mem_append];exact .inr hr))⟩
theorem repP_agree {w0:World} {G:Nat→Prop} {L L':Heap} {V V':Nat→Value} {p:PV} {v:Value} (h:RepP w0 G L V p v) (ha:∀ r∈refsP p,Agree L V L' V' r):RepP w0 G L' V' p v:=by
 cases p with
 | a A=>exact repA_agree h ha
 | tup xs=>obtain ⟨vs,hv,hr⟩:=h;exact ⟨vs,hv,repAs_agree hr ha⟩
 | fn f xs=>obtain ⟨vs,hv,hr⟩:=h;exact ⟨vs,hv,repAs_agree hr ha⟩
theorem repP_kill {w0:World} {G:Nat→Prop} {L:Heap} {V:Nat→Value} {p:PV} {v:Value} (r:Nat) (h:RepP w0 G L V p v):RepP w0 G L V (killP r p) v:=by
 unfold killP
 cases memB r (refsP p) with
 | true=>trivial
 | false=>exact h
theorem repO_live {L:Heap} {V:Nat→Value} {r:Nat} {rg:Option (Nat×Nat)} {v:Value} (h:RepO L V r rg v):∃ B,hget L r=some B:=by
 obtain ⟨B,hB,_⟩:=h;exact ⟨B,hB⟩
theorem repLs_live {w0:World} {G:Nat→Prop} {L:Heap} {V:Nat→Value}:∀ {ls:List Leaf} {cs:List Value},RepLs w0 G L V ls cs→∀ r∈refLs ls,∃ B,hget L r=some B
 | [],_,_,r,hr=>by cases hr
 | l :: ls,_,⟨v,q,_,h1,h2⟩,r,hr=>by
  simp only [refLs,List.mem_append] at hr
  rcases hr with hr | hr
  ·cases l with
   | osl s rg=>simp only [refL,List.mem_singleton] at hr;subst hr;exact repO_live h1
   | _=>simp [refL] at hr
  ·exact repLs_live h2 r hr
theorem repA_live {w0:World} {G:Nat→Prop} {L:Heap} {V:Nat→Value} {A:Atom} {v:Value} (h:RepA w0 G L V A v):∀ r∈refA A,∃ B,hget L r=some B:=by
 cases A with
 | osl r rg=>intro s hs;simp [refA] at hs;subst hs;exact repO_live h
 | optr r i p=>obtain ⟨B,hB,_⟩:=h;intro s hs;simp [refA] at hs;subst hs;exact ⟨B,hB⟩
 | rcd t ls=>obtain ⟨cs,_,_,h⟩:=h;exact repLs_live h
 | bptr r o t=>obtain ⟨B,ls,b,off,hB,_⟩:=h;intro s hs;simp [refA] at hs;subst hs;exact ⟨B,hB⟩
 | _=>intro s hs;simp [refA] at hs
theorem repAs_live {w0:World} {G:Nat→Prop} {L:Heap} {V:Nat→Value}:∀ {ats:List Atom} {vs:List Value},RepAs w0 G L V ats vs→∀ r∈ats.flatMap refA,∃ B,hget L r=some B
 | [],_,_,r,hr=>by simp at hr
 | A :: s,vs,⟨v,q,h,h1,h2⟩,r,hr=>by
  simp only [List.flatMap_cons,List.mem_append] at hr
  rcases hr with hr | hr
  ·exact repA_live h1 r hr
  ·exact repAs_live h2 r hr
theorem repP_live {w0:World} {G:Nat→Prop} {L:Heap} {V:Nat→Value} {p:PV} {v:Value} (h:RepP w0 G L V p v):∀ r∈refsP p,∃ B,hget L r=some B:=by
 cases p with
 | a A=>exact repA_live h
 | tup xs=>obtain ⟨vs,hv,hr⟩:=h;exact repAs_live hr
 | fn f xs=>obtain ⟨vs,hv,hr⟩:=h;exact repAs_live hr
def upd1 {β:Type} (f:Nat→β) (r:Nat) (x:β):Nat→β:=fun s=>cond (Nat.beq s r) x (f s)
theorem upd1_same {β:Type} (f:Nat→β) (r:Nat) (x:β):upd1 f r x r=x:=by simp [upd1]
theorem upd1_other {β:Type} (f:Nat→β) {r s:Nat} (x:β) (h:s≠r):upd1 f r x s=f s:=by
 simp only [upd1,nbeq_false h,cond_false]
def killLf (r:Nat):Leaf→Leaf
 | .osl s rg=>match Nat.beq s r with | true => .junk | false => .osl s rg
 | l=>l
def killR (r:Nat) (A:Arr):Arr:=match A.ls with
 | some ls=>⟨A.t,A.xs,A.bor,some (ls.map (killLf r)),A.sm⟩
 | none=>A
def killH (r:Nat) (L:Heap):Heap:=L.map fun o=>match o with | some A=>some (killR r A) | none=>none
theorem hget_killH (r:Nat):∀ (L:Heap) (s:Nat),hget (killH r L) s=(hget L s).map (killR r)
 | [],_=>rfl
 | some A :: L,0=>rfl
 | none :: L,0=>rfl
 | _ :: L,s+1=>by simp only [killH,List.map_cons,hget];exact hget_killH r L s
theorem killR_t (r:Nat) (A:Arr):(killR r A).t=A.t:=by unfold killR;split <;> rfl
theorem killR_sm (r:Nat) (A:Arr):(killR r A).sm=A.sm:=by unfold killR;split <;> rfl
theorem killR_bor (r:Nat) (A:Arr):(killR r A).bor=A.bor:=by unfold killR;split <;> rfl
theorem killR_ent {w0 w:World} {G:Nat→Prop} {r:Nat} {A:Arr} {v:Value} {bs:List Nat}:EntC w0 G w (killR r A) v bs↔EntC w0 G w A v bs:=by
 unfold killR
 split
 ·exact Iff.rfl
 ·exact Iff.rfl
theorem killR_len (r:Nat) (A:Arr):(killR r A).xs.length=A.xs.length:=by unfold killR;split <;> rfl
theorem killR_ls {r:Nat} {A:Arr}:(∀ ls,A.ls=some ls→(killR r A).ls=some (ls.map (killLf r)))∧∀ ls',(killR r A).ls=some ls'→∃ ls,A.ls=some ls∧ls'=ls.map (killLf r):=by
 unfold killR
 split
 ·rename_i ls h
  refine ⟨fun l hl => ?_,fun l hl => ?_⟩
  ·rw [h] at hl;cases hl;rfl
  ·cases hl;exact ⟨ls,h,rfl⟩
 ·rename_i h
  refine ⟨fun l hl => ?_,fun l hl => ?_⟩
  ·rw [h] at hl;cases hl
  ·rw [h] at hl;cases hl
theorem agree_killH (r:Nat) (L:Heap) (V:Nat→Value) (s:Nat):Agree L V (killH r L) V s :=
 ⟨rfl,fun A hA=>⟨killR r A,by rw [hget_killH,hA];rfl,killR_t r A,killR_len r A,fun ls hls=>⟨_,killR_ls.1 ls hls⟩⟩⟩
theorem killLs_rep {w0:World} {G:Nat→Prop} {L:Heap} {V:Nat→Value} (r:Nat):∀ {ls:List Leaf} {cs:List Value},RepLs w0 G L V ls cs→RepLs w0 G L V (ls.map (killLf r)) cs
 | [],_,h=>h
 | l :: ls,_,⟨v,s,h,h1,h2⟩=>by
  refine ⟨v,s,h,?_,killLs_rep r h2⟩
  cases l with
  | osl s' rg =>
   simp only [killLf]
   cases Nat.beq s' r with
   | true=>exact RepO.one h1
   | false=>exact h1
  | _=>exact h1
theorem killLs_refs {r:Nat}:∀ {ls:List Leaf},r ∉ refLs (ls.map (killLf r))∧∀ s∈refLs (ls.map (killLf r)),s∈refLs ls
 | []=>⟨by simp [refLs],fun s hs=>hs⟩
 | l :: ls=>by
  obtain ⟨h1,h2⟩:=killLs_refs (r:=r) (ls:=ls)
  have key:r ∉ refL (killLf r l)∧∀ s∈refL (killLf r l),s∈refL l:=by
   cases l with
   | osl s rg =>
    simp only [killLf]
    cases hb:Nat.beq s r with
    | true=>simp [refL]
    | false =>
     refine ⟨?_,fun s hs=>hs⟩
     simp only [refL,List.mem_singleton]
     intro e
     subst e
     simp at hb
   | _=>simp [killLf,refL]
  simp only [List.map_cons,refLs,List.mem_append,not_or]
  exact ⟨⟨key.1,h1⟩,fun s hs=>hs.imp (key.2 s) (h2 s)⟩
theorem BoxC.agree {w0 w:World} {G:Nat→Prop} {L L':Heap} {V V':Nat→Value} {t:Ty} {ls:List Leaf} {v:Value} (h:BoxC w0 G w L V t ls v) (ha:∀ r∈refLs ls,Agree L V L' V' r):BoxC w0 G w L' V' t ls v:=by
 obtain ⟨b,off,cs,h1,h3,h4,h5,h6⟩:=h
 exact ⟨b,off,cs,h1,h3,h4,h5,repLs_agree h6 ha⟩
theorem BoxC.live {w0 w:World} {G:Nat→Prop} {L:Heap} {V:Nat→Value} {t:Ty} {ls:List Leaf} {v:Value} (h:BoxC w0 G w L V t ls v):∀ r∈refLs ls,∃ B,hget L r=some B:=by
 obtain ⟨b,off,cs,h1,h3,h4,h5,h6⟩:=h
 exact repLs_live h6
theorem BoxC.kill {w0 w:World} {G:Nat→Prop} {L:Heap} {V:Nat→Value} {t:Ty} {ls:List Leaf} {v:Value} (r:Nat) (h:BoxC w0 G w L V t ls v):BoxC w0 G w L V t (ls.map (killLf r)) v:=by
 obtain ⟨b,off,cs,h1,h3,h4,h5,h6⟩:=h
 exact ⟨b,off,cs,h1,h3,by simpa using h4,h5,killLs_rep r h6⟩
section
variable {P:Program} {n:Nat} {K:Ctx} {G:Nat→Prop} {w0 w:World} {a:Act} {E:Env} {L:Heap} {V:Nat→Value} {own:Nat→List Nat}
theorem RelV.grow (hR:RelV n K w0 G w a E L V own) {A0:Arr} {v:Value} {bs:List Nat} (ho:EntC w0 G w A0 v bs) (hn:bs.Nodup) (hg:∀ b∈bs,Out K G b)
  (hd:∀ r A,hget L r=some A→∀ b∈own r,b ∉ bs) (hbox:∀ ls,A0.ls=some ls→BoxC w0 G w L V A0.t ls v:=by intro ls h;cases h) (hsm:∀ q,A0.sm=some q→(∃ b off,v = .slice (some ⟨b,off,none⟩) 1 1)∧(q=true→A0.bor=true∧EntC w0 K.G0 w A0 v bs):=by intro q h;cases h):RelV n K w0 G w a E (L++[some A0]) (upd1 V L.length v) (upd1 own L.length bs):=by
 have hsplit:∀ r A,hget (L++[some A0]) r=some A→(r≠L.length∧hget L r=some A)∨(r=L.length∧A=A0):=by
  intro r A h
  rw [hget_append] at h
  split at h
  ·rename_i hlt;exact .inl ⟨by omega,h⟩
  ·rename_i hge
   have:r - L.length=0:=by
    cases hk:r - L.length with
    | zero=>rfl
    | succ k=>rw [hk] at h;simp [hget] at h
   rw [this] at h
   simp only [hget,Option.some.injEq] at h
   exact .inr ⟨by omega,h.symm⟩
 have hagree:∀ r,(∃ B,hget L r=some B)→Agree L V (L++[some A0]) (upd1 V L.length v) r:=by
  rintro r ⟨B,hB⟩
  have hlt:=hget_lt hB
  refine Agree.of_same (upd1_other _ _ (by omega)) ?_
  rw [hget_append,if_pos hlt]
 refine ⟨hR.glob,hR.kept,hR.size,hR.defers,hR.glt,hR.gref,hR.gsub,hR.gold,hR.gup,?_,?_,?_,?_,?_,?_,fun i=>repP_agree (hR.env i) fun r hr=>hagree r (repP_live (hR.env i) r hr)⟩
 ·intro r A h
  rcases hsplit r A h with ⟨hne,h⟩ | ⟨rfl,rfl⟩
  ·rw [upd1_other _ _ hne,upd1_other _ _ hne];exact hR.heap r A h
  ·rw [upd1_same,upd1_same];exact ho
 ·intro r A h
  rcases hsplit r A h with ⟨hne,h⟩ | ⟨rfl,rfl⟩
  ·rw [upd1_other _ _ hne];exact hR.good r A h
  ·rw [upd1_same];exact hg
 ·intro r A h
  rcases hsplit r A h with ⟨hne,h⟩ | ⟨rfl,rfl⟩
  ·rw [upd1_other _ _ hne];exact hR.nodup r A h
  ·rw [upd1_same];exact hn
 ·intro r s A B h1 h2 hrs
  rcases hsplit r A h1 with ⟨hne,g1⟩ | ⟨rfl,rfl⟩
  ·rcases hsplit s B h2 with ⟨hne',g2⟩ | ⟨rfl,rfl⟩
   ·rw [upd1_other _ _ hne,upd1_other _ _ hne'];exact hR.apart r s A B g1 g2 hrs
   ·rw [upd1_same,upd1_other _ _ hne];exact hd r A g1
  ·rcases hsplit s B h2 with ⟨hne',g2⟩ | ⟨rfl,rfl⟩
   ·rw [upd1_same,upd1_other _ _ hne']
    intro b hb hb'
    exact hd s B g2 b hb' hb
   ·exact absurd rfl hrs
 ·intro r A ls h hls
  rcases hsplit r A h with ⟨hne,h⟩ | ⟨rfl,rfl⟩
  ·rw [upd1_other _ _ hne]
   have hb:=hR.boxs r A ls h hls
   exact hb.agree fun s hs=>hagree s (hb.live s hs)
  ·rw [upd1_same]
   have hb:=hbox ls hls
   exact hb.agree fun s hs=>hagree s (hb.live s hs)
 ·intro r A q h hs
  rcases hsplit r A h with ⟨hne,h⟩ | ⟨rfl,rfl⟩
  ·rw [upd1_other _ _ hne,upd1_other _ _ hne];exact hR.small r A q h hs
  ·rw [upd1_same,upd1_same];exact hsm q hs
theorem repA_new {A0:Arr} {v:Value} {bs:List Nat} {G G':Nat→Prop} {u:World} (h:EntC u G' w A0 v bs):RepA w0 G (L++[some A0]) (upd1 V L.length v) (.osl L.length none) v:=by
 have hg:hget (L++[some A0]) L.length=some A0:=by
  rw [hget_append,if_neg (Nat.lt_irrefl _),Nat.sub_self];rfl
 refine ⟨_,hg,fun _=>(upd1_same _ _ _).symm,?_⟩
 rw [upd1_same]
 refine ⟨Nat.zero_le _,Nat.le_refl _,?_⟩
 rcases h.2 with ⟨ad,h1,h2,_⟩ | ⟨b,off,cap,cur,ty,fz,bss,h1,h2,h3,h4,h5,h6,h7,h8,h9⟩
 ·exact .inl ⟨ad,ad,h1,h1,by rw [h2];exact ⟨rfl,rfl⟩⟩
 ·exact .inr ⟨b,off,A0.xs.length,cap,off,cap,h1,by rw [h1];rfl,by simpa [rgLo,rgHi] using h2,.inl ⟨by simp [rgLo],by simp [rgLo]⟩⟩
theorem hget_new (L:Heap) (A:Arr):hget (L++[some A]) L.length=some A:=by
 rw [hget_append,if_neg (Nat.lt_irrefl _),Nat.sub_self];rfl
theorem RelV.widen (hR:RelV n K w0 G w a E L V own) {F:Nat→Prop} (hF:∀ b,F b→b<w.heap.size) (hF2:∀ b,F b→¬ Good K.w0 K.O b) (hd:∀ b,F b→∀ r A,hget L r=some A→b ∉ own r):RelV n K w (fun b=>G b∨F b) w a E L V own:=by
 have hG:∀ b,G b→(fun b=>G b∨F b) b:=fun b hb => .inl hb
 have repA:∀ {A:Atom} {v:Value},RepA w0 G L V A v→RepA w (fun b=>G b∨F b) L V A v:=by
  intro A v h
  have hls:∀ {ls:List Leaf} {cs:List Value},RepLs w0 G L V ls cs→RepLs w (fun b=>G b∨F b) L V ls cs:=by
   intro ls
   induction ls with
   | nil=>intro cs h;exact h
   | cons l r ih =>
    rintro cs ⟨v,s,h1,h2,h3⟩
    refine ⟨v,s,h1,?_,ih h3⟩
    cases l with
    | sl t xs=>exact SlAt.keep (fun _ _=>RepC.keep hG hR.gref) hG hR.gref h2
    | _=>exact h2
  cases A with
  | osl r rg=>exact h
  | optr r i p=>exact h
  | rcd t ls=>obtain ⟨cs,h1,h2,h3⟩:=h;exact ⟨cs,h1,h2,hls h3⟩
  | bptr r o t=>exact h
  | val u=>exact h
  | sl t xs=>exact repB_keep (A := .sl t xs) hG hR.gref h
  | ptr t x=>exact repB_keep (A := .ptr t x) hG hR.gref h
  | st t x=>exact repB_keep (A := .st t x) hG hR.gref h
  | junk=>exact h
 have repAs:∀ {ats:List Atom} {vs:List Value},RepAs w0 G L V ats vs→RepAs w (fun b=>G b∨F b) L V ats vs:=by
  intro ats
  induction ats with
  | nil=>intro vs h;exact h
  | cons A s ih=>rintro vs ⟨v,r,h1,h2,h3⟩;exact ⟨v,r,h1,repA h2,ih h3⟩
 have hls:∀ {ls:List Leaf} {cs:List Value},RepLs w0 G L V ls cs→RepLs w (fun b=>G b∨F b) L V ls cs:=by
  intro ls
  induction ls with
  | nil=>intro cs h;exact h
  | cons l r ih =>
   rintro cs ⟨v,s,h1,h2,h3⟩
   refine ⟨v,s,h1,?_,ih h3⟩
   cases l with
   | sl t xs=>exact SlAt.keep (fun _ _=>RepC.keep hG hR.gref) hG hR.gref h2
   | _=>exact h2
 refine ⟨hR.glob,hR.kept,hR.size,hR.defers,?_,fun _ _=>rfl,fun b hb => .inl (hR.gsub b hb),hR.gold,fun b hb=>hb.elim (hR.gup b) (fun h => .inr (hF2 b h)),fun r A hA=>(hR.heap r A hA).keepG hG hR.gref (fun _ _=>rfl),?_,hR.nodup,hR.apart,?_,?_,fun i => ?_⟩
 ·rintro b (hb | hb)
  ·exact hR.glt b hb
  ·exact hF b hb
 ·intro r A hA b hb
  obtain ⟨h1,h2⟩:=hR.good r A hA b hb
  exact ⟨h1,fun h=>h.elim h2 fun hf=>hd b hf r A hA hb⟩
 ·intro r A ls hA hls'
  obtain ⟨b,off,cs,h1,h3,h4,h5,h6⟩:=hR.boxs r A ls hA hls'
  exact ⟨b,off,cs,h1,h3,h4,h5,hls h6⟩
 ·intro r A q hA hs
  obtain ⟨h1,h2⟩:=hR.small r A q hA hs
  exact ⟨h1,fun e=>⟨(h2 e).1,(h2 e).2.keepG (fun _ h=>h) (fun b hb=>hR.gref b (hR.gsub b hb)) (fun _ _=>rfl)⟩⟩
 ·have hi:=hR.env i
  generalize E.get i=p at hi
  cases p with
  | a A=>exact repA hi
  | tup xs=>obtain ⟨vs,hv,hr⟩:=hi;exact ⟨vs,hv,repAs hr⟩
  | fn f xs=>obtain ⟨vs,hv,hr⟩:=hi;exact ⟨vs,hv,repAs hr⟩
structure Grown (L:Heap) (es:Heap) (V V':Nat→Value) (own own':Nat→List Nat) (bs:List Nat):Prop where
 same:∀ r,r<L.length→V' r=V r∧own' r=own r
 new:∀ r,L.length≤r→r<L.length+es.length→∀ b∈own' r,b∈bs
theorem Grown.agree {es:Heap} {V V':Nat→Value} {own own':Nat→List Nat} {bs:List Nat} (h:Grown L es V V' own own' bs):∀ r,(∃ B,hget L r=some B)→Agree L V (L++es) V' r:=by
 rintro r ⟨B,hB⟩
 have hlt:=hget_lt hB
 exact Agree.of_same (h.same r hlt).1 (by rw [hget_append,if_pos hlt])
theorem Grown.refl (V:Nat→Value) (own:Nat→List Nat) (bs:List Nat):Grown L [] V V own own bs :=
 ⟨fun r _=>⟨rfl,rfl⟩,fun r h1 h2=>by simp at h2;omega⟩
theorem Grown.trans {es fs:Heap} {V V1 V2:Nat→Value} {own own1 own2:Nat→List Nat} {bs cs ds:List Nat} (h:Grown L es V V1 own own1 bs) (k:Grown (L++es) fs V1 V2 own1 own2 cs) (hb:∀ b∈bs,b∈ds) (hc:∀ b∈cs,b∈ds):Grown L (es++fs) V V2 own own2 ds:=by
 refine ⟨fun r hr => ?_,fun r h1 h2 b hb' => ?_⟩
 ·obtain ⟨e1,e2⟩:=k.same r (by simp;omega)
  obtain ⟨f1,f2⟩:=h.same r hr
  exact ⟨e1.trans f1,e2.trans f2⟩
 ·simp only [List.length_append] at h2
  by_cases hlt:r<L.length+es.length
  ·rw [(k.same r (by simp;omega)).2] at hb'
   exact hb b (h.new r h1 hlt b hb')
  ·exact hc b (k.new r (by simp;omega) (by simp;omega) b hb')
theorem Grown.apart {es:Heap} {V V':Nat→Value} {own own':Nat→List Nat} {bs rest:List Nat} (h:Grown L es V V' own own' bs) (ho:∀ r A,hget L r=some A→∀ b∈own r,b ∉ rest) (hn:∀ b∈bs,b ∉ rest):∀ r A,hget (L++es) r=some A→∀ b∈own' r,b ∉ rest:=by
 intro r A hA b hb
 rw [hget_append] at hA
 split at hA
 ·rename_i hlt
  rw [(h.same r hlt).2] at hb
  exact ho r A hA b hb
 ·rename_i hge
  have:=hget_lt hA
  exact hn b (h.new r (by omega) (by omega) b hb)
def expl (k:Nat):(t:Ty)→t.den→List Leaf×Heap
 | .int k',n=>([.val (.int k' n)],[])
 | .bool,b=>([.val (.bool b)],[])
 | .fn,f=>([.val (fnV f)],[])
 | .str,s=>([.val (.string s)],[])
 | .sl e,xs=>([.osl k none],[some ⟨e,xs,false,none,none⟩])
 | .unit,_=>([],[])
 | .cons a b,x=>match expl k a x.1 with
  | (l1,e1)=>match expl (k+e1.length) b x.2 with
   | (l2,e2)=>(l1++l2,e1++e2)
theorem grow_one (hR:RelV n K w0 G w a E L V own) {A0:Arr} {v:Value} {bs:List Nat} (ho:EntC w0 G w A0 v bs) (hn:bs.Nodup) (hg:∀ b∈bs,Out K G b) (hd:∀ r A,hget L r=some A→∀ b∈own r,b ∉ bs)
  (hbox:∀ ls,A0.ls=some ls→BoxC w0 G w L V A0.t ls v:=by intro ls h;cases h) (hsm:∀ q,A0.sm=some q→(∃ b off,v = .slice (some ⟨b,off,none⟩) 1 1)∧(q=true→A0.bor=true∧EntC w0 K.G0 w A0 v bs):=by intro q h;cases h) :
  RelV n K w0 G w a E (L++[some A0]) (upd1 V L.length v) (upd1 own L.length bs)∧Grown L [some A0] V (upd1 V L.length v) own (upd1 own L.length bs) bs:=by
 refine ⟨hR.grow ho hn hg hd hbox hsm,fun r hr=>⟨upd1_other _ _ (by omega),upd1_other _ _ (by omega)⟩,fun r h1 h2 b hb => ?_⟩
 have:r=L.length:=by simp at h2;omega
 subst this
 rwa [upd1_same] at hb
theorem expl_spec:∀ {t:Ty} {x:t.den} {cs:List Value} {bs:List Nat} {L:Heap} {V:Nat→Value} {own:Nat→List Nat},RelV n K w0 G w a E L V own→OwnC w t x cs bs→bs.Nodup→(∀ b∈bs,Out K G b)→(∀ r A,hget L r=some A→∀ b∈own r,b ∉ bs) →
  ∃ V' own',RelV n K w0 G w a E (L++(expl L.length t x).2) V' own'∧Grown L (expl L.length t x).2 V V' own own' bs∧RepLs w0 G (L++(expl L.length t x).2) V' (expl L.length t x).1 cs∧(expl L.length t x).1.length=t.size
 | .int k,x,cs,bs,L,V,own,hR,ho,_,_,_=>by
  obtain ⟨rfl,h1,_⟩:=ho
  exact ⟨V,own,by simpa [expl] using hR,Grown.refl _ _ _,⟨_,_,rfl,⟨rfl,h1,rfl⟩,rfl⟩,rfl⟩
 | .bool,x,cs,bs,L,V,own,hR,ho,_,_,_=>by
  obtain ⟨rfl,_⟩:=ho
  exact ⟨V,own,by simpa [expl] using hR,Grown.refl _ _ _,⟨_,_,rfl,⟨rfl,trivial,rfl⟩,rfl⟩,rfl⟩
 | .fn,x,cs,bs,L,V,own,hR,ho,_,_,_=>by
  obtain ⟨rfl,_⟩:=ho
  exact ⟨V,own,by simpa [expl] using hR,Grown.refl _ _ _,⟨_,_,rfl,⟨rfl,fnV_ok x,fnV_one x⟩,rfl⟩,rfl⟩
 | .str,x,cs,bs,L,V,own,hR,ho,_,_,_=>by
  obtain ⟨rfl,h1,_⟩:=ho
  exact ⟨V,own,by simpa [expl] using hR,Grown.refl _ _ _,⟨_,_,rfl,⟨rfl,h1,rfl⟩,rfl⟩,rfl⟩
 | .unit,x,cs,bs,L,V,own,hR,ho,_,_,_=>by
  obtain ⟨rfl,_⟩:=ho
  exact ⟨V,own,by simpa [expl] using hR,Grown.refl _ _ _,rfl,rfl⟩
 | .sl e,xs,cs,bs,L,V,own,hR,ho,hn,hg,hd=>by
  obtain ⟨v,rfl,ho'⟩:=ho
  have hE:EntC w0 G w ⟨e,xs,false,none,none⟩ v bs:=EntC.own.2 ⟨v,rfl,ho'⟩
  obtain ⟨h1,h2⟩:=grow_one hR hE hn hg hd
  exact ⟨_,_,h1,h2,⟨_,_,rfl,repA_new (w0:=w0) (G:=G) (u:=w0) (G':=G) hE,rfl⟩,rfl⟩
 | .cons p q,x,cs,bs,L,V,own,hR,ho,hn,hg,hd=>by
  obtain ⟨c1,c2,b1,b2,rfl,rfl,ho1,ho2⟩:=ho
  rw [List.nodup_append] at hn
  obtain ⟨V1,own1,r1,g1,l1,n1⟩:=expl_spec hR ho1 hn.1 (fun b hb=>hg b (List.mem_append_left _ hb)) (fun r A hA b hb hm=>hd r A hA b hb (List.mem_append_left _ hm))
  have hlen:(L++(expl L.length p x.1).2).length=L.length+(expl L.length p x.1).2.length:=by simp
  obtain ⟨V2,own2,r2,g2,l2,n2⟩:=expl_spec r1 ho2 hn.2.1 (fun b hb=>hg b (List.mem_append_right _ hb)) (g1.apart (fun r A hA b hb hm=>hd r A hA b hb (List.mem_append_right _ hm)) (fun b hb hm=>hn.2.2 b hb b hm rfl))
  rw [hlen] at r2 g2 l2 n2
  have e1:(expl L.length (.cons p q) x).2=(expl L.length p x.1).2++(expl (L.length+(expl L.length p x.1).2.length) q x.2).2:=rfl
  have e2:(expl L.length (.cons p q) x).1=(expl L.length p x.1).1++(expl (L.length+(expl L.length p x.1).2.length) q x.2).1:=rfl
  rw [e1,e2, ← List.append_assoc]
  refine ⟨V2,own2,r2,g1.trans g2 (fun b hb=>List.mem_append_left _ hb) (fun b hb=>List.mem_append_right _ hb),repLs_append (repLs_agree l1 fun r hr=>g2.agree r (repLs_live l1 r hr)) l2,?_⟩
  rw [List.length_append,n1,n2]
  rfl
def ownK:List RK→Bool
 | []=>true
 | .own :: r=>ownK r
 | _ :: _=>false
def resOne (k:Nat):RK→Dyn→Atom×Heap
 | .own,⟨.sl e,xs⟩=>(.osl k none,[some ⟨e,xs,false,none,none⟩])
 | .own,⟨t,x⟩=>match t.flat with
  | true=>(toAtom t x,[])
  | false=>match expl k t x with
   | (ls,es)=>(.rcd t ls,es)
 | .frz,d=>(toAtom d.t d.x,[])
 | .bx,d=>(.optr k 0 [],[some ⟨d.t,[d.x],true,none,some false⟩])
def resA (k:Nat):List RK→List Dyn→List Atom×Heap
 | _,[]=>([],[])
 | ks,d :: r=>match resOne k (RK.hd ks) d with
  | (A,es)=>match resA (k+es.length) ks.tail r with
   | (As,fs)=>(A :: As,es++fs)
theorem isVal_eq {t:Ty} {cs:List Value} {v:Value} (hl:cs.length=t.size) (h:IsVal t cs v):v=valOf t cs:=by
 cases t <;> simp only [IsVal] at h <;> subst h <;> rfl
theorem own_toAtom {t:Ty} {x:t.den} {cs:List Value} {bs:List Nat} (hf:t.flat=true) (h:OwnC w t x cs bs) {v:Value} (hv:IsVal t cs v) (G:Nat→Prop) :
  RepA w0 G L V (toAtom t x) v∧bs=[]:=by
 obtain ⟨hr,hb⟩:=h.flat (w':=w0) (G:=G) hf
 rw [isVal_eq h.length hv]
 exact ⟨repA_toAtom hr.repB,hb⟩
theorem nodup_flatten_cons {b:List Nat} {bs:List (List Nat)} (h:(b :: bs).flatten.Nodup):b.Nodup∧bs.flatten.Nodup∧∀ x∈b,x ∉ bs.flatten:=by
 rw [List.flatten_cons,List.nodup_append] at h
 exact ⟨h.1,h.2.1,fun x hx hm=>h.2.2 x hx x hm rfl⟩
theorem res_one {k:RK} {d:Dyn} {Gc F:Nat→Prop} {v:Value} {b:List Nat} (hR:RelV n K w0 G w a E L V own) (hk:k = .own∨((∀ c,Gc c∨F c→G c)∧w0=w)) (hr:ResOne w Gc F k d v b) (hn:b.Nodup) (hg:∀ c∈b,Out K G c) (hd:∀ r A,hget L r=some A→∀ c∈own r,c ∉ b) :
  ∃ V' own',RelV n K w0 G w a E (L++(resOne L.length k d).2) V' own'∧Grown L (resOne L.length k d).2 V V' own own' b∧RepA w0 G (L++(resOne L.length k d).2) V' (resOne L.length k d).1 v:=by
 obtain ⟨t,x⟩:=d
 cases k with
 | own =>
  obtain ⟨cs,ho,hv⟩:=hr
  by_cases hsl:∃ e,t = .sl e
  ·obtain ⟨e,rfl⟩:=hsl
   simp only [IsVal] at hv
   subst hv
   have hE:EntC w0 G w ⟨e,x,false,none,none⟩ v b:=EntC.own.2 ho
   obtain ⟨h1,h2⟩:=grow_one hR hE hn hg hd
   exact ⟨_,_,h1,h2,repA_new (w0:=w0) (G:=G) (u:=w0) (G':=G) hE⟩
  ·have e:resOne L.length .own ⟨t,x⟩=match t.flat with
     | true=>(toAtom t x,[])
     | false=>match expl L.length t x with
      | (ls,es)=>(.rcd t ls,es):=by
    cases t with
    | sl e=>exact absurd ⟨e,rfl⟩ hsl
    | _=>rfl
   rw [e]
   cases hf:t.flat with
   | true =>
    refine ⟨V,own,by simpa using hR,Grown.refl _ _ _,(own_toAtom hf ho hv G).1⟩
   | false =>
    obtain ⟨V',own',h1,h2,h3,h4⟩:=expl_spec hR ho hn hg hd
    refine ⟨V',own',h1,h2,cs,?_,h4,h3⟩
    rw [isVal_eq ho.length hv,valOf,if_pos]
    clear e
    cases t with
    | sl e=>exact absurd ⟨e,rfl⟩ hsl
    | unit=>rfl
    | cons _ _=>rfl
    | int _=>cases hf
    | bool=>cases hf
    | fn=>cases hf
    | str=>cases hf
 | frz =>
  obtain ⟨hG,rfl⟩:=hk.resolve_left (by simp)
  obtain ⟨rfl,cs,hc,hv⟩:=hr
  refine ⟨V,own,by simpa [resOne] using hR,Grown.refl _ _ _,?_⟩
  rw [isVal_eq hc.length hv]
  exact repA_toAtom (hc.keep hG (fun _ _=>rfl)).repB
 | bx =>
  obtain ⟨hG,rfl⟩:=hk.resolve_left (by simp)
  obtain ⟨blk,off,rfl,hE⟩:=hr
  have hE':EntC w0 G w0 ⟨t,[x],true,none,some false⟩ (.slice (some ⟨blk,off,none⟩) 1 1) b:=hE.keepG hG (fun _ _=>rfl) (fun _ _=>rfl)
  obtain ⟨h1,h2⟩:=grow_one hR hE' hn hg hd (hsm:=fun q hq=>⟨⟨blk,off,rfl⟩,fun e=>by subst e;cases hq⟩)
  refine ⟨_,_,h1,h2,⟨t,[x],true,none,some false⟩,hget_new _ _,by simp,blk,off,1,1,0,t,upd1_same _ _ _,rfl,by simp⟩
theorem res_spec:∀ {ks:List RK} {ds:List Dyn} {Gc F:Nat→Prop} {L:Heap} {V:Nat→Value} {own:Nat→List Nat} {rs:List Value} {rbs:List (List Nat)},
  RelV n K w0 G w a E L V own→(ownK ks=true∨((∀ c,Gc c∨F c→G c)∧w0=w))→ResK w Gc F ks ds rs rbs→rbs.flatten.Nodup→(∀ b∈rbs.flatten,Out K G b)→(∀ r A,hget L r=some A→∀ b∈own r,b ∉ rbs.flatten) →
  ∃ V' own',RelV n K w0 G w a E (L++(resA L.length ks ds).2) V' own'∧Grown L (resA L.length ks ds).2 V V' own own' rbs.flatten∧RepAs w0 G (L++(resA L.length ks ds).2) V' (resA L.length ks ds).1 rs
 | ks,[],Gc,F,L,V,own,rs,rbs,hR,_,hr,_,_,_=>by
  have hr':rs=[]∧rbs=[]:=by cases ks <;> exact hr
  obtain ⟨rfl,rfl⟩:=hr'
  have e:resA L.length ks []=([],[]):=by cases ks <;> rfl
  rw [e]
  exact ⟨V,own,by simpa using hR,Grown.refl _ _ _,rfl⟩
 | ks,d :: ds,Gc,F,L,V,own,rs,rbs,hR,hk,hr,hn,hg,hd=>by
  have hr':∃ v s b bs,rs=v :: s∧rbs=b :: bs∧ResOne w Gc F (RK.hd ks) d v b∧ResK w Gc F ks.tail ds s bs:=by cases ks <;> exact hr
  obtain ⟨v,s,b,bs,rfl,rfl,h1,h2⟩:=hr'
  obtain ⟨hn1,hn2,hn3⟩:=nodup_flatten_cons hn
  have hk1:RK.hd ks = .own∨((∀ c,Gc c∨F c→G c)∧w0=w):=hk.imp_left fun h=>by
   cases ks with
   | nil=>rfl
   | cons k ks=>cases k <;> first | rfl | cases h
  have hk2:ownK ks.tail=true∨((∀ c,Gc c∨F c→G c)∧w0=w):=hk.imp_left fun h=>by
   cases ks with
   | nil=>rfl
   | cons k ks=>cases k <;> first | exact h | cases h
  obtain ⟨V1,own1,r1,g1,a1⟩:=res_one hR hk1 h1 hn1 (fun c hc=>hg c (by simp [hc])) (fun r A hA c hc hm=>hd r A hA c hc (by simp [hm]))
  have hlen:(L++(resOne L.length (RK.hd ks) d).2).length=L.length+(resOne L.length (RK.hd ks) d).2.length:=by simp
  obtain ⟨V2,own2,r2,g2,a2⟩:=res_spec r1 hk2 h2 hn2 (fun c hc=>hg c (by rw [List.flatten_cons];exact List.mem_append_right _ hc)) (g1.apart (fun r A hA c hc hm=>hd r A hA c hc (by rw [List.flatten_cons];exact List.mem_append_right _ hm)) hn3)
  rw [hlen] at r2 g2 a2
  have e:resA L.length ks (d :: ds)=((resOne L.length (RK.hd ks) d).1 :: (resA (L.length+(resOne L.length (RK.hd ks) d).2.length) ks.tail ds).1,(resOne L.length (RK.hd ks) d).2++(resA (L.length+(resOne L.length (RK.hd ks) d).2.length) ks.tail ds).2):=by
   cases ks <;> rfl
  rw [e, ← List.append_assoc]
  refine ⟨V2,own2,r2,g1.trans g2 (fun c hc=>by simp [hc]) (fun c hc=>by rw [List.flatten_cons];exact List.mem_append_right _ hc),v,s,rfl,?_,a2⟩
  exact repA_agree a1 fun r hr=>g2.agree r (repA_live a1 r hr)
end
end Go.Am
namespace Go.Am
set_option linter.unusedVariables false
set_option linter.unusedSimpArgs false
abbrev Acts:=List (Nat×Option Arr)
def junks (t:Ty):List Leaf:=List.replicate t.size .junk
def dropAll (us:List Nat):Acts:=us.map fun r=>(r,none)
def svActs (L:Heap):(t:Ty)→List Leaf→t.den→Option (List Prop×Acts)
 | .sl e,ls,xs=>match ls with
  | [.osl r none]=>match hget L r with
   | some A=>match decide (A.t=e),A.ls with
    | true,none=>some ([xs.length=A.xs.length],[(r,some ⟨e,xs,false,none,none⟩)])
    | _,_=>none
   | none=>none
  | [.val (.slice none _ _)]=>some ([],[])
  | _=>none
 | .cons a b,ls,x=>match svActs L a (ls.take a.size) x.1,svActs L b (ls.drop a.size) x.2 with
  | some (cs,as),some (ds,bs)=>some (cs++ds,as++bs)
  | _,_=>none
 | _,_,_=>some ([],[])
def oneD (t:Ty) (A:Lst):Option t.den:=if h:A.t=t then one1 (castL h A.xs) else none
def planOwn (L:Heap) (us:List Nat) (A':Lst):Option (List Prop×Acts) :=
 match us with
 | [r]=>match hget L r with
  | some A=>match decide (A'.t=A.t),A.ls with
   | true,none=>some ([A'.xs.length=A.xs.length],[(r,some ⟨A'.t,A'.xs,false,none,none⟩)])
   | _,_=>none
  | none=>none
 | _=>none
def planPb (q:Bool) (t:Ty) (us:List Nat) (A':Lst):Option Acts :=
 match us,oneD t A' with
 | [r],some x=>some [(r,some ⟨t,[x],true,none,some q⟩)]
 | _,_=>none
def planPo (t:Ty) (us:List Nat) (A':Lst):Option (Acts×List (Nat×Dyn)) :=
 match us,oneD t A' with
 | r :: vs,some x=>some ((r,some ⟨t,[],false,some (junks t),none⟩) :: dropAll vs,[(r,⟨t,x⟩)])
 | _,_=>none
def planSv (L:Heap) (t:Ty) (p:PV) (A':Lst):Option (List Prop×Acts) :=
 match p,oneD t A' with
 | .a (.rcd _ ls),some x=>svActs L t ls x
 | _,_=>none
def planSome (L:Heap) (q:Bool):AT→PV→List Nat→Lst→Option (List Prop×Acts×List (Nat×Dyn))
 | .own t,p,us,A'=>match planOwn L us A' with | some (cs,as)=>some (cs,as,[]) | none=>none
 | .pb t,p,us,A'=>match planPb q t us A' with | some as=>some ([],as,[]) | none=>none
 | .po t,p,us,A'=>match planPo t us A' with | some (as,ex)=>some ([],as,ex) | none=>none
 | .sv t,p,us,A'=>match planSv L t p A' with | some (cs,as)=>some (cs,as,[]) | none=>none
 | _,_,_,_=>none
def planOne (L:Heap) (q:Bool) (o:AT) (p:PV) (us:List Nat):Option Lst→Option (List Prop×Acts×List (Nat×Dyn))
 | none=>some ([],dropAll us,[])
 | some A'=>planSome L q o p us A'
def isOwn:AT→Bool
 | .own _=>true
 | .pb _=>true
 | .po _=>true
 | .sv _=>true
 | _=>false
def planAll (L:Heap) (q:Bool):List AT→List PV→List (List Nat)→List (Option Lst)→Option (List Prop×Acts×List (Nat×Dyn))
 | [],_,_,[]=>some ([],[],[])
 | o :: r,p :: s,us :: os,ups=>match isOwn o with
  | false=>planAll L q r s os ups
  | true=>match ups with
   | u :: ups=>match planOne L q o p us u,planAll L q r s os ups with
    | some (cs,as,ex),some (ds,bs,fx)=>some (cs++ds,as++bs,ex++fx)
    | _,_=>none
   | []=>none
 | _,_,_,_=>none
def actsA:Acts→Env×Heap→Env×Heap
 | [],EL=>EL
 | (r,none) :: s,EL=>actsA s (killE r EL.1,killH r (hset EL.2 r none))
 | (r,some A) :: s,EL=>actsA s (EL.1,hset EL.2 r (some A))
def expA:List (Nat×Dyn)→Heap→Heap
 | [],L=>L
 | (r,d) :: s,L=>match expl L.length d.t d.x with
  | (ls,es)=>expA s (hset (L++es) r (some ⟨d.t,[],false,some ls,none⟩))
def packA:List Atom→PV
 | [A] => .a A
 | ats => .tup ats
def callA (ext:Ext) (E:Env) (L:Heap) (f:FuncId) (ps:List PV):Option (List Prop×PV×Env×Heap) :=
 match ext with
 | []=>none
 | (g,S) :: r=>match Nat.beq f g with
  | true=>match decArgs L S.sig ps with
   | some (x,os,us)=>match disjB os.flatten us&&nodupB os.flatten&&(ownK S.kds||us.isEmpty),planAll L (smArgs L S.sig ps) S.sig ps os (S.upd x) with
    | true,some (cs,acts,ex)=>match actsA acts (E,L) with
     | (E',L1)=>match expA ex L1 with
      | L2=>match resA L2.length S.kds (S.res x) with
       | (ats,es)=>some (S.pre x :: cs,packA ats,E',L2++es)
    | _,_=>callA r E L f ps
   | none=>callA r E L f ps
  | false=>callA r E L f ps
section
variable {P:Program} {n:Nat} {K:Ctx} {G:Nat→Prop} {w0 w:World} {a:Act} {E:Env} {L:Heap} {V:Nat→Value} {own:Nat→List Nat}
theorem hget_hset_same {L:Heap} {r:Nat} {x:Option Arr} {A:Arr} (h:hget L r=some A):hget (hset L r x) r=x:=by
 rw [hget_hset,if_pos ⟨rfl,hget_lt h⟩]
theorem hget_hset_other {L:Heap} {r s:Nat} {x:Option Arr} (h:r≠s):hget (hset L r x) s=hget L s:=by
 rw [hget_hset,if_neg (fun hh=>h hh.1)]
def Shape (A A':Arr):Prop:=A'.t=A.t∧A'.xs.length=A.xs.length∧∀ ls,A.ls=some ls→∃ ls',A'.ls=some ls'
theorem shape_kill {r:Nat} {A A':Arr} (h:Shape A A'):Shape (killR r A) A':=by
 obtain ⟨h1,h2,h3⟩:=h
 refine ⟨h1.trans (killR_t r A).symm,h2.trans (killR_len r A).symm,fun ls hls => ?_⟩
 obtain ⟨l0,h0,_⟩:=killR_ls.2 ls hls
 exact h3 l0 h0
theorem agree_set {r:Nat} {A A':Arr} (hA:hget L r=some A) (h:Shape A A') (V:Nat→Value) (s:Nat):Agree L V (hset L r (some A')) V s:=by
 refine ⟨rfl,fun B hB => ?_⟩
 by_cases hs:r=s
 ·subst hs
  rw [hA] at hB;cases hB
  exact ⟨A',hget_hset_same hA,h.1,h.2.1,h.2.2⟩
 ·exact ⟨B,by rw [hget_hset_other hs];exact hB,rfl,rfl,fun ls h=>⟨ls,h⟩⟩
theorem agree_none {r s:Nat} (hs:s≠r) (V:Nat→Value):Agree L V (hset L r none) V s :=
 Agree.of_same rfl (hget_hset_other (Ne.symm hs))
structure Pend (n:Nat) (K:Ctx) (w0:World) (G:Nat→Prop) (w:World) (a:Act) (E:Env) (L:Heap) (V:Nat→Value) (own:Nat→List Nat) (pend:List Nat) (rest:Nat→Prop):Prop where
 glob:GOk K.w0 K.O
 kept:Kept K.O K.w0 w
 size:a.tmps.size=n
 defers:a.defers=[]
 glt:∀ b,G b→b<w.heap.size
 gref:∀ b,G b→w.heap[b]? = w0.heap[b]?
 gsub:∀ b,K.G0 b→G b
 gold:∀ b,K.G0 b→Good K.w0 K.O b
 gup:∀ b,G b→K.Ga b∨¬ Good K.w0 K.O b
 heap:∀ r A,hget L r=some A→r ∉ pend→EntC w0 G w A (V r) (own r)
 good:∀ r A,hget L r=some A→r ∉ pend→∀ b∈own r,Out K G b
 nodup:∀ r A,hget L r=some A→r ∉ pend→(own r).Nodup
 apart:∀ r s A B,hget L r=some A→hget L s=some B→r ∉ pend→s ∉ pend→r≠s→∀ b∈own r,b ∉ own s
 boxs:∀ r A ls,hget L r=some A→r ∉ pend→A.ls=some ls→BoxC w0 G w L V A.t ls (V r)
 small:∀ r A q,hget L r=some A→r ∉ pend→A.sm=some q→(∃ b off,V r = .slice (some ⟨b,off,none⟩) 1 1)∧(q=true→A.bor=true∧EntC w0 K.G0 w A (V r) (own r))
 env:∀ i,RepP w0 G L V (E.get i) (a.tmps.getD i undef)
 live:∀ r∈pend,∃ A,hget L r=some A
 rest:∀ r A,hget L r=some A→r ∉ pend→∀ b∈own r,¬ rest b
theorem Pend.done {rest:Nat→Prop} (h:Pend n K w0 G w a E L V own [] rest):RelV n K w0 G w a E L V own :=
 ⟨h.glob,h.kept,h.size,h.defers,h.glt,h.gref,h.gsub,h.gold,h.gup,fun r A hA=>h.heap r A hA (by simp),fun r A hA=>h.good r A hA (by simp),fun r A hA=>h.nodup r A hA (by simp),fun r s A B h1 h2=>h.apart r s A B h1 h2 (by simp) (by simp),fun r A ls hA=>h.boxs r A ls hA (by simp),fun r A q hA=>h.small r A q hA (by simp),h.env⟩
theorem not_cons {r s:Nat} {rs:List Nat} (h1:s≠r) (h2:s ∉ rs):s ∉ r :: rs:=fun hm=>by
 rcases List.mem_cons.1 hm with h | h
 ·exact h1 h
 ·exact h2 h
theorem Pend.drop {r:Nat} {pend:List Nat} {rest:Nat→Prop} (hp:Pend n K w0 G w a E L V own (r :: pend) rest) (hr:r ∉ pend):Pend n K w0 G w a (killE r E) (killH r (hset L r none)) V own pend rest:=by
 obtain ⟨A0,hA0⟩:=hp.live r (List.mem_cons_self ..)
 have hback:∀ s A,hget (killH r (hset L r none)) s=some A→s≠r∧∃ B,hget L s=some B∧A=killR r B:=by
  intro s A hs
  rw [hget_killH] at hs
  by_cases hsr:s=r
  ·subst hsr;rw [hget_hset_same hA0] at hs;cases hs
  ·rw [hget_hset_other (Ne.symm hsr)] at hs
   cases hB:hget L s with
   | none=>rw [hB] at hs;cases hs
   | some B=>rw [hB] at hs;cases hs;exact ⟨hsr,B,rfl,rfl⟩
 have hag:∀ s,s≠r→Agree L V (killH r (hset L r none)) V s:=fun s hs=>(agree_none hs V).trans (agree_killH r _ V s)
 refine ⟨hp.glob,hp.kept,hp.size,hp.defers,hp.glt,hp.gref,hp.gsub,hp.gold,hp.gup,?_,?_,?_,?_,?_,?_,fun i => ?_,?_,?_⟩
 ·intro s A hs hm;obtain ⟨h1,B,h2,rfl⟩:=hback s A hs;exact killR_ent.2 (hp.heap s B h2 (not_cons h1 hm))
 ·intro s A hs hm;obtain ⟨h1,B,h2,rfl⟩:=hback s A hs;exact hp.good s B h2 (not_cons h1 hm)
 ·intro s A hs hm;obtain ⟨h1,B,h2,rfl⟩:=hback s A hs;exact hp.nodup s B h2 (not_cons h1 hm)
 ·intro s t A B hs ht hm hm' hst
  obtain ⟨h1,C,h2,rfl⟩:=hback s A hs
  obtain ⟨h3,D,h4,rfl⟩:=hback t B ht
  exact hp.apart s t C D h2 h4 (not_cons h1 hm) (not_cons h3 hm') hst
 ·intro s A ls hs hm hls
  obtain ⟨h1,B,h2,rfl⟩:=hback s A hs
  obtain ⟨l0,h0,rfl⟩:=killR_ls.2 ls hls
  rw [killR_t]
  refine ((hp.boxs s B l0 h2 (not_cons h1 hm) h0).kill r).agree fun u hu=>hag u fun e => ?_
  subst e
  exact killLs_refs.1 hu
 ·intro s A q hs hm hq
  obtain ⟨h1,B,h2,rfl⟩:=hback s A hs
  rw [killR_sm] at hq
  obtain ⟨g1,g2⟩:=hp.small s B q h2 (not_cons h1 hm) hq
  exact ⟨g1,fun e=>⟨by rw [killR_bor];exact (g2 e).1,killR_ent.2 (g2 e).2⟩⟩
 ·rw [get_killE]
  exact repP_agree (repP_kill r (hp.env i)) fun s hs=>hag s fun e=>killP_refs.1 (e ▸ hs)
 ·intro s hs
  obtain ⟨A,hA⟩:=hp.live s (List.mem_cons_of_mem _ hs)
  have:s≠r:=fun e=>hr (e ▸ hs)
  exact ⟨killR r A,by rw [hget_killH,hget_hset_other (Ne.symm this),hA];rfl⟩
 ·intro s A hs hm;obtain ⟨h1,B,h2,rfl⟩:=hback s A hs;exact hp.rest s B h2 (not_cons h1 hm)
theorem Pend.set {r:Nat} {pend b:List Nat} {rest:Nat→Prop} {A':Arr} (hp:Pend n K w0 G w a E L V own (r :: pend) (fun c=>c∈b∨rest c)) (hr:r ∉ pend) (hsh:∀ A,hget L r=some A→Shape A A') (hE:EntC w0 G w A' (V r) b)
  (hbox:∀ ls,A'.ls=some ls→BoxC w0 G w L V A'.t ls (V r)) (hsm:∀ q,A'.sm=some q→(∃ b off,V r = .slice (some ⟨b,off,none⟩) 1 1)∧(q=true→A'.bor=true∧EntC w0 K.G0 w A' (V r) b)) (hn:b.Nodup) (hnr:∀ c∈b,¬ rest c) (hg:∀ c∈b,Out K G c) :
  Pend n K w0 G w a E (hset L r (some A')) V (upd1 own r b) pend rest:=by
 obtain ⟨A0,hA0⟩:=hp.live r (List.mem_cons_self ..)
 have hag:∀ s,Agree L V (hset L r (some A')) V s:=agree_set hA0 (hsh A0 hA0) V
 have hsplit:∀ s B,hget (hset L r (some A')) s=some B→(s≠r∧hget L s=some B)∨(s=r∧B=A'):=by
  intro s B hs
  by_cases hsr:s=r
  ·subst hsr;rw [hget_hset_same hA0] at hs;cases hs;exact .inr ⟨rfl,rfl⟩
  ·exact .inl ⟨hsr,by rwa [hget_hset_other (Ne.symm hsr)] at hs⟩
 have hold:∀ s B,hget L s=some B→s≠r→s ∉ pend→∀ c∈own s,c ∉ b∧¬ rest c:=by
  intro s B hs h1 h2 c hc
  have:=hp.rest s B hs (not_cons h1 h2) c hc
  exact ⟨fun h=>this (.inl h),fun h=>this (.inr h)⟩
 refine ⟨hp.glob,hp.kept,hp.size,hp.defers,hp.glt,hp.gref,hp.gsub,hp.gold,hp.gup,?_,?_,?_,?_,?_,?_,fun i=>repP_agree (hp.env i) fun s _=>hag s,?_,?_⟩
 ·intro s B hs hm
  rcases hsplit s B hs with ⟨h1,h2⟩ | ⟨rfl,rfl⟩
  ·rw [upd1_other _ _ h1];exact hp.heap s B h2 (not_cons h1 hm)
  ·rw [upd1_same];exact hE
 ·intro s B hs hm
  rcases hsplit s B hs with ⟨h1,h2⟩ | ⟨rfl,rfl⟩
  ·rw [upd1_other _ _ h1];exact hp.good s B h2 (not_cons h1 hm)
  ·rw [upd1_same];exact hg
 ·intro s B hs hm
  rcases hsplit s B hs with ⟨h1,h2⟩ | ⟨rfl,rfl⟩
  ·rw [upd1_other _ _ h1];exact hp.nodup s B h2 (not_cons h1 hm)
  ·rw [upd1_same];exact hn
 ·intro s t B C hs ht hm hm' hst
  rcases hsplit s B hs with ⟨h1,h2⟩ | ⟨rfl,rfl⟩
  ·rcases hsplit t C ht with ⟨h3,h4⟩ | ⟨rfl,rfl⟩
   ·rw [upd1_other _ _ h1,upd1_other _ _ h3];exact hp.apart s t B C h2 h4 (not_cons h1 hm) (not_cons h3 hm') hst
   ·rw [upd1_other _ _ h1,upd1_same];exact fun c hc=>(hold s B h2 h1 hm c hc).1
  ·rcases hsplit t C ht with ⟨h3,h4⟩ | ⟨rfl,rfl⟩
   ·rw [upd1_other _ _ h3,upd1_same];exact fun c hc hc2=>(hold t C h4 h3 hm' c hc2).1 hc
   ·exact absurd rfl hst
 ·intro s B ls hs hm hls
  rcases hsplit s B hs with ⟨h1,h2⟩ | ⟨rfl,rfl⟩
  ·exact (hp.boxs s B ls h2 (not_cons h1 hm) hls).agree fun u _=>hag u
  ·exact (hbox ls hls).agree fun u _=>hag u
 ·intro s B q hs hm hq
  rcases hsplit s B hs with ⟨h1,h2⟩ | ⟨rfl,rfl⟩
  ·rw [upd1_other _ _ h1];exact hp.small s B q h2 (not_cons h1 hm) hq
  ·rw [upd1_same];exact hsm q hq
 ·intro s hs
  obtain ⟨B,hB⟩:=hp.live s (List.mem_cons_of_mem _ hs)
  have:s≠r:=fun e=>hr (e ▸ hs)
  exact ⟨B,by rw [hget_hset_other (Ne.symm this)];exact hB⟩
 ·intro s B hs hm
  rcases hsplit s B hs with ⟨h1,h2⟩ | ⟨rfl,rfl⟩
  ·rw [upd1_other _ _ h1];exact fun c hc=>(hold s B h2 h1 hm c hc).2
  ·rw [upd1_same];exact hnr
def ActsOk (K:Ctx) (w0:World) (G:Nat→Prop) (w:World) (V:Nat→Value):Acts→List (List Nat)→Prop
 | [],bss=>bss=[]
 | (r,none) :: s,bss=>ActsOk K w0 G w V s bss
 | (r,some A') :: s,bss=>∃ b t,bss=b :: t∧EntC w0 G w A' (V r) b∧(∀ ls,A'.ls=some ls→refLs ls=[]∧BoxC w0 G w [] V A'.t ls (V r)) ∧
   (∀ q,A'.sm=some q→(∃ b off,V r = .slice (some ⟨b,off,none⟩) 1 1)∧(q=true→A'.bor=true∧EntC w0 K.G0 w A' (V r) b))∧ActsOk K w0 G w V s t
theorem ActsOk.append {as bs:Acts}:∀ {xs ys:List (List Nat)},ActsOk K w0 G w V as xs→ActsOk K w0 G w V bs ys→ActsOk K w0 G w V (as++bs) (xs++ys):=by
 induction as with
 | nil=>intro xs ys h1 h2;cases h1;exact h2
 | cons p s ih =>
  intro xs ys h1 h2
  obtain ⟨r,o⟩:=p
  cases o with
  | none=>exact ih (xs:=xs) h1 h2
  | some A' =>
   obtain ⟨b,t,rfl,h3,h4,h5,h6⟩:=h1
   exact ⟨b,t++ys,rfl,h3,h4,h5,ih h6 h2⟩
theorem dropAll_ok:∀ {us:List Nat},ActsOk K w0 G w V (dropAll us) []
 | []=>rfl
 | r :: s=>dropAll_ok (us:=s)
theorem dropAll_fst:∀ (us:List Nat),(dropAll us).map Prod.fst=us
 | []=>rfl
 | r :: s=>by simp only [dropAll,List.map_cons,List.cons.injEq,true_and];exact dropAll_fst s
def ActsSh (L:Heap) (acts:Acts):Prop:=∀ p∈acts,∀ A',p.2=some A'→∀ A,hget L p.1=some A→Shape A A'
theorem Pend.mono {pend:List Nat} {R R':Nat→Prop} (h:Pend n K w0 G w a E L V own pend R) (hR:∀ c,R' c→R c):Pend n K w0 G w a E L V own pend R' :=
 { h with rest:=fun r A hA hr c hc hm=>h.rest r A hA hr c hc (hR c hm) }
theorem acts_spec:∀ {acts:Acts} {E:Env} {L:Heap} {own:Nat→List Nat} {bss:List (List Nat)} {rest:Nat→Prop},
  Pend n K w0 G w a E L V own (acts.map Prod.fst) (fun c=>c∈bss.flatten∨rest c)→(acts.map Prod.fst).Nodup→ActsOk K w0 G w V acts bss→ActsSh L acts→bss.flatten.Nodup→(∀ c∈bss.flatten,¬ rest c)→(∀ b∈bss.flatten,Out K G b) →
  ∃ own',RelV n K w0 G w a (actsA acts (E,L)).1 (actsA acts (E,L)).2 V own'∧(∀ r A,hget (actsA acts (E,L)).2 r=some A→∀ b∈own' r,¬ rest b)
 | [],E,L,own,bss,rest,hp,_,hok,_,_,_,_=>by
  cases hok
  exact ⟨own,hp.done,fun r A hA b hb hm=>hp.rest r A hA (by simp) b hb (.inr hm)⟩
 | (r,none) :: acts,E,L,own,bss,rest,hp,hnd,hok,hsh,hn,hnr,hg=>by
  obtain ⟨hr,hnd'⟩:=List.nodup_cons.1 hnd
  refine acts_spec (acts:=acts) (hp.drop hr) hnd' hok ?_ hn hnr hg
  rintro ⟨p1,p2⟩ hp' A' hA' A hA
  rw [hget_killH] at hA
  have hpr:p1≠r:=fun e=>hr (List.mem_map.2 ⟨_,hp',e⟩)
  rw [hget_hset_other (Ne.symm hpr)] at hA
  cases hB:hget L p1 with
  | none=>rw [hB] at hA;cases hA
  | some B =>
   rw [hB] at hA;cases hA
   exact shape_kill (hsh (p1,p2) (List.mem_cons_of_mem _ hp') A' hA' B hB)
 | (r,some A') :: acts,E,L,own,bss,rest,hp,hnd,hok,hsh,hn,hnr,hg=>by
  obtain ⟨hr,hnd'⟩:=List.nodup_cons.1 hnd
  obtain ⟨b,t,rfl,hE,hbox,hsm,hok'⟩:=hok
  simp only [List.flatten_cons] at hp hn hnr hg
  rw [List.nodup_append] at hn
  have hp':=(hp.mono (R':=fun c=>c∈b∨(c∈t.flatten∨rest c)) (fun c hc=>by
   rcases hc with hc | hc | hc
   ·exact .inl (List.mem_append_left _ hc)
   ·exact .inl (List.mem_append_right _ hc)
   ·exact .inr hc)).set hr (hsh _ (List.mem_cons_self ..) A' rfl) hE (fun ls hls=>(hbox ls hls).2.agree fun u hu=>by rw [(hbox ls hls).1] at hu;cases hu) hsm hn.1 (fun c hc hm=>hm.elim (fun hm=>hn.2.2 c hc c hm rfl) (hnr c (List.mem_append_left _ hc))) (fun c hc=>hg c (List.mem_append_left _ hc))
  refine acts_spec (acts:=acts) hp' hnd' hok' ?_ hn.2.1 (fun c hc=>hnr c (List.mem_append_right _ hc)) (fun c hc=>hg c (List.mem_append_right _ hc))
  rintro ⟨p1,p2⟩ hp2 B' hB' B hB
  have hpr:p1≠r:=fun e=>hr (List.mem_map.2 ⟨_,hp2,e⟩)
  rw [hget_hset_other (Ne.symm hpr)] at hB
  exact hsh (p1,p2) (List.mem_cons_of_mem _ hp2) B' hB' B hB
theorem RelV.setLs (hR:RelV n K w0 G w a E L V own) {r:Nat} {A:Arr} {l0 ls:List Leaf} (hA:hget L r=some A) (h0:A.ls=some l0) (hb:BoxC w0 G w L V A.t ls (V r)):RelV n K w0 G w a E (hset L r (some ⟨A.t,A.xs,A.bor,some ls,A.sm⟩)) V own:=by
 have hag:∀ s,Agree L V (hset L r (some ⟨A.t,A.xs,A.bor,some ls,A.sm⟩)) V s:=agree_set (A':=⟨A.t,A.xs,A.bor,some ls,A.sm⟩) hA ⟨rfl,rfl,fun _ _=>⟨ls,rfl⟩⟩ V
 have hsplit:∀ s B,hget (hset L r (some ⟨A.t,A.xs,A.bor,some ls,A.sm⟩)) s=some B→(s≠r∧hget L s=some B)∨(s=r∧B=⟨A.t,A.xs,A.bor,some ls,A.sm⟩):=by
  intro s B hs
  by_cases hsr:s=r
  ·subst hsr;rw [hget_hset_same hA] at hs;cases hs;exact .inr ⟨rfl,rfl⟩
  ·exact .inl ⟨hsr,by rwa [hget_hset_other (Ne.symm hsr)] at hs⟩
 have hlive:∀ s B,hget (hset L r (some ⟨A.t,A.xs,A.bor,some ls,A.sm⟩)) s=some B→∃ C,hget L s=some C:=fun s B hs=>by
  rcases hsplit s B hs with ⟨_,h⟩ | ⟨rfl,_⟩
  ·exact ⟨B,h⟩
  ·exact ⟨A,hA⟩
 refine ⟨hR.glob,hR.kept,hR.size,hR.defers,hR.glt,hR.gref,hR.gsub,hR.gold,hR.gup,?_,?_,?_,?_,?_,?_,fun i=>repP_agree (hR.env i) fun s _=>hag s⟩
 ·intro s B hs
  rcases hsplit s B hs with ⟨_,h⟩ | ⟨rfl,rfl⟩
  ·exact hR.heap s B h
  ·exact hR.heap s A hA
 ·intro s B hs
  obtain ⟨C,hC⟩:=hlive s B hs
  exact hR.good s C hC
 ·intro s B hs
  obtain ⟨C,hC⟩:=hlive s B hs
  exact hR.nodup s C hC
 ·intro s t B D hs ht hst
  obtain ⟨C,hC⟩:=hlive s B hs
  obtain ⟨F,hF⟩:=hlive t D ht
  exact hR.apart s t C F hC hF hst
 ·intro s B l hs hl
  rcases hsplit s B hs with ⟨_,h⟩ | ⟨rfl,rfl⟩
  ·exact (hR.boxs s B l h hl).agree fun u _=>hag u
  ·cases hl;exact hb.agree fun u _=>hag u
 ·intro s B q hs hq
  rcases hsplit s B hs with ⟨_,h⟩ | ⟨rfl,rfl⟩
  ·exact hR.small s B q h hq
  ·exact hR.small s A q hA hq
def ExOk (w:World) (V:Nat→Value):List (Nat×Dyn)→List (List Nat)→Prop
 | [],bss=>bss=[]
 | (r,d) :: s,bss=>∃ b t blk off cs,bss=b :: t∧V r = .slice (some ⟨blk,off,none⟩) 0 1∧CellsAt w blk off cs∧OwnC w d.t d.x cs b∧ExOk w V s t
theorem ExOk.append:∀ {as bs:List (Nat×Dyn)} {xs ys:List (List Nat)},ExOk w V as xs→ExOk w V bs ys→ExOk w V (as++bs) (xs++ys)
 | [],_,_,_,h1,h2=>by cases h1;exact h2
 | (r,d) :: as,bs,_,ys,⟨b,t,blk,off,cs,h1,h3,h4,h5,h6⟩,h2=>by
  subst h1
  exact ⟨b,t++ys,blk,off,cs,rfl,h3,h4,h5,h6.append h2⟩
def ExIn (L:Heap) (ex:List (Nat×Dyn)):Prop:=∀ p∈ex,∃ ls,hget L p.1=some ⟨p.2.t,[],false,some ls,none⟩
theorem exp_spec:∀ {ex:List (Nat×Dyn)} {L:Heap} {V:Nat→Value} {own:Nat→List Nat} {bss:List (List Nat)} {rest:Nat→Prop},RelV n K w0 G w a E L V own→ExOk w V ex bss→ExIn L ex→(ex.map Prod.fst).Nodup →
  bss.flatten.Nodup→(∀ c∈bss.flatten,¬ rest c)→(∀ b∈bss.flatten,Out K G b)→(∀ r A,hget L r=some A→∀ b∈own r,b ∉ bss.flatten∧¬ rest b) →
  ∃ V' own',RelV n K w0 G w a E (expA ex L) V' own'∧(∀ r A,hget (expA ex L) r=some A→∀ b∈own' r,¬ rest b)
 | [],L,V,own,bss,rest,hR,hok,_,_,_,_,_,hd=>by
  cases hok
  exact ⟨V,own,hR,fun r A hA b hb=>(hd r A hA b hb).2⟩
 | (r,d) :: ex,L,V,own,bss,rest,hR,hok,hin,hnd,hn,hnr,hg,hd=>by
  obtain ⟨b,t,blk,off,cs,rfl,hv,hc,ho,hok'⟩:=hok
  obtain ⟨l0,hA⟩:=hin _ (List.mem_cons_self ..)
  obtain ⟨hr,hnd'⟩:=List.nodup_cons.1 hnd
  simp only [List.flatten_cons] at hn hnr hg hd
  have hn':=List.nodup_append.1 hn
  obtain ⟨V1,own1,r1,g1,l1,n1⟩:=expl_spec hR ho hn'.1 (fun c hc=>hg c (List.mem_append_left _ hc)) (fun s A hs c hc hm=>(hd s A hs c hc).1 (List.mem_append_left _ hm))
  have hA':hget (L++(expl L.length d.t d.x).2) r=some ⟨d.t,[],false,some l0,none⟩:=by
   rw [hget_append,if_pos (hget_lt hA)];exact hA
  have hVr:V1 r=V r:=(g1.same r (hget_lt hA)).1
  have hset:=r1.setLs (ls:=(expl L.length d.t d.x).1) hA' rfl ⟨blk,off,cs,by rw [hVr];exact hv,ho.length,n1,hc,l1⟩
  have hap:∀ s A,hget (L++(expl L.length d.t d.x).2) s=some A→∀ c∈own1 s,c ∉ t.flatten∧¬ rest c:=by
   intro s A hs c hc
   rw [hget_append] at hs
   split at hs
   ·rename_i hlt
    rw [(g1.same s hlt).2] at hc
    have:=hd s A hs c hc
    exact ⟨fun hm=>this.1 (List.mem_append_right _ hm),this.2⟩
   ·rename_i hge
    have hlt:=hget_lt hs
    have hcb:=g1.new s (by omega) (by omega) c hc
    exact ⟨fun hm=>hn'.2.2 c hcb c hm rfl,hnr c (List.mem_append_left _ hcb)⟩
  have hV1:∀ s A,hget L s=some A→V1 s=V s:=fun s A hs=>(g1.same s (hget_lt hs)).1
  have hokV:∀ {ex:List (Nat×Dyn)} {bss:List (List Nat)},(∀ p∈ex,V1 p.1=V p.1)→ExOk w V ex bss→ExOk w V1 ex bss:=by
   intro ex
   induction ex with
   | nil=>intro bss _ h;exact h
   | cons p s ih =>
    intro bss hh h
    obtain ⟨r',d'⟩:=p
    obtain ⟨b',t',blk',off',cs',e1,e2,e3,e4,e5⟩:=h
    exact ⟨b',t',blk',off',cs',e1,by rw [hh _ (List.mem_cons_self ..)];exact e2,e3,e4,ih (fun p hp=>hh p (List.mem_cons_of_mem _ hp)) e5⟩
  refine exp_spec (ex:=ex) hset (hokV (fun p hp => ?_) hok') ?_ hnd' hn'.2.1 (fun c hc=>hnr c (List.mem_append_right _ hc)) (fun c hc=>hg c (List.mem_append_right _ hc)) ?_
  ·obtain ⟨ls,h⟩:=hin p (List.mem_cons_of_mem _ hp)
   exact hV1 _ _ h
  ·rintro ⟨p1,p2⟩ hp
   obtain ⟨ls,h⟩:=hin (p1,p2) (List.mem_cons_of_mem _ hp)
   have hpr:p1≠r:=fun e=>hr (List.mem_map.2 ⟨_,hp,e⟩)
   exact ⟨ls,by rw [hget_hset_other (Ne.symm hpr),hget_append,if_pos (hget_lt h)];exact h⟩
  ·intro s A hs
   by_cases hsr:s=r
   ·subst hsr
    exact hap s _ hA'
   ·rw [hget_hset_other (Ne.symm hsr)] at hs
    exact hap s A hs
theorem oneD_eq {t:Ty} {A:Lst} {x:t.den} (h:oneD t A=some x) {y:t.den} (hy:A=⟨t,[y]⟩):x=y:=by
 subst hy
 unfold oneD at h
 rw [dif_pos rfl] at h
 have:=one1_eq h
 cases this
 rfl
theorem slW_one {e:Ty} {r:Nat} {y:List e.den} {us:List Nat} (h:slW L e (.osl r none)=some (y,us)):us=[r]:=by
 have h:(match hget L r with
  | some A=>match A.bor with
   | true=>none
   | false=>if h:A.t=e then some (castL h A.xs,[r]) else none
  | none=>none)=some (y,us):=h
 split at h
 ·split at h
  ·cases h
  ·split at h
   ·cases h;rfl
   ·cases h
 ·cases h
theorem svActs_spec {w':World} (hR:RelV n K w0 G w a E L V own):∀ {t:Ty} {ls:List Leaf} {x:t.den} {cs:List Value} {bs:List Nat} {cd:List Prop} {acts:Acts} {y:t.den} {us:List Nat},svActs L t ls x=some (cd,acts)→ownLs L t ls=some (y,us)→All cd→RepLs w0 G L V ls cs→OwnC w' t x cs bs →
  ∃ bss,ActsOk K w0 G w' V acts bss∧bss.flatten=bs∧ActsSh L acts∧acts.map Prod.fst=us
 | .int k,ls,x,cs,bs,cd,acts,y,us,h,ho,_,hr,hx=>by
  cases h
  simp only [ownLs] at ho
  split at ho
  ·cases ho;exact ⟨[],rfl,by rw [hx.2.2];rfl,(fun p hp=>by cases hp),rfl⟩
  ·cases ho
 | .bool,ls,x,cs,bs,cd,acts,y,us,h,ho,_,hr,hx=>by
  cases h
  simp only [ownLs] at ho
  split at ho
  ·cases ho;exact ⟨[],rfl,by rw [hx.2];rfl,(fun p hp=>by cases hp),rfl⟩
  ·cases ho
 | .fn,ls,x,cs,bs,cd,acts,y,us,h,ho,_,hr,hx=>by
  cases h
  simp only [ownLs] at ho
  split at ho
  ·cases ho;exact ⟨[],rfl,by rw [hx.2];rfl,(fun p hp=>by cases hp),rfl⟩
  ·cases ho
 | .str,ls,x,cs,bs,cd,acts,y,us,h,ho,_,hr,hx=>by
  cases h
  simp only [ownLs] at ho
  split at ho
  ·cases ho;exact ⟨[],rfl,by rw [hx.2.2];rfl,(fun p hp=>by cases hp),rfl⟩
  ·cases ho
 | .unit,ls,x,cs,bs,cd,acts,y,us,h,ho,_,hr,hx=>by
  cases h
  simp only [ownLs] at ho
  split at ho
  ·cases ho;exact ⟨[],rfl,by rw [hx.2];rfl,(fun p hp=>by cases hp),rfl⟩
  ·cases ho
 | .sl e,ls,x,cs,bs,cd,acts,y,us,h,ho,hc,hr,hx=>by
  simp only [svActs] at h
  split at h
  ·rename_i r
   split at h
   ·rename_i A hA
    split at h
    ·rename_i hte hls
     have hte:=of_decide_eq_true hte
     cases h
     have hus:us=[r]:=slW_one (e:=e) ho
     subst hus
     obtain ⟨hlen,_⟩:=hc
     obtain ⟨v,s,rfl,⟨B,hB,hve,_⟩,h2⟩:=hr
     cases h2
     obtain rfl:=hve rfl
     refine ⟨[bs],⟨bs,[],rfl,EntC.own.2 hx,(fun l h=>by cases h),(fun q h=>by cases h),rfl⟩,by simp,fun p hp A' hA' A2 hA2 => ?_,rfl⟩
     rw [List.mem_singleton] at hp
     subst hp
     cases hA'
     rw [hA] at hA2;cases hA2
     exact ⟨hte.symm,hlen,fun l hl=>by rw [hls] at hl;cases hl⟩
    ·cases h
   ·cases h
  ·cases h
   simp only [ownLs,slW] at ho
   cases ho
   obtain ⟨v,s,rfl,⟨rfl,⟨h3,h4⟩,_⟩,h2⟩:=hr
   cases h2
   obtain ⟨v',hv',hx⟩:=hx
   cases hv'
   rcases hx.2 with ⟨_,_,_,hb⟩ | ⟨b,off,cap,cur,ty,fz,bss,h1,_⟩
   ·exact ⟨[],rfl,by rw [hb];rfl,(fun p hp=>by cases hp),rfl⟩
   ·cases h1
  ·cases h
 | .cons p q,ls,x,cs,bs,cd,acts,y,us,h,ho,hc,hr,hx=>by
  simp only [svActs] at h
  split at h
  ·rename_i c1 a1 c2 a2 h1 h2
   cases h
   simp only [ownLs] at ho
   split at ho
   ·rename_i y1 us1 y2 us2 ho1 ho2
    cases ho
    obtain ⟨hc1,hc2⟩:=All.append.1 hc
    obtain ⟨d1,d2,b1,b2,hcs,rfl,hx1,hx2⟩:=hx
    have e1:cs.take p.size=d1:=by rw [hcs, ← hx1.length,List.take_left'];rfl
    have e2:cs.drop p.size=d2:=by rw [hcs, ← hx1.length,List.drop_left'];rfl
    have r1:=repLs_take p.size hr
    have r2:=repLs_drop p.size hr
    rw [e1] at r1
    rw [e2] at r2
    obtain ⟨s1,k1,k2,k3,k4⟩:=svActs_spec hR h1 ho1 hc1 r1 hx1
    obtain ⟨s2,m1,m2,m3,m4⟩:=svActs_spec hR h2 ho2 hc2 r2 hx2
    refine ⟨s1++s2,k1.append m1,by rw [List.flatten_append,k2,m2],fun z hz => ?_,by rw [List.map_append,k4,m4]⟩
    rcases List.mem_append.1 hz with hz | hz
    ·exact k3 z hz
    ·exact m3 z hz
   ·cases ho
  ·cases h
theorem RepC.one {w:World} {G:Nat→Prop}:∀ {t:Ty} {x:t.den} {cs:List Value},RepC w G t x cs→∀ c∈cs,c.oneCell'=true
 | .int _,_,_,h,c,hc=>by rw [h.1] at hc;simp at hc;subst hc;rfl
 | .bool,_,_,h,c,hc=>by rw [h] at hc;simp at hc;subst hc;rfl
 | .fn,x,_,h,c,hc=>by rw [h] at hc;simp at hc;subst hc;exact fnV_one x
 | .str,_,_,h,c,hc=>by rw [h.1] at hc;simp at hc;subst hc;rfl
 | .sl _,_,_,⟨v,h,h2⟩,c,hc=>by
  rw [h] at hc;simp at hc;subst hc
  rcases h2.2 with ⟨_,rfl,_⟩ | ⟨b,off,cap,rfl,_⟩ <;> rfl
 | .unit,_,_,h,c,hc=>by rw [h] at hc;cases hc
 | .cons _ _,_,_,⟨c1,c2,h,h1,h2⟩,c,hc=>by
  rw [h] at hc
  rcases List.mem_append.1 hc with hc | hc
  ·exact h1.one c hc
  ·exact h2.one c hc
theorem OwnC.one {w:World}:∀ {t:Ty} {x:t.den} {cs:List Value} {bs:List Nat},OwnC w t x cs bs→∀ c∈cs,c.oneCell'=true:=fun {t x cs bs} h =>
 (h.read (G:=fun _=>True) (fun _ _=>trivial)).one
theorem junks_rep (w:World):∀ {cs:List Value} {k:Nat},(∀ c∈cs,c.oneCell'=true)→cs.length=k→RepLs w0 G [] V (List.replicate k .junk) cs
 | [],k,_,h=>by subst h;rfl
 | c :: cs,k,hc,h=>by
  subst h
  exact ⟨c,cs,rfl,hc c (List.mem_cons_self ..),junks_rep w (fun d hd=>hc d (List.mem_cons_of_mem _ hd)) rfl⟩
theorem refLs_junk:∀ k:Nat,refLs (List.replicate k .junk)=[]
 | 0=>rfl
 | k+1=>by simp only [List.replicate_succ,refLs,refL,refLs_junk k,List.append_nil]
theorem dropAll_sh {us:List Nat}:ActsSh L (dropAll us):=by
 intro p hp A' hA'
 obtain ⟨r,_,rfl⟩:=List.mem_map.1 hp
 cases hA'
def UpdM (w:World) (G0:Nat→Prop) (o:AT) (v:Value) (b:List Nat):Option Lst→Prop
 | none=>b=[]
 | some A=>UpdOne w G0 o A v b
theorem planOne_spec {w':World} {Gq:Nat→Prop} {q:Bool} (hR:RelV n K w0 G w a E L V own) (hGq:∀ b,Gq b→G b) (hGs:q=true→∀ b,Gq b→K.G0 b) (href:∀ b,G b→w'.heap[b]? = w0.heap[b]?) {o:AT} {p:PV} {us:List Nat} {x:o.den} {u:Option Lst} {v:Value} {bs:List Nat} {cd:List Prop} {acts:Acts} {ex:List (Nat×Dyn)} (how:isOwn o=true) (hp:RepP w0 G L V p v) (hd:decA L o p=some (x,us,[]))
  (h:planOne L q o p us u=some (cd,acts,ex)) (hc:All cd) (hu:UpdM w' Gq o v bs u) :
  ∃ bss exs,ActsOk K w0 G w' V acts bss∧ExOk w' V ex exs∧(bss.flatten++exs.flatten).Perm bs∧ActsSh L acts∧acts.map Prod.fst=us∧(∀ r∈ex.map Prod.fst,r∈us)∧(ex.map Prod.fst).Nodup∧(∀ z∈ex,∃ ls,(z.1,some ⟨z.2.t,[],false,some ls,none⟩)∈acts):=by
 cases u with
 | none =>
  cases h
  have hu:bs=[]:=hu
  subst hu
  exact ⟨[],[],dropAll_ok,rfl,.refl _,dropAll_sh,dropAll_fst us,(fun r hr=>by cases hr),List.nodup_nil,fun z hz=>by cases hz⟩
 | some A' =>
  simp only [planOne] at h
  cases o with
  | v t=>cases how
  | p t=>cases how
  | fn f c=>cases how
  | fns _=>cases how
  | own t =>
   simp only [planSome] at h
   split at h
   ·rename_i cs as hpl
    cases h
    unfold planOwn at hpl
    split at hpl
    ·rename_i r
     split at hpl
     ·rename_i A hA
      split at hpl
      ·rename_i hte hls
       have hte:=of_decide_eq_true hte
       cases hpl
       obtain ⟨hlen,_⟩:=hc
       have hv:v=V r:=by
        cases p with
        | a B =>
         cases B with
         | osl s rg =>
          cases rg with
          | none =>
           simp only [decA] at hd
           split at hd
           ·split at hd
            ·cases hd
            ·split at hd
             ·cases hd
              obtain ⟨_,_,hve,_⟩:=hp
              exact hve rfl
             ·cases hd
           ·cases hd
          | some _=>cases hd
         | _=>cases hd
        | tup _=>cases hd
        | fn _ _=>cases hd
       have hu:OwnC w' (.sl A'.t) A'.xs [v] bs:=hu
       rw [hv] at hu
       refine ⟨[bs],[],⟨bs,[],rfl,EntC.own.2 hu,(fun l h=>by cases h),(fun q h=>by cases h),rfl⟩,rfl,by simp,fun z hz B' hB' B2 hB2 => ?_,rfl,(fun r hr=>by cases hr),List.nodup_nil,fun z hz=>by cases hz⟩
       rw [List.mem_singleton] at hz
       subst hz
       cases hB'
       rw [hA] at hB2;cases hB2
       exact ⟨hte,hlen,fun l hl=>by rw [hls] at hl;cases hl⟩
      ·cases hpl
     ·cases hpl
    ·cases hpl
   ·cases h
  | pb t =>
   simp only [planSome] at h
   split at h
   ·rename_i as hpl
    cases h
    unfold planPb at hpl
    split at hpl
    ·rename_i r x' hx'
     cases hpl
     obtain ⟨y,hA',hat⟩:=hu
     have hxy:=oneD_eq hx' hA'
     subst hxy
     cases p with
     | a B =>
      simp only [decA] at hd
      split at hd
      ·rename_i x1 us1 hpb
       cases hd
       obtain ⟨_,r',B',b,off,e1,e2,e3,e4,e5,e6,e7,e8,e9⟩:=decPb_rep (q:=false) hR (Kept.refl _ _) hp hpb (fun h=>by cases h)
       cases e1
       obtain ⟨b',off',e10,hE⟩:=hat
       rw [e9] at e10
       cases e10
       have hE1:EntC w0 G w' ⟨t,[x'],true,none,some q⟩ (V r) bs:=by
        rw [e8]
        exact EntC.keepG (A:=⟨t,[x'],true,none,none⟩) hGq (fun c hc=>(href c (hGq c hc)).symm) (fun _ _=>rfl) hE
       refine ⟨[bs],[],⟨bs,[],rfl,hE1,(fun l h=>by cases h),fun q' hq'=>⟨⟨b,off,e8⟩,fun e=>⟨rfl,?_⟩⟩,rfl⟩,rfl,by simp,fun z hz B2 hB2 B3 hB3 => ?_,rfl,(fun r hr=>by cases hr),List.nodup_nil,fun z hz=>by cases hz⟩
       ·cases hq'
        rw [e8]
        exact EntC.keepG (A:=⟨t,[x'],true,none,none⟩) (hGs e) (fun c hc=>(href c (hGq c hc)).symm) (fun _ _=>rfl) hE
       ·rw [List.mem_singleton] at hz
        subst hz
        cases hB2
        rw [e3] at hB3;cases hB3
        exact ⟨e4.symm,by rw [e7];rfl,fun l hl=>by rw [e6] at hl;cases hl⟩
      ·cases hd
     | tup _=>cases hd
     | fn _ _=>cases hd
    ·cases hpl
   ·cases h
  | po t =>
   simp only [planSome] at h
   split at h
   ·rename_i as ex' hpl
    cases h
    unfold planPo at hpl
    split at hpl
    ·rename_i r vs x' hx'
     cases hpl
     obtain ⟨y,hA',hat⟩:=hu
     have hxy:=oneD_eq hx' hA'
     subst hxy
     cases p with
     | a B =>
      simp only [decA] at hd
      split at hd
      ·rename_i x1 us1 hpo
       cases hd
       obtain ⟨_,_,r',B',vs',b,off,ls,e1,e2,e3,e4,e5,e6,e7,e8⟩:=decPo_rep hR (Kept.refl _ _) hp hpo
       cases e1
       obtain ⟨b',off',e9,hO⟩:=hat
       rw [e8] at e9
       cases e9
       rcases hO.2 with ⟨_,h1,_,_⟩ | ⟨b2,off2,cap,cur,ty,fz,bss,h1,h2,h3,h4,h5,h6,h7,h8,h9⟩
       ·cases h1
       ·simp only [Value.slice.injEq,Option.some.injEq,Addr.mk.injEq] at h1
        obtain ⟨⟨q1,q2,_⟩,_,q3⟩:=h1
        subst q1 q2 q3
        obtain ⟨bi,rfl⟩:∃ bi,bss=[bi]:=by
         match bss,h7 with
         | [bi],_=>exact ⟨bi,rfl⟩
        obtain ⟨cs,g1,g2,g3⟩:=h9 0 x' bi rfl rfl
        have hcells:CellsAt w' b off cs:=fun j c hj=>by
         simp only [World.cell?, h5]
         have:=g2 j c hj
         simpa using this
        have hE1:EntC w0 G w' ⟨t,[],false,some (junks t),none⟩ (V r) [b]:=by
         refine ⟨by simp [maxLen],.inr ⟨b,off,1,cur,ty,fz,[],e7,Nat.zero_le _,h3,h4,h5,h6,rfl,rfl,fun i y bi hy=>by simp at hy⟩⟩
        refine ⟨[[b]],[bi],⟨[b],[],rfl,hE1,fun l hl => ?_,(fun q h=>by cases h),dropAll_ok⟩,⟨bi,[],b,off,cs,rfl,e7,hcells,g3,rfl⟩,by rw [h8];simp,?_,?_,?_,?_,?_⟩
        ·cases hl
         exact ⟨refLs_junk _,b,off,cs,e7,g1,by simp [junks],hcells,junks_rep w' g3.one g1⟩
        ·intro z hz A2 hA2 A3 hA3
         rcases List.mem_cons.1 hz with rfl | hz
         ·cases hA2
          rw [e3] at hA3;cases hA3
          exact ⟨e4.symm,by rw [e5];rfl,fun l hl=>⟨_,rfl⟩⟩
         ·exact dropAll_sh z hz A2 hA2 A3 hA3
        ·simp only [List.map_cons,dropAll_fst]
        ·intro s hs;simp at hs;subst hs;exact List.mem_cons_self ..
        ·simp
        ·intro z hz
         rw [List.mem_singleton] at hz
         subst hz
         exact ⟨junks t,List.mem_cons_self ..⟩
      ·cases hd
     | tup _=>cases hd
     | fn _ _=>cases hd
    ·cases hpl
   ·cases h
  | sv t =>
   simp only [planSome] at h
   split at h
   ·rename_i cs1 as hpl
    cases h
    unfold planSv at hpl
    split at hpl
    ·rename_i t' ls x' hx'
     obtain ⟨y,hA',hat⟩:=hu
     have hxy:=oneD_eq hx' hA'
     subst hxy
     simp only [decA] at hd
     split at hd
     ·rename_i x1 us1 hsv
      cases hd
      have hsv:(match decide (t'=t) with
       | true=>ownLs L t ls
       | false=>none)=some (x,us):=hsv
      ·split at hsv
       ·rename_i ht
        obtain ⟨cs,hvv,hl,hr⟩:=hp
        obtain ⟨cs',hv',ho⟩:=hat
        have hcs:cs'=cs:=by
         rw [hvv] at hv'
         simp only [Value.agg.injEq] at hv'
         have:=congrArg Array.toList hv'
         simpa using this.symm
        subst hcs
        obtain ⟨bss,k1,k2,k3,k4⟩:=svActs_spec (w':=w') hR hpl hsv hc hr ho
        exact ⟨bss,[],k1,rfl,by rw [k2];simp,k3,k4,(fun r hr=>by cases hr),List.nodup_nil,fun z hz=>by cases hz⟩
       ·cases hsv
     ·cases hd
    ·cases hpl
   ·cases h
theorem nodup_append_of {α:Type} {l m:List α} (h1:l.Nodup) (h2:m.Nodup) (h3:∀ x∈l,x ∉ m):(l++m).Nodup:=by
 rw [List.nodup_append]
 exact ⟨h1,h2,fun a ha b hb e=>h3 a ha (e ▸ hb)⟩
theorem decA_own {o:AT} {p:PV} {x:o.den} {us vs:List Nat} (h:decA L o p=some (x,us,vs)):(isOwn o=false→us=[])∧(isOwn o=true→vs=[]):=by
 cases o with
 | v t=>cases p with
  | a A=>simp only [decA] at h;split at h <;> cases h;exact ⟨fun _=>rfl,(fun h=>by cases h)⟩
  | tup _=>cases h
  | fn _ _=>cases h
 | p t=>cases p with
  | a A=>simp only [decA] at h;split at h <;> cases h;exact ⟨fun _=>rfl,(fun h=>by cases h)⟩
  | tup _=>cases h
  | fn _ _=>cases h
 | fns fs=>cases p with
  | a A =>
   simp only [decA] at h
   split at h
   ·split at h <;> cases h
    exact ⟨fun _=>rfl,(fun h=>by cases h)⟩
   ·cases h
  | tup _=>cases h
  | fn _ _=>cases h
 | fn f c=>cases p with
  | a A=>cases h
  | tup _=>cases h
  | fn _ _=>simp only [decA] at h;split at h <;> cases h;exact ⟨fun _=>rfl,(fun h=>by cases h)⟩
 | own t=>cases p with
  | a A =>
   refine ⟨(fun h=>by cases h),fun _ => ?_⟩
   cases A with
   | osl r rg=>cases rg with
    | none =>
     simp only [decA] at h
     split at h
     ·split at h
      ·cases h
      ·split at h <;> cases h;rfl
     ·cases h
    | some _=>cases h
   | _=>cases h
  | tup _=>cases h
  | fn _ _=>cases h
 | pb t=>cases p with
  | a A=>refine ⟨(fun h=>by cases h),fun _ => ?_⟩;simp only [decA] at h;split at h <;> cases h;rfl
  | tup _=>cases h
  | fn _ _=>cases h
 | po t=>cases p with
  | a A=>refine ⟨(fun h=>by cases h),fun _ => ?_⟩;simp only [decA] at h;split at h <;> cases h;rfl
  | tup _=>cases h
  | fn _ _=>cases h
 | sv t=>cases p with
  | a A=>refine ⟨(fun h=>by cases h),fun _ => ?_⟩;simp only [decA] at h;split at h <;> cases h;rfl
  | tup _=>cases h
  | fn _ _=>cases h
theorem plan_spec {w':World} {Gq:Nat→Prop} {q:Bool} (hR:RelV n K w0 G w a E L V own) (hGq:∀ b,Gq b→G b) (hGs:q=true→∀ b,Gq b→K.G0 b) (href:∀ b,G b→w'.heap[b]? = w0.heap[b]?):∀ {sig:List AT} {ps:List PV} {vs:List Value} {x:sigDen sig} {os:List (List Nat)} {us:List Nat} {ups:List (Option Lst)} {ubs:List (List Nat)} {cd:List Prop} {acts:Acts} {ex:List (Nat×Dyn)},
  RepPs w0 G L V ps vs→decArgs L sig ps=some (x,os,us)→planAll L q sig ps os ups=some (cd,acts,ex)→All cd→UpdK w' Gq (owns sig) ups (ownVals sig vs) ubs→os.flatten.Nodup →
  ∃ bss exs,ActsOk K w0 G w' V acts bss∧ExOk w' V ex exs∧(bss.flatten++exs.flatten).Perm ubs.flatten∧ActsSh L acts∧acts.map Prod.fst=os.flatten∧(∀ r∈ex.map Prod.fst,r∈os.flatten)∧(ex.map Prod.fst).Nodup∧(∀ z∈ex,∃ ls,(z.1,some ⟨z.2.t,[],false,some ls,none⟩)∈acts)
 | [],ps,vs,x,os,us,ups,ubs,cd,acts,ex,hp,hd,h,hc,hu,hn=>by
  cases ps with
  | cons p s=>cases hd
  | nil =>
   cases hd
   cases ups with
   | cons u r=>cases h
   | nil =>
    cases h
    have hub:ubs=[]:=hu.2
    subst hub
    exact ⟨[],[],rfl,rfl,.refl _,(fun z hz=>by cases hz),rfl,(fun r hr=>by cases hr),List.nodup_nil,fun z hz=>by cases hz⟩
 | o :: sig,[],vs,x,os,us,ups,ubs,cd,acts,ex,hp,hd,h,hc,hu,hn=>by cases hd
 | o :: sig,p :: ps,vs,x,os,us,ups,ubs,cd,acts,ex,⟨v,vs',hvs,hp,hps⟩,hd,h,hc,hu,hn=>by
  subst hvs
  simp only [decArgs] at hd
  split at hd
  ·rename_i z o1 u1 zs os' us' hd1 hd2
   cases hd
   obtain ⟨n1,n2⟩:=decA_own hd1
   simp only [planAll] at h
   rw [List.flatten_cons,List.nodup_append] at hn
   split at h
   ·rename_i how
    have ho1:=n1 how
    subst ho1
    have hu':UpdK w' Gq (owns sig) ups (ownVals sig vs') ubs:=by cases o <;> first | exact hu | cases how
    have:=plan_spec (os:=os') hR hGq hGs href hps hd2 h hc hu' hn.2.1
    simpa using this
   ·rename_i how
    have ho1:=n2 how
    subst ho1
    split at h
    ·rename_i u ups'
     split at h
     ·rename_i c1 a1 e1 c2 a2 e2 hp1 hp2
      cases h
      obtain ⟨hc1,hc2⟩:=All.append.1 hc
      have hu':UpdK w' Gq (o :: owns sig) (u :: ups') (v :: ownVals sig vs') ubs:=by cases o <;> first | exact hu | cases how
      have hcomb:∀ {b:List Nat} {bs':List (List Nat)},ubs=b :: bs'→UpdK w' Gq (owns sig) ups' (ownVals sig vs') bs'→UpdM w' Gq o v b u →
        ∃ bss exs,ActsOk K w0 G w' V (a1++a2) bss∧ExOk w' V (e1++e2) exs∧(bss.flatten++exs.flatten).Perm ubs.flatten∧ActsSh L (a1++a2)∧(a1++a2).map Prod.fst=(o1 :: os').flatten∧(∀ r∈(e1++e2).map Prod.fst,r∈(o1 :: os').flatten)∧((e1++e2).map Prod.fst).Nodup∧(∀ z∈e1++e2,∃ ls,(z.1,some ⟨z.2.t,[],false,some ls,none⟩)∈a1++a2):=by
       intro b bs' hub hu1 hu2
       subst hub
       obtain ⟨s1,x1,k1,k2,k3,k4,k5,k6,k7,k8⟩:=planOne_spec (w':=w') hR hGq hGs href how hp hd1 hp1 hc1 hu2
       obtain ⟨s2,x2,m1,m2,m3,m4,m5,m6,m7,m8⟩:=plan_spec hR hGq hGs href hps hd2 hp2 hc2 hu1 hn.2.1
       refine ⟨s1++s2,x1++x2,k1.append m1,k2.append m2,?_,fun z hz => ?_,by rw [List.map_append,k5,m5,List.flatten_cons],fun r hr => ?_,?_,fun z hz => ?_⟩
       ·rw [List.flatten_append,List.flatten_append,List.flatten_cons]
        have e3:(s1.flatten++s2.flatten++(x1.flatten++x2.flatten)).Perm ((s1.flatten++x1.flatten)++(s2.flatten++x2.flatten)):=by
         rw [List.append_assoc,List.append_assoc]
         refine List.Perm.append_left _ ?_
         rw [← List.append_assoc, ← List.append_assoc]
         exact List.Perm.append_right _ List.perm_append_comm
        exact e3.trans (k3.append m3)
       ·rcases List.mem_append.1 hz with hz | hz
        ·exact k4 z hz
        ·exact m4 z hz
       ·rw [List.map_append] at hr
        rw [List.flatten_cons]
        rcases List.mem_append.1 hr with hr | hr
        ·exact List.mem_append_left _ (k6 r hr)
        ·exact List.mem_append_right _ (m6 r hr)
       ·rw [List.map_append]
        exact nodup_append_of k7 m7 fun r hr hm=>hn.2.2 r (k6 r hr) r (m6 r hm) rfl
       ·rcases List.mem_append.1 hz with hz | hz
        ·obtain ⟨ls,h⟩:=k8 z hz;exact ⟨ls,List.mem_append_left _ h⟩
        ·obtain ⟨ls,h⟩:=m8 z hz;exact ⟨ls,List.mem_append_right _ h⟩
      cases u with
      | none =>
       obtain ⟨v',s',bs',h1,h2,h3⟩:=hu'
       cases h1
       exact hcomb h2 h3 rfl
      | some A =>
       obtain ⟨v',s',b,bs',h1,h2,h3,h4⟩:=hu'
       cases h1
       exact hcomb h2 h4 h3
     ·cases h
    ·cases h
  ·cases hd
theorem acts_in {r:Nat} {A':Arr}:∀ {acts:Acts} {E:Env} {L:Heap},(acts.map Prod.fst).Nodup→(r,some A')∈acts→(∀ p∈acts,∃ A,hget L p.1=some A)→(∀ ls,A'.ls=some ls→refLs ls=[])→hget (actsA acts (E,L)).2 r=some A'
 | [],_,_,_,h,_,_=>by cases h
 | (s,o) :: acts,E,L,hn,h,hl,hj=>by
  obtain ⟨hs,hn'⟩:=List.nodup_cons.1 hn
  have kill:∀ k,killR k A'=A':=by
   intro k
   unfold killR
   split
   ·rename_i ls hls
    have h0:=hj ls hls
    have:ls.map (killLf k)=ls:=by
     clear hls
     induction ls with
     | nil=>rfl
     | cons l r ih =>
      simp only [refLs,List.append_eq_nil_iff] at h0
      rw [List.map_cons,ih h0.2]
      congr 1
      cases l with
      | osl a b=>simp [refL] at h0
      | _=>rfl
    rw [this]
    obtain ⟨_,_,_,_,_⟩:=A'
    simp only at hls
    subst hls
    rfl
   ·rfl
  have keep:∀ {acts:Acts} {E:Env} {L:Heap},r ∉ acts.map Prod.fst→hget L r=some A'→hget (actsA acts (E,L)).2 r=some A':=by
   intro acts
   induction acts with
   | nil=>intro E L _ h;exact h
   | cons p acts ih =>
    intro E L hm h
    obtain ⟨s,o⟩:=p
    simp only [List.map_cons,List.mem_cons,not_or] at hm
    cases o with
    | none =>
     refine ih hm.2 ?_
     show hget (killH s (hset L s none)) r=some A'
     rw [hget_killH,hget_hset_other (fun e=>hm.1 e.symm),h]
     simp [kill]
    | some B =>
     refine ih hm.2 ?_
     show hget (hset L s (some B)) r=some A'
     rw [hget_hset_other (fun e=>hm.1 e.symm)];exact h
  have step:∀ L',(∀ p∈acts,hget L' p.1=hget L p.1∨∃ A,hget L' p.1=some A)→∀ p∈acts,∃ A,hget L' p.1=some A:=fun L' hh p hp=>by
   rcases hh p hp with h | h
   ·rw [h];exact hl p (List.mem_cons_of_mem _ hp)
   ·exact h
  rcases List.mem_cons.1 h with h1 | h1
  ·cases h1
   obtain ⟨A,hA⟩:=hl _ (List.mem_cons_self ..)
   show hget (actsA acts (E,hset L r (some A'))).2 r=some A'
   exact keep hs (hget_hset_same hA)
  ·cases o with
   | none =>
    show hget (actsA acts (killE s E,killH s (hset L s none))).2 r=some A'
    refine acts_in (acts:=acts) hn' h1 (step _ fun p hp => .inr ?_) hj
    have hps:p.1≠s:=fun e=>hs (List.mem_map.2 ⟨_,hp,e⟩)
    obtain ⟨A,hA⟩:=hl p (List.mem_cons_of_mem _ hp)
    exact ⟨killR s A,by
     show hget (killH s (hset L s none)) p.1=_
     rw [hget_killH,hget_hset_other (Ne.symm hps),hA];rfl⟩
   | some B =>
    show hget (actsA acts (E,hset L s (some B))).2 r=some A'
    refine acts_in (acts:=acts) hn' h1 (step _ fun p hp => .inl ?_) hj
    have hps:p.1≠s:=fun e=>hs (List.mem_map.2 ⟨_,hp,e⟩)
    exact hget_hset_other (Ne.symm hps)
theorem lendA_live (hR:RelV n K w0 G w a E L V own) {A:Atom} {v:Value} (h:RepA w0 G L V A v):∀ r∈lendA L A,∃ B,hget L r=some B:=by
 unfold lendA
 split
 ·rename_i r o t
  obtain ⟨B,ls,b,off,hB,hls,_⟩:=h
  simp only [hB,hls]
  intro s hs
  rcases List.mem_cons.1 hs with rfl | hs
  ·exact ⟨B,hB⟩
  ·exact (hR.boxs r B ls hB hls).live s hs
 ·exact repA_live h
theorem decCaps_live (hR:RelV n K w0 G w a E L V own):∀ {caps:List (Bool×Ty)} {ats:List Atom} {x:capsDen caps} {us:List Nat} {vs:List Value},decCaps L caps ats=some (x,us)→RepAs w0 G L V ats vs→∀ r∈us,∃ A,hget L r=some A
 | [],[],x,us,vs,h,_,r,hr=>by cases h;cases hr
 | (true,t) :: c,A :: s,x,us,vs,h,⟨v,q,_,h1,h2⟩,r,hr=>by
  simp only [decCaps] at h
  split at h
  ·rename_i y z us' hy hz
   cases h
   rcases List.mem_append.1 hr with hr | hr
   ·exact lendA_live hR h1 r hr
   ·exact decCaps_live hR hz h2 r hr
  ·cases h
 | (false,t) :: c,A :: s,x,us,vs,h,⟨v,q,_,h1,h2⟩,r,hr=>by
  simp only [decCaps] at h
  split at h
  ·rename_i y z us' hy hz
   cases h
   exact decCaps_live hR hz h2 r hr
  ·cases h
 | [],_ :: _,_,_,_,h,_,_,_=>by cases h
 | (true,_) :: _,[],_,_,_,h,_,_,_=>by cases h
 | (false,_) :: _,[],_,_,_,h,_,_,_=>by cases h
theorem decA_live (hR:RelV n K w0 G w a E L V own) {o:AT} {p:PV} {x:o.den} {us vs:List Nat} {v:Value} (hp:RepP w0 G L V p v) (h:decA L o p=some (x,us,vs)):(∀ r∈vs,∃ A,hget L r=some A)∧∀ r∈us,∃ A,hget L r=some A:=by
 cases o with
 | v t=>cases p with
  | a A=>simp only [decA] at h;split at h <;> cases h;exact ⟨lendA_live hR hp,fun r hr=>by cases hr⟩
  | tup _=>cases h
  | fn _ _=>cases h
 | p t=>cases p with
  | a A=>simp only [decA] at h;split at h <;> cases h;exact ⟨lendA_live hR hp,fun r hr=>by cases hr⟩
  | tup _=>cases h
  | fn _ _=>cases h
 | fns fs=>cases p with
  | a A =>
   simp only [decA] at h
   split at h
   ·split at h <;> cases h
    exact ⟨lendA_live hR hp,fun r hr=>by cases hr⟩
   ·cases h
  | tup _=>cases h
  | fn _ _=>cases h
 | fn f c=>cases p with
  | a A=>cases h
  | tup _=>cases h
  | fn _ _ =>
   simp only [decA] at h
   split at h
   ·rename_i q' us'' hfg hq
    cases h
    obtain ⟨vs,hv,hr⟩:=hp
    exact ⟨decCaps_live hR hq hr,fun r hr=>by cases hr⟩
   ·cases h
 | own t=>cases p with
  | a A =>
   cases A with
   | osl r rg=>cases rg with
    | none =>
     simp only [decA] at h
     split at h
     ·rename_i B hB
      split at h
      ·cases h
      ·split at h
       ·cases h
        exact ⟨(fun r hr=>by cases hr),fun s hs=>by rw [List.mem_singleton.1 hs];exact ⟨B,hB⟩⟩
       ·cases h
     ·cases h
    | some _=>cases h
   | _=>cases h
  | tup _=>cases h
  | fn _ _=>cases h
 | pb t=>cases p with
  | a A =>
   simp only [decA] at h
   split at h
   ·rename_i x1 us1 hpb
    cases h
    obtain ⟨_,r,B,b,off,e1,_,e3,_⟩:=decPb_rep (q:=false) hR (Kept.refl _ _) hp hpb (fun h=>by cases h)
    exact ⟨(fun r hr=>by cases hr),fun s hs=>by rw [e1] at hs;rw [List.mem_singleton.1 hs];exact ⟨B,e3⟩⟩
   ·cases h
  | tup _=>cases h
  | fn _ _=>cases h
 | po t=>cases p with
  | a A =>
   simp only [decA] at h
   split at h
   ·rename_i x1 us1 hpo
    cases h
    exact ⟨(fun r hr=>by cases hr),(decPo_rep hR (Kept.refl _ _) hp hpo).2.1⟩
   ·cases h
  | tup _=>cases h
  | fn _ _=>cases h
 | sv t=>cases p with
  | a A =>
   simp only [decA] at h
   split at h
   ·rename_i x1 us1 hsv
    cases h
    exact ⟨(fun r hr=>by cases hr),(decSv_rep hR (Kept.refl _ _) hp hsv).2⟩
   ·cases h
  | tup _=>cases h
  | fn _ _=>cases h
theorem decArgs_live (hR:RelV n K w0 G w a E L V own):∀ {sig:List AT} {ps:List PV} {vs:List Value} {x:sigDen sig} {os:List (List Nat)} {us:List Nat},RepPs w0 G L V ps vs→decArgs L sig ps=some (x,os,us) →
  (∀ r∈us,∃ A,hget L r=some A)∧(∀ r∈os.flatten,∃ A,hget L r=some A)
 | [],[],vs,x,os,us,hp,h=>by cases h;cases hp;exact ⟨(fun r hr=>by cases hr),(fun r hr=>by cases hr)⟩
 | t :: q,y :: s,vs,x,os,us,⟨v,vs',hvs,hpy,hps⟩,h=>by
  subst hvs
  simp only [decArgs] at h
  split at h
  ·rename_i z o u zs os' us' h1 h2
   cases h
   obtain ⟨i1,i2⟩:=decArgs_live hR hps h2
   obtain ⟨k1,k2⟩:=decA_live hR hpy h1
   refine ⟨fun r hr => ?_,fun r hr => ?_⟩
   ·rcases List.mem_append.1 hr with hr | hr
    ·exact k1 r hr
    ·exact i1 r hr
   ·rw [List.flatten_cons] at hr
    rcases List.mem_append.1 hr with hr | hr
    ·exact k2 r hr
    ·exact i2 r hr
  ·cases h
 | [],_ :: _,_,_,_,_,_,h=>by cases h
 | _ :: _,[],_,_,_,_,_,h=>by cases h
theorem ownOf_flatten (own:Nat→List Nat):∀ os:List (List Nat),(ownOf own os).flatten=(os.flatten.map own).flatten
 | []=>rfl
 | o :: os=>by
  have:=ownOf_flatten own os
  simp only [ownOf,List.map_cons,List.flatten_cons,List.map_append,List.flatten_append] at this ⊢
  rw [this]
theorem own_nodup (hR:RelV n K w0 G w a E L V own):∀ {rs:List Nat},rs.Nodup→(∀ r∈rs,∃ A,hget L r=some A)→(rs.map own).flatten.Nodup
 | [],_,_=>List.nodup_nil
 | r :: rs,hn,hl=>by
  obtain ⟨h1,h2⟩:=List.nodup_cons.1 hn
  obtain ⟨A,hA⟩:=hl r (List.mem_cons_self ..)
  simp only [List.map_cons,List.flatten_cons]
  rw [List.nodup_append]
  refine ⟨hR.nodup r A hA,own_nodup hR h2 (fun s hs=>hl s (List.mem_cons_of_mem _ hs)),fun b hb c hc e => ?_⟩
  subst e
  obtain ⟨l,hl',hbl⟩:=List.mem_flatten.1 hc
  obtain ⟨s,hs,rfl⟩:=List.mem_map.1 hl'
  obtain ⟨B,hB⟩:=hl s (List.mem_cons_of_mem _ hs)
  exact hR.apart r s A B hA hB (fun e=>h1 (e ▸ hs)) b hb hbl
theorem packV_rep {G:Nat→Prop}:∀ {ats:List Atom} {rs:List Value},RepAs w0 G L V ats rs→RepP w0 G L V (packA ats) (packV rs)
 | [],rs,h=>by subst h;exact ⟨[],rfl,rfl⟩
 | [A],rs,⟨v,s,h,h1,h2⟩=>by subst h;cases h2;exact h1
 | A :: B :: ats,rs,h=>by
  obtain ⟨v,s,hs,h1,h2⟩:=h
  obtain ⟨v',s',hs',h1',h2'⟩:=h2
  subst hs hs'
  exact ⟨_,rfl,_,_,rfl,h1,_,_,rfl,h1',h2'⟩
theorem call_back (hR:RelV n K w0 G w a E L V own) {S:Spec} {ps:List PV} {vs:List Value} {x:sigDen S.sig} {os:List (List Nat)} {us:List Nat} {cd:List Prop} {acts:Acts} {ex:List (Nat×Dyn)} {e:Ending} {w':World}
  (hps:RepPs w0 G L V ps vs) (hd:decArgs L S.sig ps=some (x,os,us)) (hnd:os.flatten.Nodup) (hko:ownK S.kds=true∨us=[]) (hpl:planAll L (smArgs L S.sig ps) S.sig ps os (S.upd x)=some (cd,acts,ex)) (hc:All cd)
  (hpost:PostC w (ownOf own os).flatten (LendG G own us) (SmG K G (smArgs L S.sig ps)) S.kds (S.res x) (owns S.sig) (S.upd x) (ownVals S.sig vs) e w') :
  ∃ v w0' G' V' own',e = .returned v∧Kept (ownOf own os).flatten w w'∧RelV n K w0' G' w' a (actsA acts (E,L)).1 (expA ex (actsA acts (E,L)).2++(resA (expA ex (actsA acts (E,L)).2).length S.kds (S.res x)).2) V' own' ∧
   RepP w0' G' (expA ex (actsA acts (E,L)).2++(resA (expA ex (actsA acts (E,L)).2).length S.kds (S.res x)).2) V' (packA (resA (expA ex (actsA acts (E,L)).2).length S.kds (S.res x)).1) v:=by
 obtain ⟨rs,ubs,rbs,F,rfl,hk,hrr,hur,hnn,hgg,hF⟩:=hpost
 obtain ⟨l1,l2⟩:=decArgs_live hR hps hd
 have hH:∀ b∈(ownOf own os).flatten,∃ r∈os.flatten,b∈own r:=fun b hb=>by
  rw [ownOf_flatten] at hb
  obtain ⟨l,hl,hbl⟩:=List.mem_flatten.1 hb
  obtain ⟨r,hr,rfl⟩:=List.mem_map.1 hl
  exact ⟨r,hr,hbl⟩
 have hg:∀ b∈(ownOf own os).flatten,Out K G b:=fun b hb=>by
  obtain ⟨r,hr,hbr⟩:=hH b hb
  obtain ⟨A,hA⟩:=l2 r hr
  exact hR.good r A hA b hbr
 have hout:∀ b,¬ Good w (ownOf own os).flatten b→Out K G b:=fun b h1=>by
  by_cases hm:b∈(ownOf own os).flatten
  ·exact hg b hm
  ·exact hR.out_new (Nat.le_of_not_lt fun hlt=>h1 ⟨hlt,hm⟩)
 have hfar:∀ r A,hget L r=some A→r ∉ os.flatten→∀ b∈own r,b<w.heap.size∧b ∉ (ownOf own os).flatten:=fun r A hA hr b hb=>by
  refine ⟨hR.own_lt hA b hb,fun hm => ?_⟩
  obtain ⟨s,hs,hbs⟩:=hH b hm
  obtain ⟨B,hB⟩:=l2 s hs
  exact hR.apart r s A B hA hB (fun e=>hr (e ▸ hs)) b hb hbs
 have hGk:∀ b,G b→w'.heap[b]? = w0.heap[b]? := fun b hb=>(hk.block b (hR.glt b hb) (fun hm=>(hg b hm).2 hb)).trans (hR.gref b hb)
 have hGq:∀ b,SmG K G (smArgs L S.sig ps) b→G b:=fun b hb=>by
  unfold SmG at hb
  split at hb
  ·exact hR.gsub b hb
  ·exact hb
 have hGs:smArgs L S.sig ps=true→∀ b,SmG K G (smArgs L S.sig ps) b→K.G0 b:=fun hq b hb=>by
  unfold SmG at hb
  rwa [if_pos hq] at hb
 obtain ⟨bss,exs,k1,k2,k3,k4,k5,k6,k7,k8⟩:=plan_spec (w':=w') hR hGq hGs hGk hps hd hpl hc hur hnd
 have hall:((bss.flatten++exs.flatten)++rbs.flatten).Perm (ubs.flatten++rbs.flatten):=List.Perm.append_right _ k3
 have hnn2:=hall.nodup_iff.2 hnn
 have hn12:=List.nodup_append.1 hnn2
 have hn1:=List.nodup_append.1 hn12.1
 have hmem:∀ b,b∈bss.flatten∨b∈exs.flatten∨b∈rbs.flatten→b∈ubs.flatten++rbs.flatten:=fun b hb=>by
  refine hall.mem_iff.1 ?_
  rcases hb with hb | hb | hb
  ·exact List.mem_append_left _ (List.mem_append_left _ hb)
  ·exact List.mem_append_left _ (List.mem_append_right _ hb)
  ·exact List.mem_append_right _ hb
 have hp:Pend n K w0 G w' a E L V own (acts.map Prod.fst) (fun c=>c∈bss.flatten∨(c∈exs.flatten∨(c∈rbs.flatten∨F c))):=by
  rw [k5]
  refine ⟨hR.glob,?_,hR.size,hR.defers,fun b hb=>Nat.lt_of_lt_of_le (hR.glt b hb) hk.size,hGk,hR.gsub,hR.gold,hR.gup,fun r A hA hr => ?_,fun r A hA _=>hR.good r A hA,fun r A hA _=>hR.nodup r A hA,fun r s A B h1 h2 _ _=>hR.apart r s A B h1 h2,fun r A ls hA hr hls => ?_,fun r A q hA hr hq => ?_,hR.env,l2,fun r A hA hr b hb hm => ?_⟩
  ·refine ⟨hk.os.trans hR.kept.os,hk.tape.trans hR.kept.tape,hk.output.trans hR.kept.output,Nat.le_trans hR.kept.size hk.size,fun b hb ho => ?_⟩
   rw [hk.block b (Nat.lt_of_lt_of_le hb hR.kept.size) (fun hm=>(hg b hm).1 ⟨hb,ho⟩)]
   exact hR.kept.block b hb ho
  ·exact (hR.heap r A hA).keep fun b hb=>hk.block b (hfar r A hA hr b hb).1 (hfar r A hA hr b hb).2
  ·exact (hR.boxs r A ls hA hls).keepB fun b off hv=>hk.block b (hfar r A hA hr b ((hR.heap r A hA).block hv (Nat.le_refl _))).1 (hfar r A hA hr b ((hR.heap r A hA).block hv (Nat.le_refl _))).2
  ·obtain ⟨g1,g2⟩:=hR.small r A q hA hq
   exact ⟨g1,fun e=>⟨(g2 e).1,(g2 e).2.keep fun b hb=>hk.block b (hfar r A hA hr b hb).1 (hfar r A hA hr b hb).2⟩⟩
  ·rcases hm with hm | hm | hm | hm
   ·exact hgg b (hmem b (.inl hm)) (hfar r A hA hr b hb)
   ·exact hgg b (hmem b (.inr (.inl hm))) (hfar r A hA hr b hb)
   ·exact hgg b (hmem b (.inr (.inr hm))) (hfar r A hA hr b hb)
   ·exact (hF b hm).2.1 (hfar r A hA hr b hb)
 obtain ⟨own1,r1,d1⟩:=acts_spec hp (by rw [k5];exact hnd) k1 k4 hn1.1 (fun c hc hm=>by
  rcases hm with hm | hm | hm
  ·exact hn1.2.2 c hc c hm rfl
  ·exact hn12.2.2 c (List.mem_append_left _ hc) c hm rfl
  ·exact (hF c hm).2.2 (hmem c (.inl hc))) (fun b hb=>hout b (hgg b (hmem b (.inl hb))))
 have hin:ExIn (actsA acts (E,L)).2 ex:=fun p hp'=>by
  obtain ⟨ls,hls⟩:=k8 p hp'
  refine ⟨ls,acts_in (by rw [k5];exact hnd) hls (fun z hz=>l2 z.1 (by rw [← k5];exact List.mem_map.2 ⟨_,hz,rfl⟩)) fun l hl => ?_⟩
  cases hl
  have key:∀ {acts:Acts} {bss:List (List Nat)},ActsOk K w0 G w' V acts bss→∀ r A' l,(r,some A')∈acts→A'.ls=some l→refLs l=[]:=by
   intro acts
   induction acts with
   | nil=>intro bss _ r A' l hm;cases hm
   | cons z s ih =>
    intro bss h r A' l hm hl
    obtain ⟨r0,o⟩:=z
    cases o with
    | none =>
     rcases List.mem_cons.1 hm with hm | hm
     ·cases hm
     ·exact ih (bss:=bss) h r A' l hm hl
    | some B =>
     obtain ⟨b,t,_,_,h3,_,h5⟩:=h
     rcases List.mem_cons.1 hm with hm | hm
     ·cases hm;exact (h3 l hl).1
     ·exact ih h5 r A' l hm hl
  exact key k1 _ _ _ hls rfl
 obtain ⟨V2,own2,r2,d2⟩:=exp_spec (rest:=fun c=>c∈rbs.flatten∨F c) r1 k2 hin k7 hn1.2.1 (fun c hc hm=>by
  rcases hm with hm | hm
  ·exact hn12.2.2 c (List.mem_append_right _ hc) c hm rfl
  ·exact (hF c hm).2.2 (hmem c (.inr (.inl hc)))) (fun b hb=>hout b (hgg b (hmem b (.inr (.inl hb))))) (fun r A hA b hb=>⟨fun hm=>d1 r A hA b hb (.inl hm),fun hm=>d1 r A hA b hb (.inr hm)⟩)
 have hrout:∀ b∈rbs.flatten,Out K G b:=fun b hb=>hout b (hgg b (hmem b (.inr (.inr hb))))
 rcases hko with hko | hus
 ·obtain ⟨V3,own3,r3,_,a3⟩:=res_spec r2 (.inl hko) hrr hn12.2.1 hrout (fun r A hA b hb hm=>d2 r A hA b hb (.inl hm))
  exact ⟨_,w0,G,V3,own3,rfl,hk,r3,packV_rep a3⟩
 ·have r2':=r2.widen (F:=F) (fun b hb=>(hF b hb).1) (fun b hb=>(hout b (hF b hb).2.1).1) (fun b hb r A hA hm=>d2 r A hA b hm (.inr hb))
  have hrout':∀ b∈rbs.flatten,Out K (fun c=>G c∨F c) b:=fun b hb=>by
   obtain ⟨h1,h2⟩:=hrout b hb
   exact ⟨h1,fun h=>h.elim h2 fun hf=>(hF b hf).2.2 (hmem b (.inr (.inr hb)))⟩
  obtain ⟨V3,own3,r3,_,a3⟩:=res_spec r2' (.inr ⟨fun c hc=>by
   rcases hc with hc | hc
   ·rcases hc with hc | ⟨r,hr,_⟩
    ·exact .inl hc
    ·rw [hus] at hr;cases hr
   ·exact .inr hc,rfl⟩) hrr hn12.2.1 hrout' (fun r A hA b hb hm=>d2 r A hA b hb (.inl hm))
  exact ⟨_,w',_,V3,own3,rfl,hk,r3,packV_rep a3⟩
theorem callA_spec:∀ {ext:Ext} (hX:ExtOk P ext) (hR:RelV n K w0 G w a E L V own) {f:FuncId} {ps:List PV} {vs:List Value} {cs:List Prop} {pv:PV} {E':Env} {L':Heap}
  (hps:RepPs w0 G L V ps vs) (h:callA ext E L f ps=some (cs,pv,E',L')) (hc:All cs),
  Callable P f∧Calls P f vs.toArray w fun e w'=>∃ v w0' G' V' own',e = .returned v∧RelV n K w0' G' w' a E' L' V' own'∧RepP w0' G' L' V' pv v
 | [],_,_,_,_,_,_,_,_,_,_,h,_=>by cases h
 | (g,S) :: r,hX,hR,f,ps,vs,cs,pv,E',L',hps,h,hc=>by
  obtain ⟨⟨hcall,hcon⟩,hX'⟩:=hX
  simp only [callA] at h
  split at h
  ·rename_i hfg
   obtain rfl:=Nat.eq_of_beq_eq_true hfg
   split at h
   ·rename_i x os us hd
    split at h
    ·rename_i cd acts ex hdis hpl
     cases h
     obtain ⟨hpre,hc⟩:=hc
     simp only [Bool.and_eq_true,Bool.or_eq_true,List.isEmpty_iff] at hdis
     obtain ⟨⟨hdj,hnb⟩,hko⟩:=hdis
     have hnd:=nodupB_spec hnb
     obtain ⟨l1,l2⟩:=decArgs_live hR hps hd
     have hH:∀ b∈(ownOf own os).flatten,∃ r∈os.flatten,b∈own r:=fun b hb=>by
      rw [ownOf_flatten] at hb
      obtain ⟨l,hl,hbl⟩:=List.mem_flatten.1 hb
      obtain ⟨r,hr,rfl⟩:=List.mem_map.1 hl
      exact ⟨r,hr,hbl⟩
     have hg:∀ b∈(ownOf own os).flatten,Out K G b:=fun b hb=>by
      obtain ⟨r,hr,hbr⟩:=hH b hb
      obtain ⟨A,hA⟩:=l2 r hr
      exact hR.good r A hA b hbr
     have hGood:∀ b,LendG G own us b→Good w (ownOf own os).flatten b:=by
      rintro b (hb | ⟨r,hr,hb⟩)
      ·exact ⟨hR.glt b hb,fun hm=>(hg b hm).2 hb⟩
      ·obtain ⟨A,hA⟩:=l1 r hr
       refine ⟨hR.own_lt hA b hb,fun hm => ?_⟩
       obtain ⟨s,hs,hbs⟩:=hH b hm
       obtain ⟨B,hB⟩:=l2 s hs
       have hrs:r≠s:=fun e=>disjB_spec hdj s hs (e ▸ hr)
       exact hR.apart r s A B hA hB hrs b hb hbs
     have hargs:=decArgs_rep (q:=smArgs L S.sig ps) hR (Kept.refl [] w) (G':=LendG G own us) (fun b hb => .inl hb) hps hd (fun h=>h) (fun r hr b hb => .inr ⟨r,hr,hb⟩)
     have hnd':(ownOf own os).flatten.Nodup:=by rw [ownOf_flatten];exact own_nodup hR hnd l2
     refine ⟨hcall,(hcon w (LendG G own us) (SmG K G (smArgs L S.sig ps)) x _ _ (hR.gok (Kept.refl _ _) hg) hGood (fun b hb => .inl ?_) hpre hargs hnd').mono ?_⟩
     ·unfold SmG at hb
      split at hb
      ·exact hR.gsub b hb
      ·exact hb
     ·intro e w' hpost
      obtain ⟨v,w0',G',V',own',h1,_,h2,h3⟩:=call_back hR hps hd hnd hko hpl hc hpost
      exact ⟨v,w0',G',V',own',h1,h2,h3⟩
    ·exact callA_spec hX' hR hps h hc
   ·exact callA_spec hX' hR hps h hc
  ·exact callA_spec hX' hR hps h hc
end
end Go.Am
