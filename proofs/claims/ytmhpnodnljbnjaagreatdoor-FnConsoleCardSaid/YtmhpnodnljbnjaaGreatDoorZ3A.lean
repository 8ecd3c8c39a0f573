/- The abstract machine. -/
import Derived.WalkKit
import Derived.Below
import Derived.Lib.ItoaNum
import Derived.Lib.LaidTab
import Derived.Deep.Quiet
import Derived.OrdersHeld
set_option linter.unusedVariables false
set_option linter.unusedSimpArgs false
open Array renaming getD_eq_getD_getElem?->cR,getElem?_eq_getElem->gJ,getElem?_eq_none->cZ,getElem?_range->GG,getElem?_toList->cX,length_toList->cT,map->aHk,mapM_eq_mapM_toList->BI,range->aAK,toList_map->rH,toList_setIfInBounds->Ao
open Bool renaming and_eq_true->aJ,false_eq_true->dJ,not_eq_true'->cW,or_eq_true->j8
open ByteArray renaming empty->aC,size->aH,size_extract->pB,toList->aB
open Go.Addr renaming add_lit->fH
open Go.Addr.mk renaming injEq->sM
open Go.Builtin renaming len_->Dp
open Go.Instr renaming alloc->GH,box->aHl,build->GF,buildSlice->Mw,field->Nl,fieldAt->Hm,fill->qX,indexAt->CB,loadAt->lD,makeSlice->OP,slice->aAH,sliceAt->xG,sliceBounds->Ky,storeAt->xH,sureAddr->iT
open Go.IntKind renaming bits->mY,max->oJ,min->oI,signed->kO,wrap->bD
open Go.Op renaming bytesLess->bE,eqFields->Ba,equalIn->Dr,intArith->B7,intBits->JF,maxDepth->aAJ,stringOp->aAF,unary->Rp
open Go.Program renaming cellsOf->OO,fieldsOf->Mv
open Go.Result renaming andThen_ok->aW
open Go.Sem renaming run_bind->bO,run_map->aAI,run_pure->cM
open Go.Value renaming cells->mX,int->C9
open Go.Value.slice renaming injEq->j0
open Go.World renaming cell?->fQ,cell?_of_block->fB,setCell->nP,var?->Ro
open List renaming append_assoc->bS,append_nil->c6,cons_append->oC,drop_append->oD,drop_append_of_le_length->oK,drop_drop->mK,drop_left'->E3,drop_of_length_le->jZ,drop_set_of_lt->H3,drop_succ_cons->H4,drop_zero->iS,eq_nil_of_length_eq_zero->b5,ext_getElem?->u6,filter_cons->Cd,flatMap_cons->Bb,flatten_append->fK,flatten_cons->bK,flatten_eq_nil_iff->oE,flatten_nil->jG,getD_eq_getElem?_getD->bL,getElem?_append_left->bV,getElem?_append_right->cH,getElem?_drop->gL,getElem?_eq_getElem->bC,getElem?_eq_none->eV,getElem?_eq_some_iff->bH,getElem?_map->gZ,getElem?_of_mem->jF,getElem?_set_self->Dq,getElem?_take->eY,getElem?_toArray->pU,isEmpty_iff->lQ,length->aN,length_append->aO,length_cons->bA,length_drop->fD,length_take->cJ,map_append->gQ,map_cons->bP,map_nil->kM,mem_append->bU,mem_append_left->bQ,mem_append_right->bF,mem_cons->aR,mem_cons_of_mem->aM,mem_cons_self->aQ,mem_flatten->iH,mem_map->eE,mem_singleton->bI,nil_append->kU,nodup_append->iO,nodup_cons->j7,nodup_nil->fS,replicate->b6,replicate_succ->H5,take_add_one->gY,take_append->Cf,take_append_drop->eU,take_left->jY,take_left'->E2,take_length->gU,take_of_length_le->fR,take_set_of_le->H2,take_succ_cons->yV,take_take->GE,toArray->kL
open List.cons renaming injEq->dP
open Nat renaming add_assoc->dV,add_comm->Kz,add_lt_add_iff_right->CA,add_mul->dL,add_sub_cancel_left->kQ,add_zero->lE,beq->cG,ble->zC,blt->LA,eq_of_beq_eq_true->aX,le_max_left->ON,le_max_right->Mu,le_refl->aT,le_trans->cO,lt_irrefl->Sk,lt_of_lt_of_le->cK,lt_or_ge->eK,mul_le_mul_right->dA,one_mul->qY,sub_self->Dt,zero_add->cV,zero_le->bW
open Ne renaming symm->jL
open Option renaming getD->xX,map_some->sS,toList_some->tU
open Option.some renaming inj->pK,injEq->fF
open Prod renaming fst->hI
namespace Go.Am
inductive GK where
 | int (k:IntKind)
 | tab (k:IntKind) (zs:List Int)
 | ifc
def aP2:List (Nat×GK):=[(0,.int .i64),(1,.ifc),(2,.ifc),(5,.tab .u64 Lib.pow10Tab)]
def aM6:List (Nat×GK)->Nat
 | []=>0
 | p :: r=>Nat.max (p.1+1) (aM6 r)
def GN:Nat:=aM6 aP2
def vS (w:World) (g:Nat):GK->Prop
 | .int k=>∃ m,w.cell? ⟨g,0,none⟩=some (.int k m)
 | .tab k zs=>∃ t fz,w.heap[g]? = some (.cells (zs.map λz=>C9 k z).toArray t fz)
 | .ifc=>∃ t fz u v,w.heap[g]? = some (.cells #[.iface u v] t fz)
def J1 (w:World):List (Nat×GK)->Prop
 | []=>True
 | p :: r=>vS w p.1 p.2/\J1 w r
def CR (w:World):Prop:=J1 w aP2
theorem vS.lt {w:World} {g:Nat}:∀ {k:GK},vS w g k->g<w.heap.size
 | .int k,⟨m,hm⟩=>by
  rcases eK g w.heap.size with h | h
  ·exact h
  ·simp [fQ, cZ h] at hm
 | .tab k zs,⟨_,_,hm⟩=>by
  rcases eK g w.heap.size with h | h
  ·exact h
  ·rw [cZ h] at hm;cases hm
 | .ifc,⟨_,_,_,_,hm⟩=>by
  rcases eK g w.heap.size with h | h
  ·exact h
  ·rw [cZ h] at hm;cases hm
theorem vS.keep {w w':World} {g:Nat} (hb:w'.heap[g]? = w.heap[g]?):∀ {k:GK},vS w g k->vS w' g k
 | .int k,⟨m,hm⟩=>⟨m,by simp only [fQ] at hm ⊢;rw [hb];exact hm⟩
 | .tab k zs,⟨t,fz,hm⟩=>⟨t,fz,by rw [hb];exact hm⟩
 | .ifc,⟨t,fz,u,v,hm⟩=>⟨t,fz,u,v,by rw [hb];exact hm⟩
theorem J1.keep {w w':World}:∀ {l:List (Nat×GK)},J1 w l->(∀ b,b<aM6 l->b<w.heap.size->w'.heap[b]? = w.heap[b]?)->J1 w' l
 | [],_,_=>trivial
 | p :: r,h,hb=>by
  refine ⟨h.1.keep (hb _ ?_ h.1.lt),h.2.keep λb hb'=>hb b ?_⟩
  ·exact cK (Nat.lt_succ_self _) (ON _ _)
  ·exact cK hb' (Mu _ _)
theorem CR.keep {w w':World} (h:CR w) (hb:∀ b,b<GN->b<w.heap.size->w'.heap[b]? = w.heap[b]?):CR w':=J1.keep h hb
theorem J1.size {w:World}:∀ {l:List (Nat×GK)},J1 w l->aM6 l<=w.heap.size
 | [],_=>bW _
 | p :: r,h=>Nat.max_le.2 ⟨h.1.lt,h.2.size⟩
theorem CR.size {w:World} (h:CR w):GN<=w.heap.size:=J1.size h
theorem vS.tab {w:World} {P:Program} {g:Nat} {k:IntKind} {zs:List Int} {name:String} (hg:P.globalNamed name=some g) (h:vS w g (.tab k zs)):Lib.TabIs P w name k zs:=by
 obtain ⟨t,fz,h⟩:=h;unfold Lib.TabIs Ro;rw [hg];show (match w.heap[g]? with | some (.cells cs _ _)=>some cs | _=>none)=_;rw [h]
theorem vS.ofTab {w:World} {P:Program} {g:Nat} {k:IntKind} {zs:List Int} {name:String} (hg:P.globalNamed name=some g) (h:Lib.TabIs P w name k zs):vS w g (.tab k zs):=by
 unfold Lib.TabIs Ro at h;rw [hg] at h;have h:(match w.heap[g]? with | some (.cells cs _ _)=>some cs | _=>none)=some (zs.map λz=>C9 k z).toArray:=h;split at h
 ·rename_i cs t fz he;cases h;exact ⟨t,fz,he⟩
 ·cases h
structure E9 (w:World) (O:List Nat):Prop where
 inv:CR w
 size:GN<=w.heap.size
 out:∀ b∈O,GN<=b
end Go.Am
namespace Go.Am
open Go.RowKit (Below)
inductive Ty where
 | int (k:IntKind) | bool | fn | str | sl (e:Ty) | unit | cons (a b:Ty)
 deriving DecidableEq
@[reducible] def Ty.den:Ty->Type
 | .int _=>Int
 | .bool=>Bool
 | .fn=>Option Nat
 | .str=>ByteArray
 | .sl e=>List e.den
 | .unit=>Unit
 | .cons a b=>a.den×b.den
def Ty.dflt:(t:Ty)->t.den
 | .int _=>(0:Int)
 | .bool=>false
 | .fn=>(none:Option Nat)
 | .str=>aC
 | .sl _=>[]
 | .unit=>()
 | .cons a b=>(a.dflt,b.dflt)
def Ty.size:Ty->Nat
 | .unit=>0
 | .cons a b=>a.size+b.size
 | _=>1
def Ty.flat:Ty->Bool
 | .sl _=>false
 | .cons a b=>a.flat&&b.flat
 | _=>true
def fnV:Option Nat->Value
 | none => .nilFunc
 | some f => .func (.func f) #[] #[]
theorem O1 (f:Option Nat):(fnV f).oneCell'=true:=by cases f <;> rfl
def cC (k:IntKind) (n:Int):Prop:=k.min<=n/\n<=k.max
def Wf:(t:Ty)->t.den->Prop
 | .int k,n=>cC k n
 | .bool,_=>True
 | .fn,_=>True
 | .str,s=>s.size<=maxLen
 | .sl e,xs=>xs.length<=maxLen/\∀ x∈xs,Wf e x
 | .unit,_=>True
 | .cons a b,x=>Wf a x.1/\Wf b x.2
def lT (w : World) (G : Nat -> Prop) {α : Type} (R : α -> List Value -> Prop) (sz : Nat) (xs : List α) (v : Value) : Prop :=
  xs.length <= maxLen /\ ((∃ ad, v = .slice ad 0 0 /\ xs = []) \/
   ∃ b off cap, v = .slice (some ⟨b, off, none⟩) xs.length cap /\ xs.length <= cap /\ cap <= maxLen /\ G b /\
     ∀ i x, xs[i]? = some x -> ∃ cs, cs.length = sz /\ (∀ j c, cs[j]? = some c -> w.cell? ⟨b, off + i * sz + j, none⟩ = some c) /\ R x cs)
def dW (w:World) (G:Nat->Prop):(t:Ty)->t.den->List Value->Prop
 | .int k,n,cs=>cs=[.int k n]/\cC k n
 | .bool,b,cs=>cs=[.bool b]
 | .fn,f,cs=>cs=[fnV f]
 | .str,s,cs=>cs=[.string s]/\s.size<=maxLen
 | .sl e,xs,cs=>∃ v,cs=[v]/\lT w G (dW w G e) e.size xs v
 | .unit,_,cs=>cs=[]
 | .cons a b,x,cs=>∃ c1 c2,cs=c1++c2/\dW w G a x.1 c1/\dW w G b x.2 c2
def aHp (fz:Nat×Nat) (n:Nat):Prop:=∀ j,j<n->¬ (fz.1<=j/\j<fz.2)
def EQ (sz:Nat) (fz:Nat×Nat) (n:Nat):Prop:=aHp fz n/\(sz=1\/aHp fz (n+1))
def vK (w : World) {α : Type} (R : α -> List Value -> List Nat -> Prop) (sz : Nat) (xs : List α) (v : Value) (bs : List Nat) : Prop :=
  xs.length <= maxLen /\ ((∃ ad, v = .slice ad 0 0 /\ xs = [] /\ bs = []) \/
   ∃ (b off cap : Nat) (cur : Array Value) (ty : TypeId) (fz : Nat × Nat) (bss : List (List Nat)), v = .slice (some ⟨b, off, none⟩) xs.length cap /\ xs.length <= cap /\ cap <= maxLen /\ off + cap * sz <= cur.size /\
     w.heap[b]? = some (.cells cur ty fz) /\ EQ sz fz cur.size /\ bss.length = xs.length /\ bs = b :: bss.flatten /\
     ∀ i x bi, xs[i]? = some x -> bss[i]? = some bi -> ∃ cs, cs.length = sz /\ (∀ j c, cs[j]? = some c -> cur[off + i * sz + j]? = some c) /\ R x cs bi)
def gB (w:World):(t:Ty)->t.den->List Value->List Nat->Prop
 | .int k,n,cs,bs=>cs=[.int k n]/\cC k n/\bs=[]
 | .bool,b,cs,bs=>cs=[.bool b]/\bs=[]
 | .fn,f,cs,bs=>cs=[fnV f]/\bs=[]
 | .str,s,cs,bs=>cs=[.string s]/\s.size<=maxLen/\bs=[]
 | .sl e,xs,cs,bs=>∃ v,cs=[v]/\vK w (gB w e) e.size xs v bs
 | .unit,_,cs,bs=>cs=[]/\bs=[]
 | .cons a b,x,cs,bs=>∃ c1 c2 b1 b2,cs=c1++c2/\bs=b1++b2/\gB w a x.1 c1 b1/\gB w b x.2 c2 b2
theorem dW.length {w:World} {G:Nat->Prop}:∀ {t:Ty} {x:t.den} {cs:List Value},dW w G t x cs->cs.length=t.size
 | .int _,_,_,h=>by rw [h.1];rfl
 | .bool,_,_,h=>by rw [h];rfl
 | .fn,_,_,h=>by rw [h];rfl
 | .str,_,_,h=>by rw [h.1];rfl
 | .sl _,_,_,⟨_,h,_⟩=>by rw [h];rfl
 | .unit,_,_,h=>by rw [h];rfl
 | .cons _ _,_,_,⟨_,_,h,h1,h2⟩=>by rw [h,aO,h1.length,h2.length];rfl
theorem gB.length {w:World}:∀ {t:Ty} {x:t.den} {cs:List Value} {bs:List Nat},gB w t x cs bs->cs.length=t.size
 | .int _,_,_,_,h=>by rw [h.1];rfl
 | .bool,_,_,_,h=>by rw [h.1];rfl
 | .fn,_,_,_,h=>by rw [h.1];rfl
 | .str,_,_,_,h=>by rw [h.1];rfl
 | .sl _,_,_,_,⟨_,h,_⟩=>by rw [h];rfl
 | .unit,_,_,_,h=>by rw [h.1];rfl
 | .cons _ _,_,_,_,⟨_,_,_,_,h,_,h1,h2⟩=>by rw [h,aO,h1.length,h2.length];rfl
theorem Ui {w:World} {G:Nat->Prop} {e:Ty} {xs:List e.den} {v:Value} (ih:∀ x cs,dW w G e x cs->Wf e x) (h:lT w G (dW w G e) e.size xs v):Wf (.sl e) xs:=by
 refine ⟨h.1,λx hx => ?_⟩;rcases h.2 with ⟨_,_,rfl⟩ | ⟨b,off,cap,_,_,_,_,hr⟩
 ·cases hx
 ·obtain ⟨i,hi⟩:=jF hx;obtain ⟨cs,_,_,h⟩:=hr i x hi;exact ih x cs h
theorem dW.wf {w:World} {G:Nat->Prop}:∀ {t:Ty} {x:t.den} {cs:List Value},dW w G t x cs->Wf t x
 | .int _,_,_,h=>h.2
 | .bool,_,_,_=>trivial
 | .fn,_,_,_=>trivial
 | .str,_,_,h=>h.2
 | .sl _,_,_,⟨_,_,h⟩=>Ui (λ_ _=>dW.wf) h
 | .unit,_,_,_=>trivial
 | .cons _ _,_,_,⟨_,_,_,h1,h2⟩=>⟨h1.wf,h2.wf⟩
theorem X3 {w:World} {e:Ty} {xs:List e.den} {v:Value} {bs:List Nat} (ih:∀ x cs bs,gB w e x cs bs->Wf e x) (h:vK w (gB w e) e.size xs v bs):Wf (.sl e) xs:=by
 refine ⟨h.1,λx hx => ?_⟩;rcases h.2 with ⟨_,_,rfl,_⟩ | ⟨b,off,cap,cur,ty,fz,bss,_,_,_,_,_,_,hl,_,hr⟩
 ·cases hx
 ·obtain ⟨i,hi⟩:=jF hx;have hlt:i<bss.length:=by rw [hl];exact (bH.1 hi).1
  obtain ⟨cs,_,_,h⟩:=hr i x _ hi (bC hlt);exact ih x cs _ h
theorem gB.wf {w:World}:∀ {t:Ty} {x:t.den} {cs:List Value} {bs:List Nat},gB w t x cs bs->Wf t x
 | .int _,_,_,_,h=>h.2.1
 | .bool,_,_,_,_=>trivial
 | .fn,_,_,_,_=>trivial
 | .str,_,_,_,h=>h.2.1
 | .sl _,_,_,_,⟨_,_,h⟩=>X3 (λ_ _ _=>gB.wf) h
 | .unit,_,_,_,_=>trivial
 | .cons _ _,_,_,_,⟨_,_,_,_,_,_,h1,h2⟩=>⟨h1.wf,h2.wf⟩
theorem lT.keep {w w':World} {G G':Nat->Prop} {α:Type} {R R':α->List Value->Prop} {sz:Nat} {xs:List α} {v:Value}
  (hR:∀ x cs,R x cs->R' x cs) (hG:∀ b,G b->G' b) (hw:∀ b,G b->w'.heap[b]? = w.heap[b]?) (h:lT w G R sz xs v):lT w' G' R' sz xs v:=by
 refine ⟨h.1,?_⟩;rcases h.2 with h | ⟨b,off,cap,h1,h2,h3,h4,h5⟩
 ·exact .inl h
 ·refine .inr ⟨b,off,cap,h1,h2,h3,hG b h4,λi x hx => ?_⟩;obtain ⟨cs,hl,hc,hr⟩:=h5 i x hx;exact ⟨cs,hl,λj c hj=>by rw [fB (w:=w) (hw b h4)];exact hc j c hj,hR _ _ hr⟩
theorem dW.keep {w w':World} {G G':Nat->Prop} (hG:∀ b,G b->G' b) (hw:∀ b,G b->w'.heap[b]? = w.heap[b]?):∀ {t:Ty} {x:t.den} {cs:List Value},dW w G t x cs->dW w' G' t x cs
 | .int _,_,_,h=>h
 | .bool,_,_,h=>h
 | .fn,_,_,h=>h
 | .str,_,_,h=>h
 | .sl _,_,_,⟨v,h,h2⟩=>⟨v,h,h2.keep (λ_ _=>dW.keep hG hw) hG hw⟩
 | .unit,_,_,h=>h
 | .cons _ _,_,_,⟨c1,c2,h,h1,h2⟩=>⟨c1,c2,h,h1.keep hG hw,h2.keep hG hw⟩
theorem oO {bss:List (List Nat)} {i:Nat} {bi:List Nat} (h:bss[i]? = some bi):∀ b∈bi,b∈bss.flatten :=
 λb hb=>iH.2 ⟨bi,List.mem_of_getElem? h,hb⟩
theorem vK.keep {w w':World} {α:Type} {R R':α->List Value->List Nat->Prop} {sz:Nat} {xs:List α} {v:Value} {bs:List Nat}
  (hR:∀ x cs bi,(∀ b∈bi,b∈bs)->R x cs bi->R' x cs bi) (hw:∀ b∈bs,w'.heap[b]? = w.heap[b]?) (h:vK w R sz xs v bs):vK w' R' sz xs v bs:=by
 refine ⟨h.1,?_⟩;rcases h.2 with h | ⟨b,off,cap,cur,ty,fz,bss,h1,h2,h3,h4,h5,h6,h7,h8,h9⟩
 ·exact .inl h
 ·refine .inr ⟨b,off,cap,cur,ty,fz,bss,h1,h2,h3,h4,by rw [hw b (by rw [h8];exact aQ ..)];exact h5,h6,h7,h8,λi x bi hx hb => ?_⟩;obtain ⟨cs,hl,hc,hr⟩:=h9 i x bi hx hb;exact ⟨cs,hl,hc,hR _ _ _ (λb hb'=>by rw [h8];exact aM _ (oO hb b hb')) hr⟩
theorem gB.keep {w w':World}:∀ {t:Ty} {x:t.den} {cs:List Value} {bs:List Nat},(∀ b∈bs,w'.heap[b]? = w.heap[b]?)->gB w t x cs bs->gB w' t x cs bs
 | .int _,_,_,_,_,h=>h
 | .bool,_,_,_,_,h=>h
 | .fn,_,_,_,_,h=>h
 | .str,_,_,_,_,h=>h
 | .sl _,_,_,_,hw,⟨v,h,h2⟩=>⟨v,h,h2.keep (λ_ _ _ hs=>gB.keep (λb hb=>hw b (hs b hb))) hw⟩
 | .unit,_,_,_,_,h=>h
 | .cons _ _,_,_,_,hw,⟨c1,c2,b1,b2,h,hb,h1,h2⟩ =>
  ⟨c1,c2,b1,b2,h,hb,h1.keep (λb hb'=>hw b (by rw [hb];exact bQ _ hb')),h2.keep (λb hb'=>hw b (by rw [hb];exact bF _ hb'))⟩
theorem dW.flat {w w':World} {G G':Nat->Prop}:∀ {t:Ty} {x:t.den} {cs:List Value},t.flat=true->dW w G t x cs->dW w' G' t x cs
 | .int _,_,_,_,h=>h
 | .bool,_,_,_,h=>h
 | .fn,_,_,_,h=>h
 | .str,_,_,_,h=>h
 | .unit,_,_,_,h=>h
 | .cons _ _,_,_,hf,⟨c1,c2,h,h1,h2⟩=>by
  simp only [Ty.flat,aJ] at hf;exact ⟨c1,c2,h,h1.flat hf.1,h2.flat hf.2⟩
theorem gB.flat {w:World} {G:Nat->Prop} {w':World}:∀ {t:Ty} {x:t.den} {cs:List Value} {bs:List Nat},t.flat=true->gB w t x cs bs->dW w' G t x cs/\bs=[]
 | .int _,_,_,_,_,h=>⟨⟨h.1,h.2.1⟩,h.2.2⟩
 | .bool,_,_,_,_,h=>h
 | .fn,_,_,_,_,h=>h
 | .str,_,_,_,_,h=>⟨⟨h.1,h.2.1⟩,h.2.2⟩
 | .unit,_,_,_,_,h=>h
 | .cons _ _,_,_,_,hf,⟨c1,c2,b1,b2,h,hb,h1,h2⟩=>by
  simp only [Ty.flat,aJ] at hf;obtain ⟨a1,e1⟩:=h1.flat (w':=w') (G:=G) hf.1;obtain ⟨a2,e2⟩:=h2.flat (w':=w') (G:=G) hf.2;exact ⟨⟨c1,c2,h,a1,a2⟩,by rw [hb,e1,e2];rfl⟩
theorem dW.own {w w':World} {G:Nat->Prop}:∀ {t:Ty} {x:t.den} {cs:List Value},t.flat=true->dW w G t x cs->gB w' t x cs []
 | .int _,_,_,_,h=>⟨h.1,h.2,rfl⟩
 | .bool,_,_,_,h=>⟨h,rfl⟩
 | .fn,_,_,_,h=>⟨h,rfl⟩
 | .str,_,_,_,h=>⟨h.1,h.2,rfl⟩
 | .unit,_,_,_,h=>⟨h,rfl⟩
 | .cons _ _,_,_,hf,⟨c1,c2,h,h1,h2⟩=>by
  simp only [Ty.flat,aJ] at hf;exact ⟨c1,c2,[],[],h,rfl,h1.own hf.1,h2.own hf.2⟩
theorem vK.read {w:World} {G:Nat->Prop} {α:Type} {R:α->List Value->List Nat->Prop} {R':α->List Value->Prop} {sz:Nat} {xs:List α} {v:Value} {bs:List Nat}
  (hR:∀ x cs bi,(∀ b∈bi,b∈bs)->R x cs bi->R' x cs) (hG:∀ b∈bs,G b) (h:vK w R sz xs v bs):lT w G R' sz xs v:=by
 refine ⟨h.1,?_⟩;rcases h.2 with ⟨ad,h1,h2,_⟩ | ⟨b,off,cap,cur,ty,fz,bss,h1,h2,h3,h4,h5,h6,h7,h8,h9⟩
 ·exact .inl ⟨ad,h1,h2⟩
 ·refine .inr ⟨b,off,cap,h1,h2,h3,hG b (by rw [h8];exact aQ ..),λi x hx => ?_⟩;have hlt:i<bss.length:=by rw [h7];exact (bH.1 hx).1
  obtain ⟨cs,hl,hc,hr⟩:=h9 i x _ hx (bC hlt);refine ⟨cs,hl,λj c hj => ?_,hR _ _ _ (λb hb'=>by rw [h8];exact aM _ (oO (bC hlt) b hb')) hr⟩;simp only [fQ, h5];exact hc j c hj
theorem gB.read {w:World} {G:Nat->Prop}:∀ {t:Ty} {x:t.den} {cs:List Value} {bs:List Nat},(∀ b∈bs,G b)->gB w t x cs bs->dW w G t x cs
 | .int _,_,_,_,_,h=>⟨h.1,h.2.1⟩
 | .bool,_,_,_,_,h=>h.1
 | .fn,_,_,_,_,h=>h.1
 | .str,_,_,_,_,h=>⟨h.1,h.2.1⟩
 | .sl _,_,_,_,hG,⟨v,h,h2⟩=>⟨v,h,h2.read (λ_ _ _ hs=>gB.read (λb hb=>hG b (hs b hb))) hG⟩
 | .unit,_,_,_,_,h=>h.1
 | .cons _ _,_,_,_,hG,⟨c1,c2,b1,b2,h,hb,h1,h2⟩ =>
  ⟨c1,c2,h,h1.read (λb hb'=>hG b (by rw [hb];exact bQ _ hb')),h2.read (λb hb'=>hG b (by rw [hb];exact bF _ hb'))⟩
theorem gB.lt {w:World}:∀ {t:Ty} {x:t.den} {cs:List Value} {bs:List Nat},gB w t x cs bs->∀ b∈bs,b<w.heap.size
 | .int _,_,_,_,h,b,hb=>by rw [h.2.2] at hb;cases hb
 | .bool,_,_,_,h,b,hb=>by rw [h.2] at hb;cases hb
 | .fn,_,_,_,h,b,hb=>by rw [h.2] at hb;cases hb
 | .str,_,_,_,h,b,hb=>by rw [h.2.2] at hb;cases hb
 | .unit,_,_,_,h,b,hb=>by rw [h.2] at hb;cases hb
 | .sl e,xs,_,bs,⟨v,_,h⟩,b,hb=>by
  rcases h.2 with ⟨_,_,_,h⟩ | ⟨b',off,cap,cur,ty,fz,bss,h1,h2,h3,h4,h5,h6,h7,h8,h9⟩
  ·rw [h] at hb;cases hb
  ·rw [h8] at hb;rcases aR.1 hb with rfl | hb
   ·rcases eK b w.heap.size with hlt | hge
    ·exact hlt
    ·rw [cZ hge] at h5;cases h5
   ·obtain ⟨bi,hm,hbi⟩:=iH.1 hb;obtain ⟨i,hi⟩:=jF hm;have hlt:i<xs.length:=by rw [<- h7];exact (bH.1 hi).1
    obtain ⟨cs,_,_,hr⟩:=h9 i _ bi (bC hlt) hi;exact gB.lt hr b hbi
 | .cons _ _,_,_,_,⟨c1,c2,b1,b2,_,hb',h1,h2⟩,b,hb=>by
  rw [hb'] at hb;rcases bU.1 hb with hb | hb
  ·exact h1.lt b hb
  ·exact h2.lt b hb
end Go.Am
namespace Go.Am
structure aY where
 t:Ty
 x:t.den
inductive fT where
 | val (v:Value)
 | sl (t:Ty) (xs:List t.den)
 | osl (r:Nat) (rg:Option (Nat×Nat))
 | junk
inductive dD where
 | val (v:Value)
 | sl (t:Ty) (xs:List t.den)
 | ptr (t:Ty) (x:t.den)
 | st (t:Ty) (x:t.den)
 | osl (r:Nat) (rg:Option (Nat×Nat))
 | optr (r i:Nat) (p:List Nat)
 | rcd (t:Ty) (ls:List fT)
 | bptr (r o:Nat) (t:Ty)
 | junk
inductive PV where
 | a (x:dD)
 | tup (xs:List dD)
 | fn (f:FuncId) (caps:List dD)
structure hY where
 t:Ty
 xs:List t.den
 bor:Bool:=false
 ls:Option (List fT):=none
 sm:Option Bool:=none
structure BD where
 t:Ty
 xs:List t.den
abbrev eD:=List (Nat×PV)
abbrev bG:=List (Option hY)
def eD.get:eD->Nat->PV
 | [],_ => .a .junk
 | (j,p) :: r,i=>cond (cG j i) p (eD.get r i)
def eD.set (E:eD) (i:Nat) (p:PV):eD:=(i,p) :: E.filter λq => !(cG q.1 i)
def b7:bG->Nat->Option hY
 | [],_=>none
 | a :: _,0=>a
 | _ :: l,n+1=>b7 l n
def iE:bG->Nat->Option hY->bG
 | [],_,_=>[]
 | _ :: l,0,a=>a :: l
 | b :: l,n+1,a=>b :: iE l n a
theorem vT {i j:Nat} (h:¬ i=j):cG i j=false:=Bool.eq_false_iff.2 λhb=>h (aX hb)
theorem eD.get_set (E:eD) (i j:Nat) (p:PV):(E.set i p).get j=if i=j then p else E.get j:=by
 unfold eD.set;simp only [eD.get];by_cases h:i=j
 ·subst h;simp
 ·rw [if_neg h];have hb:cG i j=false:=vT h;rw [hb,cond_false]
  induction E with
  | nil=>rfl
  | cons q r ih =>
   obtain ⟨k,u⟩:=q;by_cases hk:k=i
   ·subst hk;have:cG k k=true:=by simp
    simp only [Cd,this,Bool.not_true,dJ,if_false,eD.get,hb,cond_false];exact ih
   ·have:cG k i=false:=vT hk;simp only [Cd,this,Bool.not_false,if_true,eD.get];rw [ih]
theorem TG (L:bG) (r s:Nat) (a:Option hY):b7 (iE L r a) s=if r=s/\r<L.length then a else b7 L s:=by
 induction L generalizing r s with
 | nil=>simp [iE,b7]
 | cons b l ih =>
  cases r with
  | zero=>cases s with
   | zero=>simp [iE,b7]
   | succ s=>simp [iE,b7]
  | succ r=>cases s with
   | zero=>simp [iE,b7]
   | succ s=>simp only [iE,b7,ih,bA,CA,Nat.add_right_cancel_iff]
theorem uN {L:bG} {r:Nat} {A:hY} (h:b7 L r=some A):r<L.length:=by
 induction L generalizing r with
 | nil=>cases h
 | cons b l ih=>cases r with
  | zero=>simp
  | succ r=>simp only [b7] at h;have:=ih h;simp;omega
theorem lI (L M:bG) (r:Nat):b7 (L++M) r=if r<L.length then b7 L r else b7 M (r - L.length):=by
 induction L generalizing r with
 | nil=>simp
 | cons b l ih=>cases r with
  | zero=>simp [b7]
  | succ r=>simp only [oC,b7,ih,bA,CA,Nat.add_sub_add_right]
structure cE (O:List Nat) (w w':World):Prop where
 os:w'.os=w.os
 tape:w'.tape=w.tape
 output:w'.output=w.output
 size:w.heap.size<=w'.heap.size
 block:∀ k,k<w.heap.size->k ∉ O->w'.heap[k]? = w.heap[k]?
theorem cE.refl (O:List Nat) (w:World):cE O w w:=⟨rfl,rfl,rfl,aT _,λ_ _ _=>rfl⟩
theorem cE.trans {O:List Nat} {a b c:World} (h:cE O a b) (k:cE O b c):cE O a c :=
 ⟨k.os.trans h.os,k.tape.trans h.tape,k.output.trans h.output,cO h.size k.size,λi hi ho=>(k.block i (cK hi h.size) ho).trans (h.block i hi ho)⟩
theorem cE.mono {O O':List Nat} {a b:World} (h:cE O a b) (hO:∀ k∈O,k∈O'):cE O' a b :=
 ⟨h.os,h.tape,h.output,h.size,λi hi ho=>h.block i hi λhk=>ho (hO i hk)⟩
theorem cE.of_nil {O:List Nat} {a b:World} (h:cE [] a b):cE O a b:=h.mono (λ_ h=>by cases h)
theorem cE.drew {O:List Nat} {a w:World} (h:cE O a w):cE O a w.drew:=⟨h.os,h.tape,h.output,h.size,h.block⟩
theorem cE.below {a b:World} (h:cE [] a b):Go.RowKit.Below a.heap.size a b:=⟨h.os,h.tape,h.output,h.size,λk hk=>h.block k hk (by simp)⟩
theorem cE.of_below {a b:World} (h:Go.RowKit.Below a.heap.size a b):cE [] a b:=⟨h.os,h.tape,h.output,h.size,λk hk _=>h.block k hk⟩
theorem cE.alloc {O:List Nat} {a w:World} (h:cE O a w) (o:Obj):cE O a (w.alloc o) :=
 h.trans ⟨rfl,rfl,rfl,by simp,λk hk _=>Go.RowKit.Below.heap_alloc _ _ _ hk⟩
def Good (w0:World) (O:List Nat) (b:Nat):Prop:=b<w0.heap.size/\b ∉ O
theorem cE.good {O:List Nat} {w0 w:World} (h:cE O w0 w):∀ b,Good w0 O b->w.heap[b]? = w0.heap[b]? := λb hb=>h.block b hb.1 hb.2
def Hy:Value->Prop
 | .int k n=>cC k n
 | .string s=>s.size<=maxLen
 | .slice none n c=>n=0/\c=0
 | _=>True
theorem aAY (f:Option Nat):Hy (fnV f):=by cases f <;> trivial
def aFM:(t:Ty)->t.den->Nat->Option aY
 | .cons a _,x,0=>some ⟨a,x.1⟩
 | .cons _ b,x,n+1=>aFM b x.2 n
 | _,_,_=>none
def J2:List Nat->aY->Option aY
 | [],d=>some d
 | f :: p,d=>match aFM d.t d.x f with
  | some d'=>J2 p d'
  | none=>none
def kI:Ty->Nat->Option (Nat×Ty)
 | .cons a _,0=>some (0,a)
 | .cons a b,n+1=>match kI b n with
  | some (o,t)=>some (a.size+o,t)
  | none=>none
 | _,_=>none
def jT:List Nat->Ty->Option (Nat×Ty)
 | [],t=>some (0,t)
 | f :: p,t=>match kI t f with
  | some (o,t')=>match jT p t' with
   | some (o',t'')=>some (o+o',t'')
   | none=>none
  | none=>none
def SO:(t:Ty)->t.den->List Nat->aY->Option t.den
 | t,_,[],d=>if h:d.t=t then some (h ▸ d.x) else none
 | .cons a b,x,0 :: p,d=>match SO a x.1 p d with
  | some y=>some (y,x.2)
  | none=>none
 | .cons a b,x,(n+1) :: p,d=>match SO b x.2 (n :: p) d with
  | some y=>some (x.1,y)
  | none=>none
 | _,_,_,_=>none
def iG:(t:Ty)->t.den->dD
 | .int k,n => .val (.int k n)
 | .bool,b => .val (.bool b)
 | .fn,f => .val (fnV f)
 | .str,s => .val (.string s)
 | .sl e,xs => .sl e xs
 | .unit,x => .st .unit x
 | .cons a b,x => .st (.cons a b) x
def aY.atom (d:aY):dD:=iG d.t d.x
def uM:Option (Nat×Nat)->Nat
 | some (lo,_)=>lo
 | none=>0
def Cx (n:Nat):Option (Nat×Nat)->Nat
 | some (_,hi)=>hi
 | none=>n
def X4 (sz n:Nat) (V:Value) (lo hi:Nat) (v:Value):Prop :=
 lo<=hi/\hi<=n/\((∃ ad ad',V = .slice ad 0 0/\v = .slice ad' 0 0/\n=0/\ad'=ad) \/
  ∃ b off m cap o c,V = .slice (some ⟨b,off,none⟩) m cap/\v = .slice (some ⟨b,o,none⟩) (hi - lo) c/\hi - lo<=c/\((o=off+lo*sz/\lo+c<=cap)\/(c=0/\o<=off+cap*sz)))
def aP3 (t:Ty) (n:Nat) (V:Value) (i:Nat) (p:List Nat) (v:Value):Prop :=
 i<n/\∃ b off m cap po t',V = .slice (some ⟨b,off,none⟩) m cap/\jT p t=some (po,t')/\v = .pointer (some ⟨b,off+i*t.size+po,none⟩)
def kK (w:World) (b off:Nat) (cs:List Value):Prop:=∀ j c,cs[j]? = some c->w.cell? ⟨b,off+j,none⟩=some c
def Ej (w:World) (G:Nat->Prop) (t:Ty) (x:t.den) (v:Value):Prop :=
 ∃ b off cs,v = .pointer (some ⟨b,off,none⟩)/\G b/\kK w b off cs/\dW w G t x cs
def rS (w:World) (G:Nat->Prop):dD->Value->Prop
 | .val u,v=>v=u/\Hy u
 | .sl t xs,v=>lT w G (dW w G t) t.size xs v
 | .ptr t x,v=>Ej w G t x v
 | .st t x,v=>∃ cs,v = .agg cs.toArray/\dW w G t x cs
 | .junk,_=>True
 | _,_=>False
def Ld (L:bG) (V:Nat->Value) (r:Nat) (rg:Option (Nat×Nat)) (v:Value):Prop :=
 ∃ A,b7 L r=some A/\(rg=none->v=V r)/\X4 A.t.size A.xs.length (V r) (uM rg) (Cx A.xs.length rg) v
def Oi (w0:World) (G:Nat->Prop) (L:bG) (V:Nat->Value):fT->Value->Prop
 | .val u,v=>v=u/\Hy u/\u.oneCell'=true
 | .sl t xs,v=>lT w0 G (dW w0 G t) t.size xs v
 | .osl r rg,v=>Ld L V r rg v
 | .junk,v=>v.oneCell'=true
def gV (w0:World) (G:Nat->Prop) (L:bG) (V:Nat->Value):List fT->List Value->Prop
 | [],vs=>vs=[]
 | x :: xs,vs=>∃ v r,vs=v :: r/\Oi w0 G L V x v/\gV w0 G L V xs r
def kZ (w0:World) (G:Nat->Prop) (L:bG) (V:Nat->Value):dD->Value->Prop
 | .osl r rg,v=>Ld L V r rg v
 | .optr r i p,v=>∃ A,b7 L r=some A/\aP3 A.t A.xs.length (V r) i p v
 | .rcd t ls,v=>∃ cs,v = .agg cs.toArray/\ls.length=t.size/\gV w0 G L V ls cs
 | .bptr r o t,v=>∃ A ls b off,b7 L r=some A/\A.ls=some ls/\V r = .slice (some ⟨b,off,none⟩) 0 1/\v = .pointer (some ⟨b,off+o,none⟩)/\o+t.size<=A.t.size
 | x,v=>rS w0 G x v
def rQ (w0:World) (G:Nat->Prop) (L:bG) (V:Nat->Value):List dD->List Value->Prop
 | [],vs=>vs=[]
 | x :: xs,vs=>∃ v r,vs=v :: r/\kZ w0 G L V x v/\rQ w0 G L V xs r
def kH (w0:World) (G:Nat->Prop) (L:bG) (V:Nat->Value):PV->Value->Prop
 | .a x,v=>kZ w0 G L V x v
 | .tup xs,v=>∃ vs,v = .tuple vs.toArray/\rQ w0 G L V xs vs
 | .fn f caps,v=>∃ vs,v = .func (.func f) #[] vs.toArray/\rQ w0 G L V caps vs
def lO (w0:World) (G:Nat->Prop) (w:World) (t:Ty) (bor:Bool) (x:t.den) (cs:List Value) (bi:List Nat):Prop :=
 match bor with
 | true=>dW w0 G t x cs/\bi=[]
 | false=>gB w t x cs bi
def fW (w0:World) (G:Nat->Prop) (w:World) (A:hY) (v:Value) (bs:List Nat):Prop:=vK w (lO w0 G w A.t A.bor) A.t.size A.xs v bs
theorem TH {w0 w w1 w':World} {G G':Nat->Prop} {t:Ty} {bor:Bool} {x:t.den} {cs:List Value} {bi:List Nat} (hG:∀ b,G b->G' b) (h0:∀ b,G b->w1.heap[b]? = w0.heap[b]?) (hw:∀ b∈bi,w'.heap[b]? = w.heap[b]?) (h:lO w0 G w t bor x cs bi):lO w1 G' w' t bor x cs bi:=by
 revert h;unfold lO;cases bor with
 | true=>exact λh=>⟨h.1.keep hG h0,h.2⟩
 | false=>exact λh=>gB.keep hw h
theorem fW.keepG {w0 w w1 w':World} {G G':Nat->Prop} {A:hY} {v:Value} {bs:List Nat} (hG:∀ b,G b->G' b) (h0:∀ b,G b->w1.heap[b]? = w0.heap[b]?) (hw:∀ b∈bs,w'.heap[b]? = w.heap[b]?) (h:fW w0 G w A v bs):fW w1 G' w' A v bs :=
 vK.keep (λx cs bi hs hr=>TH hG h0 (λb hb=>hw b (hs b hb)) hr) hw h
theorem fW.keep {w0 w w':World} {G:Nat->Prop} {A:hY} {v:Value} {bs:List Nat} (hw:∀ b∈bs,w'.heap[b]? = w.heap[b]?) (h:fW w0 G w A v bs):fW w0 G w' A v bs :=
 h.keepG (λ_ h=>h) (λ_ _=>rfl) hw
theorem fW.lt {w0 w:World} {G:Nat->Prop} {A:hY} {v:Value} {bs:List Nat} (h:fW w0 G w A v bs):∀ b∈bs,b<w.heap.size:=by
 intro b hb;rcases h.2 with ⟨_,_,_,h⟩ | ⟨b',off,cap,cur,ty,fz,bss,h1,h2,h3,h4,h5,h6,h7,h8,h9⟩
 ·rw [h] at hb;cases hb
 ·rw [h8] at hb;rcases aR.1 hb with rfl | hb
  ·rcases eK b w.heap.size with hlt | hge
   ·exact hlt
   ·rw [cZ hge] at h5;cases h5
  ·obtain ⟨bi,hm,hbi⟩:=iH.1 hb;obtain ⟨i,hi⟩:=jF hm;have hlt:i<A.xs.length:=by rw [<- h7];exact (bH.1 hi).1
   obtain ⟨cs,_,_,hr⟩:=h9 i _ bi (bC hlt) hi;unfold lO at hr;cases hbor:A.bor with
   | true=>rw [hbor] at hr;rw [hr.2] at hbi;cases hbi
   | false=>rw [hbor] at hr;exact hr.lt b hbi
theorem fW.len {w0 w:World} {G:Nat->Prop} {A:hY} {v:Value} {bs:List Nat} (h:fW w0 G w A v bs):A.xs.length<=maxLen:=h.1
theorem fW.wf {w0 w:World} {G:Nat->Prop} {A:hY} {v:Value} {bs:List Nat} (h:fW w0 G w A v bs):Wf (.sl A.t) A.xs:=by
 refine ⟨h.1,λx hx => ?_⟩;rcases h.2 with ⟨_,_,h,_⟩ | ⟨b,off,cap,cur,ty,fz,bss,_,_,_,_,_,_,hl,_,hr⟩
 ·rw [h] at hx;cases hx
 ·obtain ⟨i,hi⟩:=jF hx;have hlt:i<bss.length:=by rw [hl];exact (bH.1 hi).1
  obtain ⟨cs,_,_,h⟩:=hr i x _ hi (bC hlt);unfold lO at h;cases hbor:A.bor with
  | true=>rw [hbor] at h;exact h.1.wf
  | false=>rw [hbor] at h;exact h.wf
theorem fW.own {w0 w:World} {G:Nat->Prop} {t:Ty} {xs:List t.den} {v:Value} {bs:List Nat} {ls:Option (List fT)} {sm:Option Bool}:fW w0 G w ⟨t,xs,false,ls,sm⟩ v bs↔gB w (.sl t) xs [v] bs :=
 ⟨λh=>⟨v,rfl,h⟩,λ⟨v',hv,h⟩=>by cases hv;exact h⟩
def Bh (w0:World) (G:Nat->Prop) (w:World) (L:bG) (V:Nat->Value) (t:Ty) (ls:List fT) (v:Value):Prop :=
 ∃ b off cs,v = .slice (some ⟨b,off,none⟩) 0 1/\cs.length=t.size/\ls.length=t.size/\kK w b off cs/\gV w0 G L V ls cs
structure jK where
 w0:World
 O:List Nat
 G0:Nat->Prop
 Ga:Nat->Prop
def Out (K:jK) (G:Nat->Prop) (b:Nat):Prop:=¬ Good K.w0 K.O b/\¬ G b
structure bT (n:Nat) (K:jK) (w0:World) (G:Nat->Prop) (w:World) (a:Act) (E:eD) (L:bG) (V:Nat->Value) (own:Nat->List Nat):Prop where
 glob:E9 K.w0 K.O
 kept:cE K.O K.w0 w
 size:a.tmps.size=n
 defers:a.defers=[]
 glt:∀ b,G b->b<w.heap.size
 gref:∀ b,G b->w.heap[b]? = w0.heap[b]?
 gsub:∀ b,K.G0 b->G b
 gold:∀ b,K.G0 b->Good K.w0 K.O b
 gup:∀ b,G b->K.Ga b\/¬ Good K.w0 K.O b
 heap:∀ r A,b7 L r=some A->fW w0 G w A (V r) (own r)
 good:∀ r A,b7 L r=some A->∀ b∈own r,Out K G b
 nodup:∀ r A,b7 L r=some A->(own r).Nodup
 apart:∀ r s A B,b7 L r=some A->b7 L s=some B->r≠s->∀ b∈own r,b ∉ own s
 boxs:∀ r A ls,b7 L r=some A->A.ls=some ls->Bh w0 G w L V A.t ls (V r)
 small:∀ r A q,b7 L r=some A->A.sm=some q->(∃ b off,V r = .slice (some ⟨b,off,none⟩) 1 1)/\(q=true->A.bor=true/\fW w0 K.G0 w A (V r) (own r))
 env:∀ i,kH w0 G L V (E.get i) (a.tmps.getD i undef)
section
variable {n:Nat} {K:jK} {G:Nat->Prop} {w0 w w':World} {a:Act} {E:eD} {L:bG} {V:Nat->Value} {own:Nat->List Nat}
theorem kK.keepB {w w':World} {b off:Nat} {cs:List Value} (hb:w'.heap[b]? = w.heap[b]?) (h:kK w b off cs):kK w' b off cs :=
 λj c hj=>by rw [fB (w:=w) hb];exact h j c hj
theorem fW.block {A:hY} {v:Value} {bs:List Nat} (h:fW w0 G w A v bs) {b off m cap:Nat} (hv:v = .slice (some ⟨b,off,none⟩) m cap) (hc:1<=cap):b∈bs:=by
 rcases h.2 with ⟨_,h1,_,_⟩ | ⟨b',off',cap',cur,ty,fz,bss,h1,h2,h3,h4,h5,h6,h7,h8,h9⟩
 ·rw [h1] at hv;cases hv;omega
 ·rw [h1] at hv;cases hv;rw [h8];exact aQ ..
theorem Bh.keepB {t:Ty} {ls:List fT} {v:Value} (h:Bh w0 G w L V t ls v) (hw:∀ b off,v = .slice (some ⟨b,off,none⟩) 0 1->w'.heap[b]? = w.heap[b]?):Bh w0 G w' L V t ls v:=by
 obtain ⟨b,off,cs,h1,h3,h4,h5,h6⟩:=h;exact ⟨b,off,cs,h1,h3,h4,h5.keepB (hw b off h1),h6⟩
theorem bT.own_lt (hR:bT n K w0 G w a E L V own) {r:Nat} {A:hY} (h:b7 L r=some A):∀ b∈own r,b<w.heap.size:=(hR.heap r A h).lt
theorem bT.ext (h:bT n K w0 G w a E L V own) (k:cE [] w w'):bT n K w0 G w' a E L V own where
 glob:=h.glob
 kept:=h.kept.trans k.of_nil
 size:=h.size
 defers:=h.defers
 glt:=λb hb=>cK (h.glt b hb) k.size
 gref:=λb hb=>(k.block b (h.glt b hb) (by simp)).trans (h.gref b hb)
 gsub:=h.gsub
 gold:=h.gold
 gup:=h.gup
 heap:=λr A hr=>(h.heap r A hr).keep λb hb=>k.block b (h.own_lt hr b hb) (by simp)
 good:=h.good
 nodup:=h.nodup
 apart:=h.apart
 boxs:=λr A ls hr hl=>(h.boxs r A ls hr hl).keepB λb off hv=>k.block b (h.own_lt hr b ((h.heap r A hr).block hv (aT _))) (by simp)
 small:=λr A q hr hs=>⟨(h.small r A q hr hs).1,λe=>⟨((h.small r A q hr hs).2 e).1,((h.small r A q hr hs).2 e).2.keep λb hb=>k.block b (h.own_lt hr b hb) (by simp)⟩⟩
 env:=h.env
theorem bT.put (h:bT n K w0 G w a E L V own) {d:Nat} {p:PV} {v:Value} (hd:d<n) (hv:kH w0 G L V p v):bT n K w0 G w (a.put (some d) v) (E.set d p) L V own where
 glob:=h.glob
 kept:=h.kept
 size:=by simp [Act.put,h.size]
 defers:=h.defers
 glt:=h.glt
 gref:=h.gref
 gsub:=h.gsub
 gold:=h.gold
 gup:=h.gup
 heap:=h.heap
 good:=h.good
 nodup:=h.nodup
 apart:=h.apart
 boxs:=h.boxs
 small:=h.small
 env:=λi=>by
  rw [eD.get_set];simp only [Act.put];by_cases hi:d=i
  ·subst hi;have hs:d<a.tmps.size:=by rw [h.size];exact hd
   simpa [cR, hs] using hv
  ·rw [if_neg hi];have:=h.env i;simpa [cR, Array.getElem?_setIfInBounds_ne hi] using this
theorem bT.ginv (h:bT n K w0 G w a E L V own):CR w :=
 h.glob.inv.keep λb hb hs=>h.kept.block b hs λho=>by have:=h.glob.out b ho;omega
theorem bT.gok (h:bT n K w0 G w a E L V own) {w':World} (k:cE [] w w') {O':List Nat} (hO:∀ b∈O',Out K G b):E9 w' O' where
 inv:=(h.ext k).ginv
 size:=cO h.glob.size (cO h.kept.size k.size)
 out:=λb hb=>by
  have h1:=(hO b hb).1;rcases eK b K.w0.heap.size with hlt | hge
  ·by_cases ho:b∈K.O
   ·exact h.glob.out b ho
   ·exact absurd ⟨hlt,ho⟩ h1
  ·exact cO h.glob.size hge
theorem bT.out_new (h:bT n K w0 G w a E L V own) {b:Nat} (hb:w.heap.size<=b):Out K G b :=
 ⟨λhg=>by have:=hg.1;have:=h.kept.size;omega,λhg=>by have:=h.glt b hg;omega⟩
end
inductive AT where
 | v (t:Ty)
 | p (t:Ty)
 | own (t:Ty)
 | pb (t:Ty)
 | po (t:Ty)
 | sv (t:Ty)
 | fn (f:FuncId) (caps:List (Bool×Ty))
 | fns (fs:List Nat)
@[reducible] def uO:List (Bool×Ty)->Type
 | []=>Unit
 | (_,t) :: r=>t.den×uO r
@[reducible] def AT.den:AT->Type
 | .v t=>t.den
 | .p t=>t.den
 | .own t=>List t.den
 | .pb t=>t.den
 | .po t=>t.den
 | .sv t=>t.den
 | .fn _ caps=>uO caps
 | .fns _=>Unit
@[reducible] def fX:List AT->Type
 | []=>Unit
 | a :: r=>a.den×fX r
def yX (w:World) (G:Nat->Prop):(caps:List (Bool×Ty))->uO caps->List Value->Prop
 | [],_,vs=>vs=[]
 | (true,t) :: r,x,vs=>∃ v s,vs=v :: s/\Ej w G t x.1 v/\yX w G r x.2 s
 | (false,t) :: r,x,vs=>∃ v s,vs=v :: s/\rS w G (iG t x.1) v/\yX w G r x.2 s
def aQu (w:World) (G0:Nat->Prop) (t:Ty) (x:t.den) (v:Value) (bs:List Nat):Prop :=
 ∃ b off,v = .pointer (some ⟨b,off,none⟩)/\fW w G0 w ⟨t,[x],true,none,none⟩ (.slice (some ⟨b,off,none⟩) 1 1) bs
def aM8 (w:World) (t:Ty) (x:t.den) (v:Value) (bs:List Nat):Prop :=
 ∃ b off,v = .pointer (some ⟨b,off,none⟩)/\vK w (gB w t) t.size [x] (.slice (some ⟨b,off,none⟩) 1 1) bs
def aQv (w:World) (t:Ty) (x:t.den) (v:Value) (bs:List Nat):Prop :=
 ∃ cs,v = .agg cs.toArray/\gB w t x cs bs
def aHq (w:World) (G G0:Nat->Prop):(a:AT)->a.den->Value->List Nat->Prop
 | .v t,x,v,bs=>bs=[]/\rS w G (iG t x) v
 | .p t,x,v,bs=>bs=[]/\Ej w G t x v
 | .own t,xs,v,bs=>gB w (.sl t) xs [v] bs
 | .pb t,x,v,bs=>aQu w G0 t x v bs
 | .po t,x,v,bs=>aM8 w t x v bs
 | .sv t,x,v,bs=>aQv w t x v bs
 | .fn f caps,x,v,bs=>bs=[]/\∃ vs,v = .func (.func f) #[] vs.toArray/\yX w G caps x vs
 | .fns fs,_,v,bs=>bs=[]/\rS w G (iG (.sl .fn) (fs.map some)) v
def Ek (w:World) (G G0:Nat->Prop):(sig:List AT)->fX sig->List Value->List (List Nat)->Prop
 | [],_,vs,bss=>vs=[]/\bss=[]
 | a :: r,x,vs,bss=>∃ v s b bs,vs=v :: s/\bss=b :: bs/\aHq w G G0 a x.1 v b/\Ek w G G0 r x.2 s bs
def BM (w:World) (G:Nat->Prop) (sig:List AT) (x:fX sig) (vs:List Value) (bss:List (List Nat)):Prop:=Ek w G G sig x vs bss
inductive RK where
 | own | frz | bx
def RK.hd:List RK->RK
 | [] => .own
 | k :: _=>k
structure Spec where
 sig:List AT
 pre:fX sig->Prop
 upd:fX sig->List (Option BD):=λ_=>[]
 res:fX sig->List aY
 kds:List RK:=[]
def zV (t:Ty) (cs:List Value) (v:Value):Prop :=
 match t with
 | .unit | .cons _ _=>v = .agg cs.toArray
 | _=>cs=[v]
def Bi (w:World):List aY->List Value->List (List Nat)->Prop
 | [],vs,bss=>vs=[]/\bss=[]
 | d :: r,vs,bss=>∃ v s b bs cs,vs=v :: s/\bss=b :: bs/\gB w d.t d.x cs b/\zV d.t cs v/\Bi w r s bs
def Oj (w:World) (G F:Nat->Prop):RK->aY->Value->List Nat->Prop
 | .own,d,v,b=>∃ cs,gB w d.t d.x cs b/\zV d.t cs v
 | .frz,d,v,b=>b=[]/\∃ cs,dW w (λk=>G k\/F k) d.t d.x cs/\zV d.t cs v
 | .bx,d,v,b=>∃ blk off,v = .pointer (some ⟨blk,off,none⟩)/\fW w (λk=>G k\/F k) w ⟨d.t,[d.x],true,none,none⟩ (.slice (some ⟨blk,off,none⟩) 1 1) b
def SP (w:World) (G F:Nat->Prop):List RK->List aY->List Value->List (List Nat)->Prop
 | _,[],vs,bss=>vs=[]/\bss=[]
 | ks,d :: r,vs,bss=>∃ v s b bs,vs=v :: s/\bss=b :: bs/\Oj w G F (RK.hd ks) d v b/\SP w G F ks.tail r s bs
def uP (w:World):List (Option BD)->List Value->List (List Nat)->Prop
 | [],vs,bss=>vs=[]/\bss=[]
 | none :: r,vs,bss=>∃ v s bs,vs=v :: s/\bss=[] :: bs/\uP w r s bs
 | some A :: r,vs,bss=>∃ v s b bs,vs=v :: s/\bss=b :: bs/\gB w (.sl A.t) A.xs [v] b/\uP w r s bs
def iL:List AT->List Value->List Value
 | .own _ :: r,v :: s=>v :: iL r s
 | .pb _ :: r,v :: s=>v :: iL r s
 | .po _ :: r,v :: s=>v :: iL r s
 | .sv _ :: r,v :: s=>v :: iL r s
 | _ :: r,_ :: s=>iL r s
 | _,_=>[]
def Cy:List AT->List AT
 | .own t :: r => .own t :: Cy r
 | .pb t :: r => .pb t :: Cy r
 | .po t :: r => .po t :: Cy r
 | .sv t :: r => .sv t :: Cy r
 | _ :: r=>Cy r
 | []=>[]
def aAZ (w:World) (G0:Nat->Prop):AT->BD->Value->List Nat->Prop
 | .own t,A,v,b=>gB w (.sl A.t) A.xs [v] b
 | .pb t,A,v,b=>∃ x,A=⟨t,[x]⟩/\aQu w G0 t x v b
 | .po t,A,v,b=>∃ x,A=⟨t,[x]⟩/\aM8 w t x v b
 | .sv t,A,v,b=>∃ x,A=⟨t,[x]⟩/\aQv w t x v b
 | _,_,_,_=>False
def OA (w:World) (G0:Nat->Prop):List AT->List (Option BD)->List Value->List (List Nat)->Prop
 | _,[],vs,bss=>vs=[]/\bss=[]
 | o :: os,none :: r,vs,bss=>∃ v s bs,vs=v :: s/\bss=[] :: bs/\OA w G0 os r s bs
 | o :: os,some A :: r,vs,bss=>∃ v s b bs,vs=v :: s/\bss=b :: bs/\aAZ w G0 o A v b/\OA w G0 os r s bs
 | [],_ :: _,_,_=>False
def ER:List Value->Value
 | [v]=>v
 | vs => .tuple vs.toArray
def aHr (w:World) (H:List Nat) (G G0:Nat->Prop) (kds:List RK) (ds:List aY) (os:List AT) (us:List (Option BD)) (ovs:List Value) (e:Ending) (w':World):Prop :=
 ∃ (rs:List Value) (ubs rbs:List (List Nat)) (F:Nat->Prop),e = .returned (ER rs)/\cE H w w'/\SP w' G F kds ds rs rbs/\OA w' G0 os us ovs ubs /\
  (ubs.flatten++rbs.flatten).Nodup/\(∀ b∈ubs.flatten++rbs.flatten,¬ Good w H b)/\∀ b,F b->b<w'.heap.size/\¬ Good w H b/\b ∉ ubs.flatten++rbs.flatten
def jC (P:Program) (f:FuncId) (S:Spec):Prop :=
 ∀ (w:World) (G G0:Nat->Prop) (x:fX S.sig) (vs:List Value) (bss:List (List Nat)),E9 w bss.flatten->(∀ b,G b->Good w bss.flatten b)->(∀ b,G0 b->G b)->S.pre x->Ek w G G0 S.sig x vs bss->bss.flatten.Nodup ->
  Calls P f vs.toArray w (aHr w bss.flatten G G0 S.kds (S.res x) (Cy S.sig) (S.upd x) (iL S.sig vs))
def zN (P:Program) (f:FuncId) (S:Spec):Prop :=
 ∀ (w:World) (x:fX S.sig) (vs:List Value) (bss:List (List Nat)),E9 w bss.flatten->S.pre x->BM w (Good w bss.flatten) S.sig x vs bss->bss.flatten.Nodup ->
  Calls P f vs.toArray w λe w'=>∃ rs ubs rbs,e = .returned (ER rs)/\cE bss.flatten w w'/\Bi w' (S.res x) rs rbs/\uP w' (S.upd x) (iL S.sig vs) ubs /\
   (ubs.flatten++rbs.flatten).Nodup/\∀ b∈ubs.flatten++rbs.flatten,¬ Good w bss.flatten b
def CS:List AT->Bool
 | .pb _ :: _=>false
 | .po _ :: _=>false
 | .sv _ :: _=>false
 | _ :: r=>CS r
 | []=>true
theorem Ej.keepB {w w':World} {G G':Nat->Prop} (hG:∀ b,G b->G' b) (hw:∀ b,G b->w'.heap[b]? = w.heap[b]?) {t:Ty} {x:t.den} {v:Value} (h:Ej w G t x v):Ej w' G' t x v:=by
 obtain ⟨b,off,cs,rfl,hb,hc,hr⟩:=h;exact ⟨b,off,cs,rfl,hG b hb,hc.keepB (hw b hb),hr.keep hG hw⟩
theorem lP {w w':World} {G G':Nat->Prop} (hG:∀ b,G b->G' b) (hw:∀ b,G b->w'.heap[b]? = w.heap[b]?) {A:dD} {v:Value} (h:rS w G A v):rS w' G' A v:=by
 cases A with
 | val u=>exact h
 | sl t xs=>exact lT.keep (λ_ _=>dW.keep hG hw) hG hw h
 | ptr t x=>exact Ej.keepB hG hw h
 | st t x =>
  obtain ⟨cs,rfl,hr⟩:=h;exact ⟨cs,rfl,hr.keep hG hw⟩
 | junk=>trivial
 | osl _ _=>exact h
 | optr _ _ _=>exact h
 | rcd _ _=>exact h
 | bptr _ _ _=>exact h
theorem yX.keepB {w w':World} {G G':Nat->Prop} (hG:∀ b,G b->G' b) (hw:∀ b,G b->w'.heap[b]? = w.heap[b]?):∀ {caps:List (Bool×Ty)} {x:uO caps} {vs:List Value},yX w G caps x vs->yX w' G' caps x vs
 | [],_,_,h=>h
 | (true,t) :: r,x,vs,⟨v,s,h1,h2,h3⟩=>⟨v,s,h1,h2.keepB hG hw,h3.keepB hG hw⟩
 | (false,t) :: r,x,vs,⟨v,s,h1,h2,h3⟩=>⟨v,s,h1,lP hG hw h2,h3.keepB hG hw⟩
theorem Ek.mono {w:World} {G G' G0 G0':Nat->Prop} (hG:∀ b,G b->G' b):∀ {sig:List AT} {x:fX sig} {vs:List Value} {bss:List (List Nat)},CS sig=true->Ek w G G0 sig x vs bss->Ek w G' G0' sig x vs bss
 | [],_,_,_,_,h=>h
 | a :: r,x,vs,bss,hp,⟨v,s,b,bs,h1,h2,h3,h4⟩=>by
  have hp':CS r=true:=by cases a <;> first | exact hp | cases hp
  refine ⟨v,s,b,bs,h1,h2,?_,h4.mono hG hp'⟩;cases a with
  | v t=>exact ⟨h3.1,lP hG (λ_ _=>rfl) h3.2⟩
  | p t=>exact ⟨h3.1,h3.2.keepB hG (λ_ _=>rfl)⟩
  | own t=>exact h3
  | fn f c=>obtain ⟨e,vs',e2,h⟩:=h3;exact ⟨e,vs',e2,h.keepB hG (λ_ _=>rfl)⟩
  | fns fs=>exact ⟨h3.1,lP hG (λ_ _=>rfl) h3.2⟩
  | pb t=>cases hp
  | po t=>cases hp
  | sv t=>cases hp
theorem Bi.toK {w:World} {G F:Nat->Prop}:∀ {ds:List aY} {rs:List Value} {rbs:List (List Nat)},Bi w ds rs rbs->SP w G F [] ds rs rbs
 | [],_,_,h=>h
 | d :: r,_,_,⟨v,s,b,bs,cs,h1,h2,h3,h4,h5⟩=>⟨v,s,b,bs,h1,h2,⟨cs,h3,h4⟩,h5.toK⟩
theorem uP.toK {w:World} {G0:Nat->Prop} {n0:Unit}:∀ {sig:List AT} {us:List (Option BD)} {vs:List Value} {ubs:List (List Nat)},CS sig=true->vs.length=sig.length->uP w us (iL sig vs) ubs->OA w G0 (Cy sig) us (iL sig vs) ubs
 | [],us,vs,ubs,_,hl,h=>by
  have:vs=[]:=b5 (by simpa using hl);subst this;cases us with
  | nil=>exact h
  | cons u us=>cases u with
   | none=>obtain ⟨_,_,_,h,_⟩:=h;cases h
   | some A=>obtain ⟨_,_,_,_,h,_⟩:=h;cases h
 | .v t :: r,us,v :: vs,ubs,hp,hl,h=>uP.toK (sig:=r) (n0:=n0) hp (by simpa using hl) h
 | .p t :: r,us,v :: vs,ubs,hp,hl,h=>uP.toK (sig:=r) (n0:=n0) hp (by simpa using hl) h
 | .fn f c :: r,us,v :: vs,ubs,hp,hl,h=>uP.toK (sig:=r) (n0:=n0) hp (by simpa using hl) h
 | .fns f :: r,us,v :: vs,ubs,hp,hl,h=>uP.toK (sig:=r) (n0:=n0) hp (by simpa using hl) h
 | .own t :: r,us,v :: vs,ubs,hp,hl,h=>by
  cases us with
  | nil=>exact h
  | cons u us=>cases u with
   | none =>
    obtain ⟨v',s,bs,h1,h2,h3⟩:=h;simp only [iL,dP] at h1;obtain ⟨rfl,rfl⟩:=h1;exact ⟨_,_,_,rfl,h2,uP.toK (sig:=r) (n0:=n0) hp (by simpa using hl) h3⟩
   | some A =>
    obtain ⟨v',s,b,bs,h1,h2,h3,h4⟩:=h;simp only [iL,dP] at h1;obtain ⟨rfl,rfl⟩:=h1;exact ⟨_,_,_,_,rfl,h2,h3,uP.toK (sig:=r) (n0:=n0) hp (by simpa using hl) h4⟩
 | .v t :: r,us,[],ubs,hp,hl,h=>by simp at hl
 | .p t :: r,us,[],ubs,hp,hl,h=>by simp at hl
 | .fn f c :: r,us,[],ubs,hp,hl,h=>by simp at hl
 | .fns f :: r,us,[],ubs,hp,hl,h=>by simp at hl
 | .own t :: r,us,[],ubs,hp,hl,h=>by simp at hl
 | .pb t :: r,us,_,ubs,hp,hl,h=>by cases hp
 | .po t :: r,us,_,ubs,hp,hl,h=>by cases hp
 | .sv t :: r,us,_,ubs,hp,hl,h=>by cases hp
theorem Ok {w:World} {G G0:Nat->Prop}:∀ {sig:List AT} {x:fX sig} {vs:List Value} {bss:List (List Nat)},Ek w G G0 sig x vs bss->vs.length=sig.length
 | [],_,_,_,h=>by obtain ⟨rfl,_⟩:=h;rfl
 | a :: r,x,vs,bss,⟨v,s,b,bs,h1,h2,h,h3⟩=>by subst h1;simp [Ok h3]
theorem zN.up {P:Program} {f:FuncId} {S:Spec} (hp:CS S.sig=true) (hk:S.kds=[]) (h:zN P f S):jC P f S:=by
 intro w G G0 x vs bss hg hG hG0 hpre ha hn;have hl:=Ok ha;refine (h w x vs bss hg hpre (ha.mono hG hp) hn).mono ?_;rintro e w' ⟨rs,ubs,rbs,h1,h2,h3,h4,h5,h6⟩;refine ⟨rs,ubs,rbs,λ_=>False,h1,h2,?_,h4.toK (n0:=()) hp hl,h5,h6,λb hb=>hb.elim⟩;rw [hk];exact h3.toK
def Ty.agg:Ty->Bool
 | .unit | .cons _ _=>true
 | _=>false
def eF:Ty->List Value
 | .int k=>[.int k 0]
 | .bool=>[.bool false]
 | .fn=>[.nilFunc]
 | .str=>[.string aC]
 | .sl _=>[.slice none 0 0]
 | .unit=>[]
 | .cons a b=>eF a++eF b
def gH (t:Ty) (cs:List Value):Value:=if t.agg then .agg cs.toArray else cs.headD undef
def uQ:TypeDesc->Ty->Bool
 | .bool,.bool | .func _ _ _,.fn | .string,.str | .slice _,.sl _ | .struct _,.unit | .struct _,.cons _ _=>true
 | .int k,.int k'=>k==k'
 | _,_=>false
structure oG (P:Program) (T:TypeId) (t:Ty):Prop where
 und:∃ d,P.underlying T=some d/\uQ d t=true
 info:∃ i,P.info? T=some i/\i.size=t.size/\∃ z,i.zero=some z/\z.cells.toList=eF t/\z=gH t (eF t)
def El (P:Program):List Field->Ty->Nat->Prop
 | [],.unit,_=>True
 | f :: fs,.cons a b,o=>f.offset=o/\oG P f.type a/\a.size≠0/\El P fs b (o+a.size)
 | _,_,_=>False
inductive TI where
 | scal (t:Ty)
 | slice (e:TypeId) (t:Ty) (bytes:Nat)
 | struct (t:Ty)
 | other
def TI.ty:TI->Option Ty
 | .scal t=>some t
 | .slice _ t _=>some (.sl t)
 | .struct t=>some t
 | .other=>none
def vEq:Value->Value->Bool
 | .int k a,.int k' b=>k==k'&&a==b
 | .bool a,.bool b=>a==b
 | .string a,.string b=>a.size==0&&b.size==0
 | .slice none 0 0,.slice none 0 0=>true
 | .nilFunc,.nilFunc=>true
 | _,_=>false
def aHs:List Value->List Value->Bool
 | [],[]=>true
 | a :: r,b :: s=>vEq a b&&aHs r s
 | _,_=>false
theorem TJ {s:ByteArray} (h:s.size=0):s=aC:=by
 cases s with | mk d=>cases d with | mk l=>cases l with
  | nil=>rfl
  | cons a r=>simp [aH] at h
theorem aQw {a b:Value} (h:vEq a b=true):a=b:=by
 unfold vEq at h;split at h
 ·simp at h;rw [h.1,h.2]
 ·simp at h;rw [h]
 ·simp only [aJ,beq_iff_eq] at h;rw [TJ h.1,TJ h.2]
 ·rfl
 ·rfl
 ·cases h
theorem Uj:∀ {a b:List Value},aHs a b=true->a=b
 | [],[],_=>rfl
 | a :: r,b :: s,h=>by
  simp only [aHs,aJ] at h;rw [aQw h.1,Uj h.2]
 | [],_ :: _,h=>by cases h
 | _ :: _,[],h=>by cases h
def aEw:Value->List Value->Bool
 | .agg cs,l=>aHs cs.toList l
 | _,_=>false
def Ol (z:Value) (t:Ty):Bool:=if t.agg then aEw z (eF t) else aHs [z] (eF t)
theorem SQ {z:Value} {t:Ty} (h:Ol z t=true):z.cells.toList=eF t/\z=gH t (eF t):=by
 unfold Ol at h;unfold gH;by_cases ha:t.agg=true
 ·rw [if_pos ha] at h ⊢;unfold aEw at h;split at h
  ·have:=Uj h;refine ⟨by simpa [mX] using this,by rw [<- this]⟩
  ·cases h
 ·rw [if_neg ha] at h ⊢;have hz:=Uj h;refine ⟨?_,by rw [<- hz];rfl⟩;cases z with
  | agg cs=>exfalso;cases t <;> simp [eF,Ty.agg] at hz ha
  | _=>simpa [mX] using hz
def BN (P:Program) (T:TypeId) (t:Ty):Bool :=
 (match P.underlying T with | some d=>uQ d t | none=>false) &&
 (match P.info? T with | some i=>cG i.size t.size&&(match i.zero with | some z=>Ol z t | none=>false) | none=>false)
theorem vU {P:Program} {T:TypeId} {t:Ty} (h:BN P T t=true):oG P T t:=by
 simp only [BN,aJ] at h;obtain ⟨h1,h2⟩:=h;split at h1
 ·rename_i d hd;split at h2
  ·rename_i i hi;simp only [aJ] at h2;obtain ⟨h2,h3⟩:=h2;split at h3
   ·rename_i z hz;exact ⟨⟨d,hd,h1⟩,⟨i,hi,aX h2,z,hz,SQ h3⟩⟩
   ·cases h3
  ·cases h2
 ·cases h1
def Uk (k:IntKind):Option TypeDesc->Bool
 | some (.int k')=>decide (k'=k)
 | _=>false
def O2:Option TypeDesc->Bool
 | some .bool=>true
 | _=>false
def Ul:Option TypeDesc->Bool
 | some .string=>true
 | _=>false
theorem Le {k:IntKind} {d:Option TypeDesc} (h:Uk k d=true):d=some (.int k):=by
 unfold Uk at h;split at h
 ·simp at h;rw [h]
 ·cases h
theorem Hz {d:Option TypeDesc} (h:O2 d=true):d=some .bool:=by
 unfold O2 at h;split at h
 ·rfl
 ·cases h
theorem Lf {d:Option TypeDesc} (h:Ul d=true):d=some .string:=by
 unfold Ul at h;split at h
 ·rfl
 ·cases h
def xM:(t:Ty)->t.den->t.den->Bool
 | .int _,x,y=>(x:Int)==y
 | .bool,x,y=>(x:Bool)==y
 | .fn,x,y=>(x:Option Nat)==y
 | .str,x,y=>aB x==aB y
 | .sl _,_,_=>false
 | .unit,_,_=>true
 | .cons a b,x,y=>xM a x.1 y.1&&xM b x.2 y.2
def dep:Ty->Nat
 | .cons a b=>Nat.max (dep a+1) (dep b)
 | _=>0
def H9 (P:Program) (agg:Bool) (T:TypeId) (k:TypeId ⊕ (List Field×Nat)->Bool):Bool :=
 match agg with
 | true=>match P.underlying T with
  | some (.struct fs) => !P.stoodInHeld T&&k (.inr (fs.toList,0))
  | _=>false
 | false=>k (.inl T)
def TK (P:Program):Ty->TypeId ⊕ (List Field×Nat)->Bool
 | .int k,.inl T=>Uk k (P.underlying T)
 | .bool,.inl T=>O2 (P.underlying T)
 | .str,.inl T=>Ul (P.underlying T)
 | .unit,.inr ([],_)=>true
 | .cons a b, .inr (f :: fs, o) => f.name != "_" && (cG f.offset o && (BN P f.type a && (H9 P a.agg f.type (TK P a) && TK P b (.inr (fs, o + a.size)))))
 | _,_=>false
def eqT (P:Program) (t:Ty) (T:TypeId):Bool:=zC (dep t) 9999&&(!P.eqGuardType P.depth T&&H9 P t.agg T (TK P t))
def Ea (P:Program) (T:TypeId):TI->Prop
 | .scal t=>oG P T t
 | .slice e t by'=>oG P T (.sl t)/\P.underlying T=some (.slice e)/\oG P e t/\(P.info? e).map (·.bytes)=some by'
 | .struct t=>oG P T t/\∃ fs,P.underlying T=some (.struct fs)/\El P fs.toList t 0/\(t.flat=true->eqT P t T=true)
 | .other=>True
def iZ:List TI->Nat->TI
 | [],_ => .other
 | a :: _,0=>a
 | _ :: r,n+1=>iZ r n
def jP (P:Program) (tab:List TI):Prop:=∀ T,Ea P T (iZ tab T)
def BO (P:Program):List Field->Ty->Nat->Bool
 | [],.unit,_=>true
 | f :: fs,.cons a b,o=>cG f.offset o&&BN P f.type a && !(cG a.size 0)&&BO P fs b (o+a.size)
 | _,_,_=>false
theorem Em {P:Program}:∀ {fs:List Field} {t:Ty} {o:Nat},BO P fs t o=true->El P fs t o
 | [],.unit,_,_=>trivial
 | f :: fs,.cons a b,o,h=>by
  simp only [BO,aJ] at h;obtain ⟨⟨⟨h1,h2⟩,h3⟩,h4⟩:=h;exact ⟨aX h1,vU h2,λe=>by rw [e] at h3;simp at h3,Em h4⟩
 | [],.int _,_,h=>by cases h
 | [],.bool,_,h=>by cases h
 | [],.fn,_,h=>by cases h
 | [],.str,_,h=>by cases h
 | [],.sl _,_,h=>by cases h
 | [],.cons _ _,_,h=>by cases h
 | _ :: _,.int _,_,h=>by cases h
 | _ :: _,.bool,_,h=>by cases h
 | _ :: _,.fn,_,h=>by cases h
 | _ :: _,.str,_,h=>by cases h
 | _ :: _,.sl _,_,h=>by cases h
 | _ :: _,.unit,_,h=>by cases h
def O5 (P:Program) (T:TypeId):TI->Bool
 | .scal t=>BN P T t
 | .slice e t by'=>BN P T (.sl t)&&(match P.underlying T with | some (.slice e')=>cG e e' | _=>false)&&BN P e t&&(match P.info? e with | some i=>cG i.bytes by' | none=>false)
 | .struct t=>BN P T t&&(match P.underlying T with | some (.struct fs)=>BO P fs.toList t 0&&(!t.flat||eqT P t T) | _=>false)
 | .other=>true
theorem aBa {P:Program} {T:TypeId} {i:TI} (h:O5 P T i=true):Ea P T i:=by
 cases i with
 | scal t=>exact vU h
 | slice e t by' =>
  simp only [O5,aJ] at h;obtain ⟨⟨⟨h1,h2⟩,h3⟩,h4⟩:=h;refine ⟨vU h1,?_,vU h3,?_⟩
  ·split at h2
   ·rename_i e' he;rw [he,aX h2]
   ·cases h2
  ·split at h4
   ·rename_i j hj;rw [hj];simp [aX h4]
   ·cases h4
 | struct t =>
  simp only [O5,aJ] at h;refine ⟨vU h.1,?_⟩;have h2:=h.2;split at h2
  ·rename_i fs hf;simp only [aJ] at h2;refine ⟨fs,hf,Em h2.1,λht => ?_⟩;have h3:=h2.2;rw [ht] at h3;exact h3
  ·cases h2
 | other=>trivial
def uR (P:Program):List TI->Nat->Bool
 | [],_=>true
 | i :: r,T=>O5 P T i&&uR P r (T+1)
theorem ES {P:Program}:∀ {tab:List TI} {S:Nat},uR P tab S=true->∀ T,Ea P (S+T) (iZ tab T)
 | [],_,_,_=>trivial
 | i :: r,S,h,0=>by
  simp only [uR,aJ] at h;exact aBa h.1
 | i :: r,S,h,T+1=>by
  simp only [uR,aJ] at h;have:=ES h.2 T
  rwa [show S+(T+1)=S+1+T from by omega]
theorem Om {P:Program} {tab:List TI} (h:uR P tab 0=true):jP P tab:=λT=>by
 have:=ES h T
 rwa [cV] at this
section
variable {P:Program} {w:World}
theorem oG.size_run {T:TypeId} {t:Ty} (h:oG P T t) (w:World):(sizeOf T).run P w = .ok t.size w:=by
 obtain ⟨i,hi,hs,_⟩:=h.info;simp [sizeOf,typeInfo,hi,hs]
theorem oG.agg_run {T:TypeId} {t:Ty} (h:oG P T t) (w:World):(isAgg T).run P w = .ok t.agg w:=by
 obtain ⟨d,hd,hf⟩:=h.und;unfold isAgg;simp only [bO,run_underlying hd,aW];cases d <;> cases t <;> simp_all [uQ,Ty.agg]
theorem oG.zero_run {T:TypeId} {t:Ty} (h:oG P T t) (w:World):(zeroValue T).run P w = .ok (gH t (eF t)) w:=by
 obtain ⟨i,hi,_,z,hz,_,hv⟩:=h.info;simp [zeroValue,typeInfo,hi,hz,hv]
theorem BP {T:TypeId} {t:Ty} (h:oG P T t) {b off:Nat} {cs:List Value} (hl:cs.length=t.size) (hc:kK w b off cs) :
  (loadVar T ⟨b,off,none⟩).run P w = .ok (gH t cs) w:=by
 unfold loadVar gH;simp only [bO,h.agg_run,aW];cases ha:t.agg with
 | true =>
  have:=run_loadCells_list (P:=P) w ⟨b,off,none⟩ cs (λj v hj=>by rw [fH];exact hc j v hj);simp [h.size_run, <- hl,this]
 | false =>
  have h1:t.size=1:=by cases t <;> simp_all [Ty.agg,Ty.size]
  rw [h1] at hl
  match cs,hl with
  | [c],_ =>
   have:=hc 0 c rfl;simp at this;simp [this]
theorem dW.repB {G:Nat->Prop} {t:Ty} {x:t.den} {cs:List Value} (h:dW w G t x cs):rS w G (iG t x) (gH t cs):=by
 cases t with
 | int k=>obtain ⟨rfl,h⟩:=h;exact ⟨rfl,h⟩
 | bool=>cases h;exact ⟨rfl,trivial⟩
 | fn=>cases h;exact ⟨rfl,aAY x⟩
 | str=>obtain ⟨rfl,h⟩:=h;exact ⟨rfl,h⟩
 | sl e=>obtain ⟨v,rfl,h⟩:=h;exact h
 | unit=>exact ⟨cs,rfl,h⟩
 | cons a b=>exact ⟨cs,rfl,h⟩
theorem GY {G:Nat->Prop}:∀ {t:Ty} {x:t.den} {n:Nat} {d:aY} {cs:List Value},aFM t x n=some d->dW w G t x cs ->
  ∃ o,kI t n=some (o,d.t)/\dW w G d.t d.x ((cs.drop o).take d.t.size)/\o+d.t.size<=cs.length
 | .cons a b,x,0,d,cs,h,hr=>by
  obtain ⟨c1,c2,rfl,h1,h2⟩:=hr;cases h;refine ⟨0,rfl,?_,by rw [aO,h1.length];simp⟩;simp only [iS];rw [<- h1.length,jY];exact h1
 | .cons a b,x,n+1,d,cs,h,hr=>by
  obtain ⟨c1,c2,rfl,h1,h2⟩:=hr;obtain ⟨o,ho,hro,hl⟩:=GY (t:=b) h h2;refine ⟨a.size+o,by simp [kI,ho],?_,by rw [aO,h1.length];omega⟩;rw [<- h1.length,oD,jZ (by omega),kU,kQ];exact hro
 | .int _,_,_,_,_,h,_=>by cases h
 | .bool,_,_,_,_,h,_=>by cases h
 | .fn,_,_,_,_,h,_=>by cases h
 | .str,_,_,_,_,h,_=>by cases h
 | .sl _,_,_,_,_,h,_=>by cases h
 | .unit,_,_,_,_,h,_=>by cases h
theorem zW:∀ {fs:List Field} {t:Ty} {o n:Nat} {fo:Nat} {ft:Ty},El P fs t o->kI t n=some (fo,ft) ->
  ∃ f,fs[n]? = some f/\f.offset=o+fo/\oG P f.type ft/\ft.size≠0
 | f :: fs,.cons a b,o,0,fo,ft,h,h2=>by
  cases h2;exact ⟨f,rfl,h.1,h.2.1,h.2.2.1⟩
 | f :: fs,.cons a b,o,n+1,fo,ft,h,h2=>by
  simp only [kI] at h2;split at h2
  ·rename_i o' t' h3;cases h2;obtain ⟨g,h4,h5,h6,h7⟩:=zW (n:=n) h.2.2.2 h3;exact ⟨g,by simpa using h4,by rw [h5];omega,h6,h7⟩
  ·cases h2
 | [],.unit,_,_,_,_,_,h2=>by cases h2
 | [],.int _,_,_,_,_,h,_=>h.elim
 | [],.bool,_,_,_,_,h,_=>h.elim
 | [],.fn,_,_,_,_,h,_=>h.elim
 | [],.str,_,_,_,_,h,_=>h.elim
 | [],.sl _,_,_,_,_,h,_=>h.elim
 | [],.cons _ _,_,_,_,_,h,_=>h.elim
 | _ :: _,.int _,_,_,_,_,h,_=>h.elim
 | _ :: _,.bool,_,_,_,_,h,_=>h.elim
 | _ :: _,.fn,_,_,_,_,h,_=>h.elim
 | _ :: _,.str,_,_,_,_,h,_=>h.elim
 | _ :: _,.sl _,_,_,_,_,h,_=>h.elim
 | _ :: _,.unit,_,_,_,_,h,_=>h.elim
theorem En {S:TypeId} {t:Ty} (h:Ea P S (.struct t)) {n fo:Nat} {ft:Ty} (hf:kI t n=some (fo,ft)) (b off:Nat) :
  (Hm S (.pointer (some ⟨b,off,none⟩)) n).run P w = .ok (.pointer (some ⟨b,off+fo,none⟩)) w:=by
 obtain ⟨_,fs,hu,hfs,_⟩:=h;obtain ⟨f,h1,h2,h3,h4⟩:=zW hfs hf;have h1':fs[n]? = some f:=by simpa using h1
 unfold Hm;simp only [bO,run_underlying hu,aW,h1',iT,cM,fieldPlace,h3.size_run,if_neg h4,h2,cV,fH]
theorem On {T:TypeId} {t:Ty} (h:oG P T t) (cs:List Value) (o:Nat) (hl:o+t.size<=cs.length) :
  (part T cs.toArray o).run P w = .ok (gH t ((cs.drop o).take t.size)) w:=by
 unfold part gH;simp only [bO,h.agg_run,aW];cases ha:t.agg with
 | true=>simp [h.size_run,List.extract_toArray,List.extract_eq_take_drop]
 | false =>
  have h1:t.size=1:=by cases t <;> simp_all [Ty.agg,Ty.size]
  rw [h1] at hl ⊢;have hlt:o<cs.length:=by omega
  simp [hlt,List.take_one,List.head?_drop]
theorem TL {S:TypeId} {t:Ty} (h:Ea P S (.struct t)) {n fo:Nat} {ft:Ty} (hf:kI t n=some (fo,ft)) (cs:List Value) (hl:fo+ft.size<=cs.length) :
  (Nl S (.agg cs.toArray) n).run P w = .ok (gH ft ((cs.drop fo).take ft.size)) w:=by
 obtain ⟨_,fs,hu,hfs,_⟩:=h;obtain ⟨f,h1,h2,h3,h4⟩:=zW hfs hf;have h1':fs[n]? = some f:=by simpa using h1
 unfold Nl;simp only [bO,run_underlying hu,aW,h1',asAgg,cM,h2,cV];exact On h3 cs fo hl
theorem NG {T e:TypeId} {t:Ty} {by':Nat} (h:Ea P T (.slice e t by')) {k:IntKind} {i:Int} (b off len cap:Nat) (h0:0<=i) (h1:i<len) :
  (CB T (.slice (some ⟨b,off,none⟩) len cap) (.int k i)).run P w = .ok (.pointer (some ⟨b,off+i.toNat*t.size,none⟩)) w:=by
 obtain ⟨_,hu,he,_⟩:=h;unfold CB;simp [asIntOf,run_underlying hu,h0,h1,he.size_run,fH]
end
def eZ:List Prop->Prop
 | []=>True
 | p :: r=>p/\eZ r
theorem eZ.append {l m:List Prop}:eZ (l++m)↔eZ l/\eZ m:=by
 induction l with
 | nil=>simp [eZ]
 | cons p r ih=>simp [eZ,ih,and_assoc]
theorem qA (k:IntKind) (n:Int):cC k (k.wrap n):=by
 cases k <;> simp [cC,bD,oI,oJ,mY,kO] <;> (try split) <;> omega
theorem lJ {k:IntKind} {n:Int} (h:cC k n):k.wrap n=n:=by
 cases k <;> simp [cC,bD,oI,oJ,mY,kO] at h ⊢ <;> (try split) <;> omega
def NH (op:BinOp) (k:IntKind) (x y:Int):Int :=
 let a:=BitVec.ofInt k.bits x
 let b:=BitVec.ofInt k.bits y
 match op with
 | .and=>k.wrap (a &&& b).toNat
 | .or=>k.wrap (a ||| b).toNat
 | .xor=>k.wrap (a ^^^ b).toNat
 | _=>k.wrap (a &&& ~~~b).toNat
def aXl (k:IntKind) (x y:Int):Int:=k.wrap (x*2 ^ min y.toNat k.bits)
def aQx (k:IntKind) (x y:Int):Int:=x.fdiv (2 ^ min y.toNat k.bits)
def aHt (wr:Bool) (op:BinOp) (k:IntKind) (a b:Int):Option (List Prop×Value) :=
 match op with
 | .add=>match wr with | true=>some ([],.int k (k.wrap (a+b))) | false=>some ([cC k (a+b)],.int k (a+b))
 | .sub=>match wr with | true=>some ([],.int k (k.wrap (a - b))) | false=>some ([cC k (a - b)],.int k (a - b))
 | .mul=>match wr with | true=>some ([],.int k (k.wrap (a*b))) | false=>some ([cC k (a*b)],.int k (a*b))
 | .quo=>some ([b≠0,cC k (a.tdiv b)],.int k (a.tdiv b))
 | .rem=>some ([b≠0,cC k (a.tmod b)],.int k (a.tmod b))
 | .and=>some ([],.int k (NH .and k a b))
 | .or=>some ([],.int k (NH .or k a b))
 | .xor=>some ([],.int k (NH .xor k a b))
 | .andNot=>some ([],.int k (NH .andNot k a b))
 | .eql=>some ([],.bool (a==b))
 | .neq=>some ([],.bool (a != b))
 | .lss=>some ([],.bool (decide (a<b)))
 | .leq=>some ([],.bool (decide (a<=b)))
 | .gtr=>some ([],.bool (decide (a>b)))
 | .geq=>some ([],.bool (decide (a>=b)))
 | .shl=>some ([0<=b],.int k (aXl k a b))
 | .shr=>some ([0<=b,cC k (aQx k a b)],.int k (aQx k a b))
def aQy (op:BinOp) (a b:ByteArray):Option (List Prop×Value) :=
 match op with
 | .add=>some ([a.size+b.size<=maxLen],.string (a++b))
 | .eql=>some ([],.bool (a.toList==b.toList))
 | .neq=>some ([],.bool (!(a.toList==b.toList)))
 | .lss=>some ([],.bool (bE a.toList b.toList))
 | .leq=>some ([],.bool (bE a.toList b.toList||a.toList==b.toList))
 | .gtr=>some ([],.bool (!(bE a.toList b.toList||a.toList==b.toList)))
 | .geq=>some ([],.bool (!bE a.toList b.toList))
 | _=>none
def aQz (wr:Bool) (op:BinOp):Value->Value->Option (List Prop×Value)
 | .int k a,.int k' b=>match op with
  | .shl=>aHt wr .shl k a b
  | .shr=>aHt wr .shr k a b
  | op=>if k=k' then aHt wr op k a b else none
 | .string a,.string b=>aQy op a b
 | _,_=>none
section
variable {P:Program} {w:World}
theorem Oo {wr:Bool} {op:BinOp} {k k':IntKind} {a b:Int} {cs:List Prop} {r:Value} (h:aHt wr op k a b=some (cs,r)) (hc:eZ cs) (hk:k=k'\/op = .shl\/op = .shr) (T:TypeId) :
  (binOp op T (.int k a) (.int k' b)).run P w = .ok r w/\Hy r:=by
 unfold aHt at h;cases op <;> simp only at h
 case add=>cases wr <;> cases h <;> (obtain rfl:=hk.resolve_right (by simp)) <;> simp_all [binOp,B7,Hy,qA,eZ,lJ]
 case sub=>cases wr <;> cases h <;> (obtain rfl:=hk.resolve_right (by simp)) <;> simp_all [binOp,B7,Hy,qA,eZ,lJ]
 case mul=>cases wr <;> cases h <;> (obtain rfl:=hk.resolve_right (by simp)) <;> simp_all [binOp,B7,Hy,qA,eZ,lJ]
 case quo=>cases h;obtain rfl:=hk.resolve_right (by simp);simp only [eZ] at hc;simp [binOp,Op.intDiv,Hy,hc.1,hc.2.1,lJ]
 case rem=>cases h;obtain rfl:=hk.resolve_right (by simp);simp only [eZ] at hc;simp [binOp,Op.intDiv,Hy,hc.1,hc.2.1]
 case and=>cases h;obtain rfl:=hk.resolve_right (by simp);simp [binOp,JF,Hy,NH,qA]
 case or=>cases h;obtain rfl:=hk.resolve_right (by simp);simp [binOp,JF,Hy,NH,qA]
 case xor=>cases h;obtain rfl:=hk.resolve_right (by simp);simp [binOp,JF,Hy,NH,qA]
 case andNot=>cases h;obtain rfl:=hk.resolve_right (by simp);simp [binOp,JF,Hy,NH,qA]
 case shl=>cases h;simp only [eZ] at hc;have h0:¬ b<0:=(by omega);simp [binOp,Op.shift,Hy,aXl,qA,h0]
 case shr=>cases h;simp only [eZ] at hc;have h0:¬ b<0:=(by omega);simp [binOp,Op.shift,Hy,aQx,h0];exact hc.2.1
 all_goals cases h;obtain rfl:=hk.resolve_right (by simp);simp [binOp,Op.intCmp,Hy]
theorem aHu {op:BinOp} {a b:ByteArray} {cs:List Prop} {r:Value} (h:aQy op a b=some (cs,r)) (hc:eZ cs) (T:TypeId) :
  (binOp op T (.string a) (.string b)).run P w = .ok r w/\Hy r:=by
 unfold aQy at h;cases op <;> simp only at h <;> first | (cases h;done) | cases h
 case add =>
  simp only [eZ] at hc;have h0:¬ ((a.size+b.size:Nat):Int)>9223372036854775807:=by have:=hc.1;unfold maxLen at this;omega
  have h1:¬ (9223372036854775807:Int)<(a.size:Int)+(b.size:Int):=by omega
  simp [binOp,aAF,h1,Hy];exact hc.1
 all_goals simp [binOp,aAF,Hy]
theorem X5 {wr:Bool} {op:BinOp} {u v:Value} {cs:List Prop} {r:Value} (h:aQz wr op u v=some (cs,r)) (hc:eZ cs) (T:TypeId) (x y:Operand) :
  (do eqGuard op T x y u v;binOp op T u v:Sem Value).run P w = .ok r w/\Hy r:=by
 unfold aQz at h;split at h
 ·rename_i k a k' b;rw [eqGuard_at_int];simp only [bO,cM,aW];split at h
  ·exact Oo h hc (.inr (.inl rfl)) T
  ·exact Oo h hc (.inr (.inr rfl)) T
  ·by_cases hk:k=k'
   ·rw [if_pos hk] at h;exact Oo h hc (.inl hk) T
   ·rw [if_neg hk] at h;cases h
 ·rw [eqGuard_at_string];simp only [bO,cM,aW];exact aHu h hc T
 ·cases h
end
def okC:Value->Bool
 | .int k n=>decide (k.min<=n)&&decide (n<=k.max)
 | .string s=>zC s.size 1048576
 | .slice none n c=>cG n 0&&cG c 0
 | .bool _=>true
 | _=>false
theorem aQ0 {v:Value} (h:okC v=true):Hy v:=by
 unfold okC at h;split at h
 ·simp at h;exact h
 ·simp at h;simp only [Hy,maxLen];omega
 ·simp at h;exact h
 ·trivial
 ·cases h
def opnd (E:eD):Operand->PV
 | .tmp t=>E.get t
 | .const v=>match okC v with | true => .a (.val v) | false => .a .junk
 | .func f => .fn f []
 | .global _ => .a .junk
section
variable {n:Nat} {K:jK} {G:Nat->Prop} {w0 w:World} {a:Act} {E:eD} {L:bG} {V:Nat->Value} {own:Nat->List Nat}
theorem bT.opnd (h:bT n K w0 G w a E L V own) (x:Operand):kH w0 G L V (opnd E x) (a.eval x):=by
 cases x with
 | tmp t=>exact h.env t
 | const v =>
  simp only [Am.opnd];cases hc:okC v with
  | true=>exact ⟨rfl,aQ0 hc⟩
  | false=>trivial
 | func f=>exact ⟨[],rfl,rfl⟩
 | global g=>trivial
theorem bT.atom (h:bT n K w0 G w a E L V own) {x:Operand} {A:dD} (hx:Am.opnd E x = .a A):kZ w0 G L V A (a.eval x):=by
 have:=h.opnd x;rw [hx] at this;exact this
theorem bT.valEq (h:bT n K w0 G w a E L V own) {x:Operand} {v:Value} (hx:Am.opnd E x = .a (.val v)):a.eval x=v/\Hy v:=h.atom hx
end
theorem X6 {w:World}:∀ {t:Ty} {x:t.den} {n:Nat} {d:aY} {cs:List Value} {bs:List Nat},aFM t x n=some d->gB w t x cs bs ->
  ∃ o bs',kI t n=some (o,d.t)/\gB w d.t d.x ((cs.drop o).take d.t.size) bs'/\o+d.t.size<=cs.length/\∀ b∈bs',b∈bs
 | .cons a b,x,0,d,cs,bs,h,hr=>by
  obtain ⟨c1,c2,b1,b2,rfl,rfl,h1,h2⟩:=hr;cases h;refine ⟨0,b1,rfl,?_,by rw [aO,h1.length];simp,λb hb=>bQ _ hb⟩;simp only [iS];rw [<- h1.length,jY];exact h1
 | .cons a b,x,n+1,d,cs,bs,h,hr=>by
  obtain ⟨c1,c2,b1,b2,rfl,rfl,h1,h2⟩:=hr;obtain ⟨o,bs',ho,hro,hl,hb⟩:=X6 (t:=b) h h2;refine ⟨a.size+o,bs',by simp [kI,ho],?_,by rw [aO,h1.length];omega,λb hb'=>bF _ (hb b hb')⟩;rw [<- h1.length,oD,jZ (by omega),kU,kQ];exact hro
 | .int _,_,_,_,_,_,h,_=>by cases h
 | .bool,_,_,_,_,_,h,_=>by cases h
 | .fn,_,_,_,_,_,h,_=>by cases h
 | .str,_,_,_,_,_,h,_=>by cases h
 | .sl _,_,_,_,_,_,h,_=>by cases h
 | .unit,_,_,_,_,_,h,_=>by cases h
theorem Ha {α:Type} (l:List α) (o n o' n':Nat) (h:o'+n'<=n):(((l.drop o).take n).drop o').take n'=(l.drop (o+o')).take n':=by
 rw [List.drop_take,GE,mK]
 congr 1
 omega
theorem Lg {w:World}:∀ {p:List Nat} {d0 d:aY} {cs:List Value} {bs:List Nat},J2 p d0=some d->gB w d0.t d0.x cs bs ->
  ∃ o bs',jT p d0.t=some (o,d.t)/\gB w d.t d.x ((cs.drop o).take d.t.size) bs'/\o+d.t.size<=cs.length/\∀ b∈bs',b∈bs
 | [],d0,d,cs,bs,h,hr=>by
  cases h;refine ⟨0,bs,rfl,?_,by rw [hr.length];simp,λ_ h=>h⟩;rw [iS, <- hr.length,gU];exact hr
 | f :: p,d0,d,cs,bs,h,hr=>by
  simp only [J2] at h;split at h
  ·rename_i d1 h1;obtain ⟨o1,b1,ho1,hr1,hl1,hb1⟩:=X6 h1 hr;obtain ⟨o2,b2,ho2,hr2,hl2,hb2⟩:=Lg h hr1;have hl2':o2+d.t.size<=d1.t.size:=by
    rw [hr1.length] at hl2;exact hl2
   refine ⟨o1+o2,b2,by simp [jT,ho1,ho2],?_,by omega,λb hb=>hb1 b (hb2 b hb)⟩;rw [Ha _ _ _ _ _ hl2'] at hr2;exact hr2
  ·cases h
theorem Lh {w:World} {G:Nat->Prop}:∀ {p:List Nat} {d0 d:aY} {cs:List Value},J2 p d0=some d->dW w G d0.t d0.x cs ->
  ∃ o,jT p d0.t=some (o,d.t)/\dW w G d.t d.x ((cs.drop o).take d.t.size)/\o+d.t.size<=cs.length
 | [],d0,d,cs,h,hr=>by
  cases h;refine ⟨0,rfl,?_,by rw [hr.length];simp⟩;rw [iS, <- hr.length,gU];exact hr
 | f :: p,d0,d,cs,h,hr=>by
  simp only [J2] at h;split at h
  ·rename_i d1 h1;obtain ⟨o1,ho1,hr1,hl1⟩:=GY h1 hr;obtain ⟨o2,ho2,hr2,hl2⟩:=Lh h hr1;have hl2':o2+d.t.size<=d1.t.size:=by
    rw [hr1.length] at hl2;exact hl2
   refine ⟨o1+o2,by simp [jT,ho1,ho2],?_,by omega⟩;rw [Ha _ _ _ _ _ hl2'] at hr2;exact hr2
  ·cases h
def aP4:fT->dD
 | .val v => .val v
 | .sl t xs => .sl t xs
 | .osl r rg => .osl r rg
 | .junk => .junk
def aFN:Value->Option (Option Nat)
 | .nilFunc=>some none
 | .func (.func f) x y=>match x.toList,y.toList with
  | [],[]=>some (some f)
  | _,_=>none
 | _=>none
theorem Um {v:Value} {f:Option Nat} (h:aFN v=some f):v=fnV f:=by
 unfold aFN at h;split at h
 ·cases h;rfl
 ·rename_i g x y;split at h
  ·rename_i h1 h2;cases h;have e1:x = #[]:=by cases x;simpa using h1
   have e2:y = #[]:=by cases y;simpa using h2
   rw [e1,e2];rfl
  ·cases h
 ·cases h
def sY:(t:Ty)->List fT->Option t.den
 | .int k,ls=>match ls with
  | [.val (.int k' n)]=>match decide (k=k') with | true=>some n | false=>none
  | _=>none
 | .bool,ls=>match ls with
  | [.val (.bool b)]=>some b
  | _=>none
 | .fn,ls=>match ls with
  | [.val v]=>aFN v
  | _=>none
 | .str,ls=>match ls with
  | [.val (.string s)]=>some s
  | _=>none
 | .sl e,ls=>match ls with
  | [.val (.slice none _ _)]=>some []
  | [.sl t xs]=>if h:t=e then some (h ▸ xs) else none
  | _=>none
 | .unit,ls=>match ls with
  | []=>some ()
  | _=>none
 | .cons a b,ls=>match sY a (ls.take a.size),sY b (ls.drop a.size) with
  | some x,some y=>some (x,y)
  | _,_=>none
def aHv:List fT->Bool
 | []=>false
 | .sl _ _ :: _=>true
 | _ :: r=>aHv r
def aMA (t:Ty) (ls:List fT):Bool := !t.flat && !aHv ls
def aMB (t:Ty) (ls:List fT):Option dD :=
 match t.agg with
 | true=>match aMA t ls,sY t ls with
  | false,some x=>some (.st t x)
  | _,_=>some (.rcd t ls)
 | false=>match ls with
  | [l]=>some (aP4 l)
  | _=>none
def aEx (L:bG) (t:Ty):dD->Option dD
 | .bptr r o t'=>match decide (t'=t),b7 L r with
  | true,some A=>match A.ls with
   | some ls=>aMB t ((ls.drop o).take t.size)
   | none=>none
  | _,_=>none
 | .ptr t' x=>match decide (t'=t) with | true=>some (iG t' x) | false=>none
 | .optr r i p=>match b7 L r with
  | some A=>match J2 p ⟨A.t,A.xs.getD i A.t.dflt⟩ with
   | some d=>match decide (d.t=t)&&(A.bor||d.t.flat) with | true=>some d.atom | false=>none
   | none=>none
  | none=>none
 | _=>none
def Oq (L:bG) (t:Ty) (f:Nat):dD->Option dD
 | .bptr r o t'=>match decide (t'=t),kI t' f with
  | true,some (o',ft)=>some (.bptr r (o+o') ft)
  | _,_=>none
 | .ptr t' x=>match decide (t'=t) with
  | true=>match aFM t' x f with | some d=>some (.ptr d.t d.x) | none=>none
  | false=>none
 | .optr r i p=>match b7 L r with
  | some A=>match jT p A.t with
   | some (_,t')=>match decide (t'=t) with
    | true=>match kI t' f with | some _=>some (.optr r i (p++[f])) | none=>none
    | false=>none
   | none=>none
  | none=>none
 | _=>none
def aBb (t:Ty) (f:Nat):dD->Option dD
 | .rcd t' ls=>match decide (t'=t),kI t f with
  | true,some (o,ft)=>aMB ft ((ls.drop o).take ft.size)
  | _,_=>none
 | .st t' x=>match decide (t'=t) with
  | true=>match aFM t' x f with | some d=>some d.atom | none=>none
  | false=>none
 | _=>none
def Ot (s:ByteArray) (i:Int):Int:=((s.data.toList.getD i.toNat 0).toNat:Int)
def Ou (L:bG) (t:Ty) (n:Int):dD->Option (List Prop×dD)
 | .sl t' xs=>match decide (t'=t) with
  | true=>some ([0<=n,n<(xs.length:Int)],.ptr t' (xs.getD n.toNat t'.dflt))
  | false=>none
 | .osl r rg=>match b7 L r with
  | some A=>match decide (A.t=t) with
   | true=>match rg with
    | none=>some ([0<=n,n<(A.xs.length:Int)],.optr r n.toNat [])
    | some (lo,hi)=>some ([0<=n,n<((hi - lo:Nat):Int)],.optr r (lo+n.toNat) [])
   | false=>none
  | none=>none
 | _=>none
def aQ1 (L:bG):dD->Option Int
 | .val (.string s)=>some (s.size:Int)
 | .val (.slice none _ _)=>some 0
 | .sl _ xs=>some (xs.length:Int)
 | .osl r rg=>match b7 L r with
  | some A=>match rg with
   | none=>some (A.xs.length:Int)
   | some (lo,hi)=>some ((hi - lo:Nat):Int)
  | none=>none
 | _=>none
section
variable {P:Program} {n:Nat} {K:jK} {G:Nat->Prop} {w0 w:World} {a:Act} {E:eD} {L:bG} {V:Nat->Value} {own:Nat->List Nat}
theorem bT.keepG (h:bT n K w0 G w a E L V own) {w':World} (k:cE [] w w'):∀ b,G b->w'.heap[b]? = w0.heap[b]? :=
 (h.ext k).gref
theorem kK.keep {w w':World} {b off:Nat} {cs:List Value} (hb:w'.heap[b]? = w.heap[b]?) (h:kK w b off cs):kK w' b off cs:=h.keepB hb
theorem Ov {A:hY} {v:Value} {bs:List Nat} {b off m cap:Nat} (h:fW w0 G w A v bs) (hv:v = .slice (some ⟨b,off,none⟩) m cap) {i:Nat} {x:A.t.den} (hx:A.xs[i]? = some x) :
  ∃ cs bi,kK w b (off+i*A.t.size) cs/\lO w0 G w A.t A.bor x cs bi/\(∀ k∈bi,k∈bs)/\b∈bs:=by
 rcases h.2 with ⟨_,_,h0,_⟩ | ⟨b',off',cap',cur,ty,fz,bss,h1,h2,h3,h4,h5,h6,h7,h8,h9⟩
 ·rw [h0] at hx;cases hx
 ·rw [h1] at hv;cases hv;have hlt:i<bss.length:=by rw [h7];exact (bH.1 hx).1
  obtain ⟨cs,hl,hc,hr⟩:=h9 i x _ hx (bC hlt);refine ⟨cs,_,λj c hj => ?_,hr,λk hk=>by rw [h8];exact aM _ (oO (bC hlt) k hk),by rw [h8];exact aQ ..⟩;simp only [fQ, h5];exact hc j c hj
theorem oP {α:Type} (xs:List α) (i:Nat) (d:α) (h:i<xs.length):xs[i]? = some (xs.getD i d):=by
 rw [bL,bC h];rfl
theorem kK.sub {w:World} {b off:Nat} {cs:List Value} (h:kK w b off cs) (o m:Nat):kK w b (off+o) ((cs.drop o).take m):=λj c hj=>by
 rw [eY] at hj;split at hj
 ·rw [gL] at hj;rw [dV];exact h _ _ hj
 ·cases hj
theorem xN {t:Ty} {x:t.den} {v:Value} (h:rS w0 G (iG t x) v):kZ w0 G L V (iG t x) v:=by
 cases t <;> exact h
theorem zO:∀ {ls:List fT} {cs:List Value},gV w0 G L V ls cs->cs.length=ls.length
 | [],_,h=>by cases h;rfl
 | _ :: _,_,⟨_,_,h,_,h2⟩=>by subst h;simp [zO h2]
theorem oQ:∀ {ls:List fT} {cs:List Value} (k:Nat),gV w0 G L V ls cs->gV w0 G L V (ls.drop k) (cs.drop k)
 | _,_,0,h=>h
 | [],_,k+1,h=>by cases h;rfl
 | _ :: _,_,k+1,⟨_,_,h,_,h2⟩=>by subst h;exact oQ k h2
theorem oR:∀ {ls:List fT} {cs:List Value} (k:Nat),gV w0 G L V ls cs->gV w0 G L V (ls.take k) (cs.take k)
 | _,_,0,h=>by simp [gV]
 | [],_,k+1,h=>by cases h;rfl
 | _ :: _,_,k+1,⟨v,r,h,h1,h2⟩=>by subst h;exact ⟨v,r.take k,by simp,h1,oR k h2⟩
theorem aFO {l:fT} {v:Value} (h:Oi w0 G L V l v):kZ w0 G L V (aP4 l) v:=by
 cases l with
 | val u=>exact ⟨h.1,h.2.1⟩
 | sl t xs=>exact h
 | osl r rg=>exact h
 | junk=>trivial
theorem jA:∀ {t:Ty} {ls:List fT} {x:t.den} {cs:List Value},gV w0 G L V ls cs->sY t ls=some x->dW w0 G t x cs
 | .int k,ls,x,cs,hr,h=>by
  simp only [sY] at h;split at h
  ·split at h
   ·rename_i hk;obtain rfl:=of_decide_eq_true hk;cases h;obtain ⟨v,r,rfl,⟨rfl,h1,_⟩,h2⟩:=hr;cases h2;exact ⟨rfl,h1⟩
   ·cases h
  ·cases h
 | .bool,ls,x,cs,hr,h=>by
  simp only [sY] at h;split at h
  ·cases h;obtain ⟨v,r,rfl,⟨rfl,h1,_⟩,h2⟩:=hr;cases h2;rfl
  ·cases h
 | .fn,ls,x,cs,hr,h=>by
  simp only [sY] at h;split at h
  ·obtain ⟨v,r,rfl,⟨rfl,h1,_⟩,h2⟩:=hr;cases h2;rw [Um h];rfl
  ·cases h
 | .str,ls,x,cs,hr,h=>by
  simp only [sY] at h;split at h
  ·cases h;obtain ⟨v,r,rfl,⟨rfl,h1,_⟩,h2⟩:=hr;cases h2;exact ⟨rfl,h1⟩
  ·cases h
 | .sl e,ls,x,cs,hr,h=>by
  simp only [sY] at h;split at h
  ·cases h;obtain ⟨v,r,rfl,⟨rfl,⟨h1,h3⟩,_⟩,h2⟩:=hr;cases h2;subst h1 h3;exact ⟨_,rfl,bW _,.inl ⟨_,rfl,rfl⟩⟩
  ·split at h
   ·rename_i ht;subst ht;cases h;obtain ⟨v,r,rfl,h1,h2⟩:=hr;cases h2;exact ⟨v,rfl,h1⟩
   ·cases h
  ·cases h
 | .unit,ls,x,cs,hr,h=>by
  simp only [sY] at h;split at h
  ·cases hr;rfl
  ·cases h
 | .cons a b,ls,x,cs,hr,h=>by
  simp only [sY] at h;split at h
  ·rename_i y z hy hz;cases h;exact ⟨cs.take a.size,cs.drop a.size,(eU _ _).symm,jA (oR _ hr) hy,jA (oQ _ hr) hz⟩
  ·cases h
theorem X7 {t:Ty} {ls:List fT} {cs:List Value} {A:dD} (hr:gV w0 G L V ls cs) (hl:ls.length=t.size) (h:aMB t ls=some A):kZ w0 G L V A (gH t cs):=by
 unfold aMB at h;unfold gH;split at h
 ·rename_i ha;rw [if_pos ha];split at h
  ·rename_i x hk hx;cases h;exact ⟨cs,rfl,jA hr hx⟩
  ·cases h;exact ⟨cs,rfl,hl,hr⟩
 ·rename_i ha;rw [if_neg (by rw [ha];simp)];split at h
  ·rename_i l;cases h;obtain ⟨v,r,rfl,h1,h2⟩:=hr;cases h2;exact aFO h1
  ·cases h
theorem GZ:∀ {t:Ty} {n o:Nat} {ft:Ty},kI t n=some (o,ft)->o+ft.size<=t.size
 | .cons a b,0,o,ft,h=>by cases h;simp [Ty.size]
 | .cons a b,n+1,o,ft,h=>by
  simp only [kI] at h;split at h
  ·rename_i o' t' h1;cases h;have:=GZ h1;simp only [Ty.size];omega
  ·cases h
 | .int _,_,_,_,h=>by cases h
 | .bool,_,_,_,h=>by cases h
 | .fn,_,_,_,h=>by cases h
 | .str,_,_,_,h=>by cases h
 | .sl _,_,_,_,h=>by cases h
 | .unit,_,_,_,h=>by cases h
theorem Ow (hR:bT n K w0 G w a E L V own) {T:TypeId} {t:Ty} (hT:oG P T t) {A A':dD} {u:Value} (hu:kZ w0 G L V A u) (h:aEx L t A=some A') :
  ∃ v,kZ w0 G L V A' v/\∀ w',cE [] w w'->(lD T u).run P w' = .ok v w':=by
 unfold aEx at h;split at h
 ·rename_i r o t';split at h
  ·rename_i B ht hB;obtain rfl:=of_decide_eq_true ht;split at h
   ·rename_i ls hls;obtain ⟨B',ls',b,off,hB',hls',hv,rfl,hsz⟩:=hu;rw [hB] at hB';cases hB';rw [hls] at hls';cases hls';obtain ⟨b1,off1,cs,e1,e3,e4,e5,e6⟩:=hR.boxs r B ls hB hls;rw [hv] at e1;cases e1;have hlen:((ls.drop o).take t'.size).length=t'.size:=by simp;omega
    have hsub:=oR t'.size (oQ o e6);have hb:=(hR.heap r B hB).block hv (aT _);have hlt:=hR.own_lt hB b hb;refine ⟨gH t' ((cs.drop o).take t'.size),X7 hsub hlen h,λw' k => ?_⟩;unfold lD iT;simp only [bO,cM,aW];exact BP hT (by rw [zO hsub,hlen]) ((kK.sub e5 o _).keep (k.block b hlt (by simp)))
   ·cases h
  ·cases h
 ·rename_i t' x;split at h
  ·rename_i ht;obtain rfl:=of_decide_eq_true ht;cases h;obtain ⟨b,off,cs,rfl,hb,hc,hr⟩:=hu;refine ⟨gH t' cs,xN hr.repB,λw' k => ?_⟩
   ·unfold lD iT;simp only [bO,cM,aW];exact BP hT hr.length (hc.keep (hR.keepG k b hb))
  ·cases h
 ·rename_i r i p;split at h
  ·rename_i B hB;split at h
   ·rename_i d hd;split at h
    ·rename_i hdt;simp only [aJ,decide_eq_true_eq] at hdt;obtain ⟨hdt,hfl⟩:=hdt;cases h;obtain ⟨B',hB',hi,b,off,m,cap,po,t',hv,hp,rfl⟩:=hu;rw [hB] at hB';cases hB';have hown:=hR.heap r B hB;obtain ⟨cs,bi,hc,ho,hsub,hb⟩:=Ov hown hv (oP B.xs i B.t.dflt hi);have hrep:dW w0 G d.t d.x ((cs.drop po).take d.t.size)/\t'=d.t:=by
      revert ho hfl;unfold lO;cases hbor:B.bor with
      | true =>
       intro hfl ho;obtain ⟨o,ho1,ho2,ho3⟩:=Lh hd ho.1;rw [hp] at ho1;cases ho1;exact ⟨ho2,rfl⟩
      | false =>
       intro hfl ho;obtain ⟨o,bs',ho1,ho2,ho3,ho4⟩:=Lg hd ho;rw [hp] at ho1;cases ho1;exact ⟨(ho2.flat (w':=w0) (G:=G) (by simpa using hfl)).1,rfl⟩
     obtain ⟨hrep,rfl⟩:=hrep;have hblt:b<w.heap.size:=hown.lt b hb;refine ⟨gH d.t ((cs.drop po).take d.t.size),xN hrep.repB,λw' k => ?_⟩
     ·unfold lD iT;simp only [bO,cM,aW];subst hdt;exact BP hT hrep.length ((hc.sub po _).keep (k.block b hblt (by simp)))
    ·cases h
   ·cases h
  ·cases h
 ·cases h
theorem J3:∀ {p:List Nat} {t t' t'':Ty} {o o' f:Nat},jT p t=some (o,t')->kI t' f=some (o',t'')->jT (p++[f]) t=some (o+o',t'')
 | [],t,t',t'',o,o',f,h,h2=>by cases h;simp [jT,h2]
 | g :: p,t,t',t'',o,o',f,h,h2=>by
  simp only [jT] at h;split at h
  ·rename_i o1 t1 h1;split at h
   ·rename_i o2 t2 h3;cases h;have:=J3 h3 h2;simp [jT,h1,this,dV]
   ·cases h
  ·cases h
theorem SR {S:TypeId} {t:Ty} (hS:Ea P S (.struct t)) {f:Nat} {A A':dD} {u:Value} (hu:kZ w0 G L V A u) (h:Oq L t f A=some A') :
  ∃ v,kZ w0 G L V A' v/\∀ w',(Hm S u f).run P w' = .ok v w':=by
 unfold Oq at h;split at h
 ·rename_i r o t';split at h
  ·rename_i o' ft ht ho;obtain rfl:=of_decide_eq_true ht;cases h;obtain ⟨B,ls,b,off,hB,hls,hv,rfl,hsz⟩:=hu;have hle:=GZ ho;refine ⟨_,⟨B,ls,b,off,hB,hls,hv,rfl,by omega⟩,λw' => ?_⟩;rw [En hS ho b (off+o),dV]
  ·cases h
 ·rename_i t' x;split at h
  ·rename_i ht;obtain rfl:=of_decide_eq_true ht;split at h
   ·rename_i d hd;cases h;obtain ⟨b,off,cs,rfl,hb,hc,hr⟩:=hu;obtain ⟨o,ho,hr',hl⟩:=GY hd hr;exact ⟨_,⟨b,off+o,_,rfl,hb,hc.sub o _,hr'⟩,λw'=>En hS ho b off⟩
   ·cases h
  ·cases h
 ·rename_i r i p;split at h
  ·rename_i B hB;split at h
   ·rename_i po t' hp;split at h
    ·rename_i ht;obtain rfl:=of_decide_eq_true ht;split at h
     ·rename_i y hy;obtain ⟨o',t''⟩:=y;cases h;obtain ⟨B',hB',hi,b,off,m,cap,po',t2,hv,hp',rfl⟩:=hu;rw [hB] at hB';cases hB';rw [hp] at hp';cases hp';refine ⟨_,⟨B,hB,hi,b,off,m,cap,po+o',t'',hv,J3 hp hy,rfl⟩,λw' => ?_⟩;have:=En (P:=P) (w:=w') hS hy b (off+i*B.t.size+po);rw [this];simp [dV]
     ·cases h
    ·cases h
   ·cases h
  ·cases h
 ·cases h
theorem X8 {S:TypeId} {t:Ty} (hS:Ea P S (.struct t)) {f:Nat} {A A':dD} {u:Value} (hu:kZ w0 G L V A u) (h:aBb t f A=some A') :
  ∃ v,kZ w0 G L V A' v/\∀ w',(Nl S u f).run P w' = .ok v w':=by
 unfold aBb at h;split at h
 ·rename_i t' ls;split at h
  ·rename_i o ft ht ho;obtain rfl:=of_decide_eq_true ht;obtain ⟨cs,rfl,hl,hr⟩:=hu;have hle:=GZ ho;have hcl:=zO hr;exact ⟨gH ft ((cs.drop o).take ft.size),X7 (oR _ (oQ _ hr)) (by simp;omega) h,λw'=>TL hS ho cs (by omega)⟩
  ·cases h
 ·rename_i t' x;split at h
  ·rename_i ht;obtain rfl:=of_decide_eq_true ht;split at h
   ·rename_i d hd;cases h;obtain ⟨cs,rfl,hr⟩:=hu;obtain ⟨o,ho,hr',hl⟩:=GY hd hr;exact ⟨gH d.t ((cs.drop o).take d.t.size),xN hr'.repB,λw'=>TL hS ho cs hl⟩
   ·cases h
  ·cases h
 ·cases h
theorem SS {T e:TypeId} {t:Ty} {by':Nat} (hT:Ea P T (.slice e t by')) {k:IntKind} {i:Int} {A A':dD} {cs:List Prop} {u:Value} (hu:kZ w0 G L V A u)
  (h:Ou L t i A=some (cs,A')) (hc:eZ cs) :
  ∃ v,kZ w0 G L V A' v/\∀ w',(CB T u (.int k i)).run P w' = .ok v w':=by
 unfold Ou at h;split at h
 ·rename_i t' xs;split at h
  ·rename_i ht;obtain rfl:=of_decide_eq_true ht;cases h;simp only [eZ] at hc;obtain ⟨h0,h1,_⟩:=hc;rcases hu.2 with ⟨_,_,rfl⟩ | ⟨b,off,cap,rfl,_,_,hb,hx⟩
   ·simp at h1;omega
   ·have hlt:i.toNat<xs.length:=by omega
    obtain ⟨cs,hl,hc,hr⟩:=hx i.toNat _ (oP xs i.toNat t'.dflt hlt);exact ⟨_,⟨b,off+i.toNat*t'.size,cs,rfl,hb,hc,hr⟩,λw'=>NG hT b off _ cap h0 h1⟩
  ·cases h
 ·rename_i r rg;split at h
  ·rename_i B hB;split at h
   ·rename_i ht;have ht:=of_decide_eq_true ht;obtain ⟨B',hB',_,hs1,hs2,hs3⟩:=hu;rw [hB] at hB';cases hB';have key:∀ (lo hi:Nat),uM rg=lo->Cx B.xs.length rg=hi->0<=i->i<((hi - lo:Nat):Int) ->
      ∃ v,kZ w0 G L V (.optr r (lo+i.toNat) []) v/\∀ w',(CB T u (.int k i)).run P w' = .ok v w':=by
     intro lo hi hlo hhi h0 h1;rw [hlo,hhi] at hs1 hs3;rw [hhi] at hs2;rcases hs3 with ⟨_,_,_,_,h3⟩ | ⟨b,off,m,cap,o,c,hv,rfl,hle,hcase⟩
     ·omega
     ·have hcase:=(hcase.resolve_right (by omega)).1;subst hcase;subst ht;refine ⟨_,⟨B,hB,by omega,b,off,m,cap,0,B.t,hv,rfl,rfl⟩,λw' => ?_⟩;rw [NG hT b (off+lo*B.t.size) (hi - lo) c h0 h1,lE,dL,dV]
    split at h
    ·cases h;simp only [eZ] at hc;have:=key 0 B.xs.length rfl rfl hc.1 (by simpa using hc.2.1)
     rwa [cV] at this
    ·cases h;simp only [eZ] at hc;exact key _ _ rfl rfl hc.1 hc.2.1
   ·cases h
  ·cases h
 ·cases h
end
def J4:Option (IntKind×Int)->Option Value
 | none=>none
 | some (k,n)=>some (.int k n)
def H1:Option (IntKind×Int)->Option Int
 | some (_,n)=>some n
 | none=>none
theorem ET {P:Program} {w:World} (isS:Bool) (len cap:Nat) (lo hi:Option (IntKind×Int)) (hlc:len<=cap) {l h:Int}
  (hl:l=(H1 lo).getD 0) (hh:h=(H1 hi).getD len) (h0:0<=l) (h1:l<=h) (h2:h<=len) :
  (Ky isS len cap (J4 lo) (J4 hi) none).run P w = .ok (l.toNat,h.toNat,cap) w:=by
 have hcap:h<=(cap:Int):=by omega
 unfold Ky;cases lo with
 | none=>cases hi with
  | none=>simp only [H1,xX] at hl hh;subst hl hh;simp [J4]
  | some y =>
   obtain ⟨k,m⟩:=y;simp only [H1,xX] at hl hh;subst hl hh;simp [J4,run_sliceBound (P:=P) w k h cap _ h1 hcap]
 | some x =>
  obtain ⟨k,m⟩:=x;simp only [H1,xX] at hl;subst hl;cases hi with
  | none =>
   simp only [H1,xX] at hh;subst hh;simp [J4,run_sliceBound (P:=P) w k l len _ h0 h1]
  | some y =>
   obtain ⟨k',m'⟩:=y;simp only [H1,xX] at hh;subst hh;have e:(h.toNat:Int)=h:=by omega
   simp [J4,run_sliceBound (P:=P) w k' h cap _ (by omega) hcap,run_sliceBound (P:=P) w k l h.toNat _ h0 (by omega)]
def IA (len:Int):Option Int->Option Int->List Prop×Int×Int
 | none,none=>([],0,len)
 | some l,none=>([0<=l,l<=len],l,len)
 | none,some h=>([0<=h,h<=len],0,h)
 | some l,some h=>([0<=l,l<=h,h<=len],l,h)
def aMC {α:Type} (xs:List α):Option Int->Option Int->List α
 | none,none=>xs
 | some l,none=>xs.drop l.toNat
 | none,some h=>xs.take h.toNat
 | some l,some h=>(xs.take h.toNat).drop l.toNat
def aBc (L:bG) (lo hi:Option Int):dD->Option (List Prop×dD)
 | .val (.string s)=>match IA s.size lo hi with
  | (cs,l,h)=>some (cs,.val (.string (s.extract l.toNat h.toNat)))
 | .sl t xs=>match IA xs.length lo hi with
  | (cs,_,_)=>some (cs,.sl t (aMC xs lo hi))
 | .osl r rg=>match b7 L r with
  | some A=>match IA ((Cx A.xs.length rg - uM rg:Nat):Int) lo hi with
   | (cs,l,h)=>some (cs,.osl r (some (uM rg+l.toNat,uM rg+h.toNat)))
  | none=>none
 | _=>none
theorem G3 {len:Nat} {lo hi:Option Int} {cs:List Prop} {l h:Int} (hb:IA len lo hi=(cs,l,h)) (hc:eZ cs) :
  0<=l/\l<=h/\h<=len/\l=lo.getD 0/\h=hi.getD len:=by
 unfold IA at hb;split at hb <;> cases hb <;> simp_all [eZ]
theorem aHw {α:Type} {xs:List α} {lo hi:Option Int} {cs:List Prop} {l h:Int} (hb:IA xs.length lo hi=(cs,l,h)) (hc:eZ cs) :
  (aMC xs lo hi).length=h.toNat - l.toNat/\∀ i y,(aMC xs lo hi)[i]? = some y->xs[l.toNat+i]? = some y:=by
 obtain ⟨h0,h1,h2,hl,hh⟩:=G3 hb hc;unfold aMC;split <;> simp only [xX] at hl hh <;> subst hl hh
 ·refine ⟨?_,λi y hy => ?_⟩ <;> simp_all
 ·refine ⟨by simp <;> omega,λi y hy=>by rw [gL] at hy;exact hy⟩
 ·refine ⟨by simp <;> omega,λi y hy => ?_⟩;rw [eY] at hy;split at hy
  ·simpa using hy
  ·cases hy
 ·refine ⟨by simp <;> omega,λi y hy => ?_⟩;rw [gL,eY] at hy;split at hy
  ·exact hy
  ·cases hy
section
variable {P:Program} {n:Nat} {K:jK} {G:Nat->Prop} {w0 w:World} {a:Act} {E:eD} {L:bG} {V:Nat->Value} {own:Nat->List Nat}
theorem pW {T e:TypeId} {t:Ty} {by':Nat} (hT:Ea P T (.slice e t by')) (w:World) (adr:Option Addr) (len cap:Nat) (lo hi:Option (IntKind×Int)) (hlc:len<=cap) {l h:Int}
  (hl:l=(H1 lo).getD 0) (hh:h=(H1 hi).getD len) (h0:0<=l) (h1:l<=h) (h2:h<=len) :
  (xG T (.slice adr len cap) (J4 lo) (J4 hi) none).run P w = .ok (.slice (if cap=l.toNat then adr else adr.map (·.add (l.toNat*t.size))) (h.toNat - l.toNat) (cap - l.toNat)) w:=by
 obtain ⟨_,hu,he,_⟩:=hT;have hb:=ET (P:=P) (w:=w) true len cap lo hi hlc hl hh h0 h1 h2;unfold xG aAH;simp only [bO,run_underlying hu,aW,hb,he.size_run,cM]
theorem IB {T:TypeId} (hT:oG P T .str) (w:World) (s:ByteArray) (lo hi:Option (IntKind×Int)) {l h:Int}
  (hl:l=(H1 lo).getD 0) (hh:h=(H1 hi).getD s.size) (h0:0<=l) (h1:l<=h) (h2:h<=s.size) :
  (xG T (.string s) (J4 lo) (J4 hi) none).run P w = .ok (.string (s.extract l.toNat h.toNat)) w:=by
 obtain ⟨d,hd,hf⟩:=hT.und;have hd':d = .string:=by cases d <;> simp [uQ] at hf;rfl
 subst hd';have hb:=ET (P:=P) (w:=w) false s.size s.size lo hi (aT _) hl hh h0 h1 h2;unfold xG aAH;simp [run_underlying hd,hb]
theorem OB (s:ByteArray) (l h:Nat):(s.extract l h).size<=s.size:=by
 rw [pB];omega
theorem zP (x y:Nat):uM (some (x,y))=x:=rfl
theorem zQ (n x y:Nat):Cx n (some (x,y))=y:=rfl
def aMD (L:bG) (ti:TI):dD->Prop
 | .sl t _=>∃ e b,ti = .slice e t b
 | .osl r _=>∃ B,b7 L r=some B/\∃ e b,ti = .slice e B.t b
 | .val (.string _)=>ti = .scal .str
 | _=>True
def aEy (ti:TI):dD->Prop
 | .val (.string _)=>ti = .scal .str
 | _=>∃ e t b,ti = .slice e t b
theorem X9 {T:TypeId} {ti:TI} (hT:Ea P T ti) (hok:(∃ e t b,ti = .slice e t b)\/ti = .scal .str) {lo hi:Option (IntKind×Int)} {A A':dD} {cs:List Prop} {u:Value} (hu:kZ w0 G L V A u)
  (hty:aMD L ti A)
  (h:aBc L (H1 lo) (H1 hi) A=some (cs,A')) (hc:eZ cs) :
  ∃ v,kZ w0 G L V A' v/\∀ w',(xG T u (J4 lo) (J4 hi) none).run P w' = .ok v w':=by
 unfold aBc at h;split at h
 ·rename_i s;simp only [aMD,aEy] at hty;subst hty;split at h;rename_i cs' l h' hb;cases h;obtain ⟨h0,h1,h2,hl,hh⟩:=G3 hb hc;obtain ⟨rfl,hs⟩:=hu;exact ⟨_,⟨rfl,cO (OB _ _ _) hs⟩,λw'=>IB hT w' s lo hi hl hh h0 h1 h2⟩
 ·rename_i t xs;obtain ⟨e,b,rfl⟩:=hty;split at h;rename_i cs' l h' hb;cases h;obtain ⟨h0,h1,h2,hl,hh⟩:=G3 hb hc;obtain ⟨hlen,b7⟩:=aHw hb hc;rcases hu.2 with ⟨ad,rfl,rfl⟩ | ⟨b',off,cap,rfl,h3,h4,h5,h6⟩
  ·refine ⟨.slice ad 0 0,⟨by rw [hlen];simp at h2;unfold maxLen;omega,.inl ⟨ad,rfl,b5 (by rw [hlen];simp at h2;omega)⟩⟩,λw' => ?_⟩;simp at h2;have e0:l=0:=by omega
   have e1:h'=0:=by omega
   subst e0 e1;rw [pW hT w' ad 0 0 lo hi (aT _) hl hh h0 h1 h2];rfl
  ·refine ⟨_,⟨?_,.inr ⟨b',if cap=l.toNat then off else off+l.toNat*t.size,cap - l.toNat,rfl,?_,?_,h5,?_⟩⟩,λw' => ?_⟩
   ·have:=hu.1;rw [hlen];omega
   ·rw [hlen];omega
   ·omega
   ·intro i y hy;have hi:i<h'.toNat - l.toNat:=by rw [<- hlen];exact (bH.1 hy).1
    obtain ⟨cs,hl',hc',hr'⟩:=h6 _ y (b7 i y hy);refine ⟨cs,hl',λj c hj => ?_,hr'⟩;rw [if_neg (by omega)];have:=hc' j c hj
    rwa [dL, <- dV] at this
   ·rw [pW hT w' _ xs.length cap lo hi h3 hl hh h0 h1 h2,hlen];by_cases hcl:cap=l.toNat
    ·rw [if_pos hcl,if_pos hcl]
    ·rw [if_neg hcl,if_neg hcl];simp [fH]
 ·rename_i r rg;obtain ⟨B,hB,e,b,rfl⟩:=hty;obtain ⟨B',hB',_,hs1,hs2,hs3⟩:=hu;rw [hB] at hB';cases hB';rw [hB] at h;obtain ⟨cs',l,h',hb⟩:∃ cs' l h',IA ((Cx B.xs.length rg - uM rg:Nat):Int) (H1 lo) (H1 hi)=(cs',l,h'):=⟨_,_,_,rfl⟩;simp only [hb] at h;cases h;obtain ⟨h0,h1,h2,hl,hh⟩:=G3 hb hc;rcases hs3 with ⟨ad,ad',hV,rfl,hz⟩ | ⟨b',off,m,cap,o,c,hV,rfl,hle,hcase⟩
  ·have e2:Cx B.xs.length rg - uM rg=0:=by omega
   rw [e2] at h2 hh;have e0:l=0:=by omega
   have e1:h'=0:=by omega
   subst e0 e1;refine ⟨_,⟨B,hB,(λh=>by cases h),?_,?_,.inl ⟨ad,ad',hV,rfl,hz⟩⟩,λw' => ?_⟩
   ·simp only [zP,zQ];simp
   ·simp only [zQ];simp;omega
   ·rw [pW hT w' ad' 0 0 lo hi (aT _) hl hh h0 h1 h2];rfl
  ·refine ⟨_,⟨B,hB,(λh=>by cases h),?_,?_,.inr ⟨b',off,m,cap,if c=l.toNat then o else o+l.toNat*B.t.size,c - l.toNat,hV,rfl,?_,?_⟩⟩,λw' => ?_⟩
   ·simp only [zP,zQ];omega
   ·simp only [zQ];omega
   ·simp only [zP,zQ];omega
   ·by_cases hcl:c=l.toNat
    ·right;refine ⟨by omega,?_⟩;rw [if_pos hcl];rcases hcase with ⟨ho,hcap⟩ | ⟨_,ho⟩
     ·rw [ho];exact Nat.add_le_add_left (dA _ (by omega)) _
     ·exact ho
    ·left;rw [if_neg hcl];obtain ⟨ho,hcap⟩:=hcase.resolve_right (by omega);refine ⟨?_,?_⟩
     ·rw [ho];simp only [zP,dL,dV]
     ·simp only [zP];omega
   ·rw [pW hT w' _ _ c lo hi hle hl hh h0 h1 h2];simp only [zP,zQ];have e3:uM rg+h'.toNat - (uM rg+l.toNat)=h'.toNat - l.toNat:=by omega
    rw [e3];by_cases hcl:c=l.toNat
    ·rw [if_pos hcl,if_pos hcl]
    ·rw [if_neg hcl,if_neg hcl];simp [fH]
 ·cases h
theorem aFP (hR:bT n K w0 G w a E L V own) {T:TypeId} {ti:TI} (hT:Ea P T ti) (hok:(∃ e t b,ti = .slice e t b)\/ti = .scal .str) {A:dD} {i:Int} {u:Value} (hu:kZ w0 G L V A u) (h:aQ1 L A=some i)
  (hty:aEy ti A) (ty:TypeId) :
  Hy (.int .i64 i)/\∀ w',(Dp #[T] ty #[u]).run P w' = .ok (.int .i64 i) w':=by
 have slrun:∀ (e:TypeId) (t:Ty) (b:Nat),ti = .slice e t b->∀ (adr:Option Addr) (l c:Nat) (w':World),(Dp #[T] ty #[.slice adr l c]).run P w' = .ok (.int .i64 l) w':=by
  rintro e t b rfl adr l c w';obtain ⟨_,hu,_,_⟩:=hT;simp [Dp,run_underlying hu,goInt]
 have i64:∀ m:Nat,m<=maxLen->Hy (.int .i64 (m:Int)):=by
  intro m hm;unfold maxLen at hm;simp [Hy,cC,oI,oJ,mY,kO];omega
 unfold aQ1 at h;split at h
 ·rename_i s;cases h;simp only [aMD,aEy] at hty;subst hty;obtain ⟨rfl,hs⟩:=hu;refine ⟨i64 _ hs,λw' => ?_⟩;obtain ⟨d,hd,hf⟩:=hT.und;have hd':d = .string:=by cases d <;> simp [uQ] at hf;rfl
  subst hd';simp [Dp,run_underlying hd,goInt]
 ·cases h;obtain ⟨e,t,b,rfl⟩:=hty;obtain ⟨rfl,h1,h2⟩:=hu;subst h1;exact ⟨i64 0 (bW _),λw'=>slrun e t b rfl _ _ _ w'⟩
 ·rename_i t xs;cases h;obtain ⟨e,t',b,rfl⟩:=hty;refine ⟨i64 _ hu.1,λw' => ?_⟩;rcases hu.2 with ⟨ad,rfl,rfl⟩ | ⟨b',off,cap,rfl,_⟩
  ·exact slrun e t' b rfl _ _ _ w'
  ·exact slrun e t' b rfl _ _ _ w'
 ·rename_i r rg;obtain ⟨e,t',b,rfl⟩:=hty
  try simp only at h
  split at h
  ·rename_i B hB;obtain ⟨B',hB',_,hs1,hs2,hs3⟩:=hu;rw [hB] at hB';cases hB';have hown:=hR.heap r B hB;have hwf:=hown.len;have key:i=((Cx B.xs.length rg - uM rg:Nat):Int):=by
    split at h <;> cases h <;> simp [uM,Cx]
   subst key;refine ⟨i64 _ (by omega),λw' => ?_⟩;rcases hs3 with ⟨ad,ad',hV,rfl,hz⟩ | ⟨b',off,m,cap,o,c,hV,rfl,hle,hcase⟩
   ·have e2:Cx B.xs.length rg - uM rg=0:=by omega
    rw [e2];exact slrun e t' b rfl _ _ _ w'
   ·exact slrun e t' b rfl _ _ _ w'
  ·cases h
 ·cases h
end
def BF:(t:Ty)->dD->Option t.den
 | .int k,.val (.int k' n)=>match decide (k=k') with | true=>some n | false=>none
 | .bool,.val (.bool b)=>some b
 | .fn,.val v=>aFN v
 | .str,.val (.string s)=>some s
 | .sl _,.val (.slice none _ _)=>some []
 | .sl e,.sl t xs=>if h:t=e then some (h ▸ xs) else none
 | .unit,.st t x=>if h:t = .unit then some () else none
 | .cons a b,.st t x=>if h:t = .cons a b then some (h ▸ x) else none
 | _,_=>none
theorem zR {w:World} {G:Nat->Prop}:∀ {t:Ty} {A:dD} {x:t.den} {v:Value},rS w G A v->BF t A=some x->∃ cs,dW w G t x cs/\v=gH t cs
 | .int k,A,x,v,hr,h=>by
  cases A with
  | val u=>cases u with
   | int k' n =>
    simp only [BF] at h;split at h
    ·rename_i hd;have:=of_decide_eq_true hd;cases h;obtain ⟨rfl,ho⟩:=hr;subst this;exact ⟨_,⟨rfl,ho⟩,rfl⟩
    ·cases h
   | _=>cases h
  | _=>cases h
 | .bool,A,x,v,hr,h=>by
  cases A with
  | val u=>cases u with
   | bool b=>cases h;obtain ⟨rfl,ho⟩:=hr;exact ⟨_,rfl,rfl⟩
   | _=>cases h
  | _=>cases h
 | .fn,A,x,v,hr,h=>by
  cases A with
  | val u =>
   obtain ⟨rfl,ho⟩:=hr;exact ⟨_,rfl,by rw [Um (show aFN _=some x from h)];cases x <;> rfl⟩
  | _=>cases h
 | .str,A,x,v,hr,h=>by
  cases A with
  | val u=>cases u with
   | string b=>cases h;obtain ⟨rfl,ho⟩:=hr;exact ⟨_,⟨rfl,ho⟩,rfl⟩
   | _=>cases h
  | _=>cases h
 | .sl e,A,x,v,hr,h=>by
  cases A with
  | val u=>cases u with
   | slice b n c=>cases b with
    | none =>
     cases h;obtain ⟨rfl,h1,h2⟩:=hr;subst h1 h2;exact ⟨_,⟨_,rfl,bW _,.inl ⟨_,rfl,rfl⟩⟩,rfl⟩
    | some b=>cases h
   | _=>cases h
  | sl t xs =>
   simp only [BF] at h;split at h
   ·rename_i ht;subst ht;cases h;exact ⟨_,⟨v,rfl,hr⟩,rfl⟩
   ·cases h
  | _=>cases h
 | .unit,A,x,v,hr,h=>by
  cases A with
  | st t y =>
   simp only [BF] at h;split at h
   ·rename_i ht;subst ht;cases h;obtain ⟨cs,rfl,hc⟩:=hr;exact ⟨cs,hc,rfl⟩
   ·cases h
  | val u=>cases u <;> cases h
  | _=>cases h
 | .cons a b,A,x,v,hr,h=>by
  cases A with
  | st t y =>
   simp only [BF] at h;split at h
   ·rename_i ht;subst ht;cases h;obtain ⟨cs,rfl,hc⟩:=hr;exact ⟨cs,hc,rfl⟩
   ·cases h
  | val u=>cases u <;> cases h
  | _=>cases h
def aHx:(t:Ty)->t.den->Nat->dD->Option t.den
 | .cons a _,x,0,A=>match BF a A with | some y=>some (y,x.2) | none=>none
 | .cons _ b,x,n+1,A=>match aHx b x.2 n A with | some y=>some (x.1,y) | none=>none
 | _,_,_,_=>none
def fJ (cs:List Value) (o:Nat) (c:List Value):List Value:=cs.take o++c++cs.drop (o+c.length)
theorem TM {w:World} {G:Nat->Prop} {A:dD} {v:Value} (hA:∀ t (x:t.den),BF t A=some x->rS w G A v):∀ {t:Ty} {x x':t.den} {n:Nat} {cs:List Value},aHx t x n A=some x'->dW w G t x cs ->
  ∃ o ft c,kI t n=some (o,ft)/\v=gH ft c/\(∃ y,dW w G ft y c)/\o+ft.size<=cs.length/\dW w G t x' (fJ cs o c)
 | .cons a b,x,x',0,cs,h,hr=>by
  obtain ⟨c1,c2,rfl,h1,h2⟩:=hr;simp only [aHx] at h;split at h
  ·rename_i y hy;cases h;obtain ⟨c,hc,hv⟩:=zR (hA _ _ hy) hy;refine ⟨0,a,c,rfl,hv,⟨y,hc⟩,by rw [aO,h1.length];omega,c,c2,?_,hc,h2⟩;simp [fJ,hc.length, <- h1.length]
  ·cases h
 | .cons a b,x,x',n+1,cs,h,hr=>by
  obtain ⟨c1,c2,rfl,h1,h2⟩:=hr;simp only [aHx] at h;split at h
  ·rename_i y hy;cases h;obtain ⟨o,ft,c,ho,hv,hl,hle,hc⟩:=TM hA (t:=b) hy h2;refine ⟨a.size+o,ft,c,by simp [kI,ho],hv,hl,by rw [aO,h1.length];omega,c1,fJ c2 o c,?_,h1,hc⟩;simp [fJ, <- h1.length,Cf,oD,fR,dV]
  ·cases h
 | .int _,_,_,_,_,h,_=>by cases h
 | .bool,_,_,_,_,h,_=>by cases h
 | .fn,_,_,_,_,h,_=>by cases h
 | .str,_,_,_,_,h,_=>by cases h
 | .sl _,_,_,_,_,h,_=>by cases h
 | .unit,_,_,_,_,h,_=>by cases h
def Li (t:Ty):t.den->List (Nat×PV)->Option t.den
 | x,[]=>some x
 | x,(n,.a A) :: r=>match aHx t x n A with | some y=>Li t y r | none=>none
 | _,_=>none
theorem iK (w:World) (G:Nat->Prop):∀ t:Ty,dW w G t t.dflt (eF t)
 | .int k=>⟨rfl,by cases k <;> simp [cC,oI,oJ,mY,kO,Ty.dflt]⟩
 | .bool=>rfl
 | .fn=>rfl
 | .str=>⟨rfl,bW _⟩
 | .sl e=>⟨_,rfl,bW _,.inl ⟨_,rfl,rfl⟩⟩
 | .unit=>rfl
 | .cons a b=>⟨_,_,rfl,iK w G a,iK w G b⟩
theorem Xa (cells:Array Value) (off:Nat) (c:List Value) (h:off+c.length<=cells.size) :
  (c.toArray.zipIdx.foldl (λcs (x:Value×Nat)=>cs.setIfInBounds (off+x.2) x.1) cells).toList=fJ cells.toList off c:=by
 have key:∀ (c:List Value) (k:Nat) (cells:Array Value),off+k+c.length<=cells.size ->
   ((c.zipIdx k).foldl (λcs (x:Value×Nat)=>cs.setIfInBounds (off+x.2) x.1) cells).toList=cells.toList.take (off+k)++c++cells.toList.drop (off+k+c.length):=by
  intro c
  induction c with
  | nil=>intro k cells h;simp
  | cons v r ih =>
   intro k cells h;simp only [bA] at h;simp only [List.zipIdx_cons,List.foldl_cons];rw [ih (k+1) _ (by simp;omega)];simp only [Ao];have h1:off+(k+1)=off+k+1:=by omega
   have hlt:off+k<cells.toList.length:=by rw [cT];omega
   rw [h1,gY];simp only [Dq hlt,tU,bS,oC,kU,bA];rw [H2 (aT _),H3 (by omega)];rw [show off+k+1+r.length=off+k+(r.length+1) from by omega]
 have:=key c 0 cells (by simpa using h);simpa [fJ] using this
section
variable {P:Program}
theorem Lj (place:Nat->Option (Nat×Nat)) (cells:List Value) (n o:Nat) (v:Value) (c:List Value) (sz:Nat) (rest:List (Nat×Value)) (hp:place n=some (o,sz)) (hv:v.cells.toList=c) (hl:c.length=sz) (hle:o+sz<=cells.length) :
  qX place cells.toArray ((n,v) :: rest)=qX place (fJ cells o c).toArray rest:=by
 have hs:v.cells.size=sz:=by rw [<- cT,hv,hl]
 have hcs:v.cells=c.toArray:=by rw [<- hv]
 simp only [qX,hp,hs];rw [if_neg (by simp;omega)]
 congr 1
 rw [hcs];have h3:=Xa cells.toArray o c (by simp;omega);have h4:=congrArg kL h3;simpa using h4
theorem qB {t:Ty} {cs:List Value} {w:World} {G:Nat->Prop} {x:t.den} (h:dW w G t x cs):(gH t cs).cells.toList=cs:=by
 unfold gH;by_cases ha:t.agg=true
 ·rw [if_pos ha];simp [mX]
 ·rw [if_neg ha];have h1:t.size=1:=by cases t <;> simp_all [Ty.agg,Ty.size]
  have hl:=h.length;rw [h1] at hl
  match cs,hl with
  | [c],_ =>
   cases t with
   | int k=>obtain ⟨h,_⟩:=h;cases h;rfl
   | bool=>cases h;rfl
   | fn=>cases h;cases x <;> rfl
   | str=>obtain ⟨h,_⟩:=h;cases h;rfl
   | sl e =>
    obtain ⟨v,h,h2⟩:=h;cases h;rcases h2.2 with ⟨_,rfl,_⟩ | ⟨b,off,cap,rfl,_⟩ <;> rfl
   | unit=>simp [Ty.agg] at ha
   | cons a b=>simp [Ty.agg] at ha
def CT (w:World) (G:Nat->Prop):List (Nat×PV)->List (Nat×Value)->Prop
 | [],vs=>vs=[]
 | p :: r,vs=>∃ v s,vs=(p.1,v) :: s/\(∀ A,p.2 = .a A->∀ t (x:t.den),BF t A=some x->rS w G A v)/\CT w G r s
theorem NI {w:World} {G:Nat->Prop} {t:Ty} {place:Nat->Option (Nat×Nat)} (hpl:∀ n o ft,kI t n=some (o,ft)->place n=some (o,ft.size)) :
  ∀ {parts:List (Nat×PV)} {vs:List (Nat×Value)} {x x':t.den} {cs:List Value},Li t x parts=some x'->CT w G parts vs->dW w G t x cs ->
  ∃ cs',qX place cs.toArray vs=some cs'.toArray/\dW w G t x' cs'
 | [],vs,x,x',cs,h,hv,hr=>by
  cases hv;cases h;exact ⟨cs,rfl,hr⟩
 | (n,.a A) :: r,vs,x,x',cs,h,hv,hr=>by
  obtain ⟨v,s,rfl,h1,h2⟩:=hv;simp only [Li] at h;split at h
  ·rename_i y hy;obtain ⟨o,ft,c,ho,hvc,⟨z,hz⟩,hle,hrep⟩:=TM (h1 A rfl) hy hr;obtain ⟨cs',hf,hr'⟩:=NI hpl h h2 hrep;refine ⟨cs',?_,hr'⟩;rw [Lj place cs n o v c ft.size s (hpl n o ft ho) (by rw [hvc];exact qB hz) hz.length hle];exact hf
  ·cases h
 | (_,.tup _) :: _,_,_,_,_,h,_,_=>by cases h
 | (_,.fn _ _) :: _,_,_,_,_,h,_,_=>by cases h
theorem Ox {α β:Type} {w:World} (f:α->Sem β) (g:α->β):∀ (l:List α),(∀ x∈l,(f x).run P w = .ok (g x) w)->(l.mapM f).run P w = .ok (l.map g) w
 | [],_=>by simp
 | x :: r,h=>by
  rw [List.mapM_cons];simp only [bO,h x (aQ ..),aW,Ox f g r (λy hy=>h y (aM _ hy)),cM,bP]
theorem Bj:∀ {fs:List Field} {t:Ty} {o:Nat},El P fs t o->∀ f∈fs,∃ ft,oG P f.type ft
 | f :: fs,.cons a b,o,h,g,hg=>by
  rcases aR.1 hg with rfl | hg
  ·exact ⟨a,h.2.1⟩
  ·exact Bj h.2.2.2 g hg
 | [],.unit,_,_,_,hg=>by cases hg
 | [],.int _,_,h,_,_=>h.elim
 | [],.bool,_,h,_,_=>h.elim
 | [],.fn,_,h,_,_=>h.elim
 | [],.str,_,h,_,_=>h.elim
 | [],.sl _,_,h,_,_=>h.elim
 | [],.cons _ _,_,h,_,_=>h.elim
 | _ :: _,.int _,_,h,_,_=>h.elim
 | _ :: _,.bool,_,h,_,_=>h.elim
 | _ :: _,.fn,_,h,_,_=>h.elim
 | _ :: _,.str,_,h,_,_=>h.elim
 | _ :: _,.sl _,_,h,_,_=>h.elim
 | _ :: _,.unit,_,h,_,_=>h.elim
theorem aFQ {T:TypeId} {t:Ty} (hT:Ea P T (.struct t)) (ha:t.agg=true) {w0:World} {G:Nat->Prop} {parts:List (Nat×PV)} {vs:List (Nat×Value)} {x:t.den}
  (h:Li t t.dflt parts=some x) (hv:CT w0 G parts vs):∃ cs,dW w0 G t x cs/\∀ w:World,(GF T vs.toArray).run P w = .ok (.agg cs.toArray) w:=by
 obtain ⟨ht,fs,hu,hfs,_⟩:=hT
 let place:Nat->Option (Nat×Nat):=λi=>(fs.toList.map λf=>(f.offset,P.cellsOf f.type)).toArray[i]?
 have hcell:∀ {T:TypeId} {t:Ty},oG P T t->P.cellsOf T=t.size:=λ{T t} h=>by
  obtain ⟨i,hi,hs,_⟩:=h.info;simp [OO,hi,hs]
 have hpl:∀ n o ft,kI t n=some (o,ft)->place n=some (o,ft.size):=λn o ft hf=>by
  obtain ⟨f,h1,h2,h3,_⟩:=zW hfs hf;simp only [place,pU,gZ,h1,sS,h2,hcell h3,cV]
 obtain ⟨cs,hf,hr⟩:=NI hpl h hv (iK w0 G t);refine ⟨cs,hr,λw => ?_⟩;unfold GF;have hz:(gH t (eF t)).cells=(eF t).toArray:=by
  have h5:=congrArg kL (qB (iK w0 G t));simpa using h5
 have hm:(fs.mapM λf=>do pure (f.offset, <- sizeOf f.type):Sem (Array (Nat×Nat))).run P w = .ok (fs.toList.map λf=>(f.offset,P.cellsOf f.type)).toArray w:=by
  rw [BI];simp only [aAI];rw [Ox _ (λf=>(f.offset,P.cellsOf f.type)) fs.toList (λf hf=>by
   obtain ⟨ft,h⟩:=Bj hfs f hf;simp [h.size_run,hcell h])]
  rfl
 simp only [bO,ht.zero_run,aW,run_underlying hu,hm,hz];have hf':qX (λx=>(fs.toList.map λf=>(f.offset,P.cellsOf f.type)).toArray[x]?) (eF t).toArray vs=some cs.toArray:=hf;rw [hf'];rfl
end
def aBd:Value->Bool
 | .int _ _=>true
 | .bool _=>true
 | .string _=>true
 | .nilFunc=>true
 | .func _ _ _=>true
 | .slice none _ _=>true
 | _=>false
def bLs:(t:Ty)->t.den->List fT
 | .int k,n=>[.val (.int k n)]
 | .bool,b=>[.val (.bool b)]
 | .fn,f=>[.val (fnV f)]
 | .str,s=>[.val (.string s)]
 | .sl e,xs=>[.sl e xs]
 | .unit,_=>[]
 | .cons a b,x=>bLs a x.1++bLs b x.2
def zLs:Ty->List fT
 | .int k=>[.val (.int k 0)]
 | .bool=>[.val (.bool false)]
 | .fn=>[.val .nilFunc]
 | .str=>[.val (.string aC)]
 | .sl _=>[.val (.slice none 0 0)]
 | .unit=>[]
 | .cons a b=>zLs a++zLs b
def Un (t:Ty):dD->Option (List fT)
 | .val v=>match BF t (.val v),aBd v && !t.agg with
  | some _,true=>some [.val v]
  | _,_=>none
 | .sl t' xs=>match t with
  | .sl e=>if h:t'=e then some [.sl t' xs] else none
  | _=>none
 | .osl r rg=>match t with
  | .sl e=>some [.osl r rg]
  | _=>none
 | .rcd t' ls=>match decide (t'=t),t.agg with
  | true,true=>some ls
  | _,_=>none
 | .st t' x=>match decide (t'=t),t.agg with
  | true,true=>some (bLs t' x)
  | _,_=>none
 | _=>none
def Cz (ls:List fT) (o:Nat) (l:List fT):List fT:=ls.take o++l++ls.drop (o+l.length)
def DA (t:Ty):List fT->List (Nat×PV)->Option (List fT)
 | ls,[]=>some ls
 | ls,(n,.a A) :: r=>match kI t n with
  | some (o,ft)=>match Un ft A with
   | some l=>DA t (Cz ls o l) r
   | none=>none
  | none=>none
 | _,_=>none
section
variable {P:Program} {n:Nat} {K:jK} {G:Nat->Prop} {w0 w:World} {a:Act} {E:eD} {L:bG} {V:Nat->Value} {own:Nat->List Nat}
theorem lT.one {α:Type} {R:α->List Value->Prop} {sz:Nat} {xs:List α} {v:Value} (h:lT w G R sz xs v):v.oneCell'=true:=by
 rcases h.2 with ⟨_,rfl,_⟩ | ⟨b,off,cap,rfl,_⟩ <;> rfl
theorem Ld.one {r:Nat} {rg:Option (Nat×Nat)} {v:Value} (h:Ld L V r rg v):v.oneCell'=true:=by
 obtain ⟨A,_,_,_,_,h⟩:=h;rcases h with ⟨_,_,_,rfl,_⟩ | ⟨b,off,m,cap,o,c,_,rfl,_⟩ <;> rfl
theorem Oi.one {l:fT} {v:Value} (h:Oi w0 G L V l v):v.oneCell'=true:=by
 cases l with
 | val u=>obtain ⟨rfl,_,h⟩:=h;exact h
 | sl t xs=>exact lT.one h
 | osl r rg=>exact Ld.one h
 | junk=>exact h
theorem gV.one:∀ {ls:List fT} {cs:List Value},gV w0 G L V ls cs->∀ c∈cs,c.oneCell'=true
 | [],_,h,c,hc=>by cases h;cases hc
 | _ :: _,_,⟨v,r,h,h1,h2⟩,c,hc=>by
  subst h;rcases aR.1 hc with rfl | hc
  ·exact h1.one
  ·exact h2.one c hc
theorem rC:∀ {ls ms:List fT} {cs ds:List Value},gV w0 G L V ls cs->gV w0 G L V ms ds->gV w0 G L V (ls++ms) (cs++ds)
 | [],_,_,_,h,h2=>by cases h;exact h2
 | _ :: _,_,_,_,⟨v,r,h,h1,h3⟩,h2=>by subst h;exact ⟨v,_,rfl,h1,rC h3 h2⟩
theorem aBe {v:Value} (h:aBd v=true):v.oneCell'=true:=by
 unfold aBd at h;split at h <;> first | rfl | cases h
theorem Oy:∀ {t:Ty} {x:t.den},(bLs t x).length=t.size
 | .int _,_=>rfl
 | .bool,_=>rfl
 | .fn,_=>rfl
 | .str,_=>rfl
 | .sl _,_=>rfl
 | .unit,_=>rfl
 | .cons a b,x=>by simp [bLs,Ty.size,Oy]
theorem Uo:∀ {t:Ty} {x:t.den} {cs:List Value},dW w0 G t x cs->gV w0 G L V (bLs t x) cs
 | .int _,_,_,h=>by obtain ⟨rfl,h⟩:=h;exact ⟨_,_,rfl,⟨rfl,h,rfl⟩,rfl⟩
 | .bool,_,_,h=>by cases h;exact ⟨_,_,rfl,⟨rfl,trivial,rfl⟩,rfl⟩
 | .fn,x,_,h=>by cases h;exact ⟨_,_,rfl,⟨rfl,aAY x,O1 x⟩,rfl⟩
 | .str,_,_,h=>by obtain ⟨rfl,h⟩:=h;exact ⟨_,_,rfl,⟨rfl,h,rfl⟩,rfl⟩
 | .sl _,_,_,h=>by obtain ⟨v,rfl,h⟩:=h;exact ⟨_,_,rfl,h,rfl⟩
 | .unit,_,_,h=>h
 | .cons a b,x,_,h=>by
  obtain ⟨c1,c2,rfl,h1,h2⟩:=h;exact rC (Uo h1) (Uo h2)
theorem DB:∀ {t:Ty},(zLs t).length=t.size
 | .int _=>rfl
 | .bool=>rfl
 | .fn=>rfl
 | .str=>rfl
 | .sl _=>rfl
 | .unit=>rfl
 | .cons a b=>by simp [zLs,Ty.size,DB (t:=a),DB (t:=b)]
theorem O7:∀ {t:Ty},gV w0 G L V (zLs t) (eF t)
 | .int k=>⟨_,_,rfl,⟨rfl,(iK w0 G (.int k)).2,rfl⟩,rfl⟩
 | .bool=>⟨_,_,rfl,⟨rfl,trivial,rfl⟩,rfl⟩
 | .fn=>⟨_,_,rfl,⟨rfl,trivial,rfl⟩,rfl⟩
 | .str=>⟨_,_,rfl,⟨rfl,bW _,rfl⟩,rfl⟩
 | .sl _=>⟨_,_,rfl,⟨rfl,⟨rfl,rfl⟩,rfl⟩,rfl⟩
 | .unit=>rfl
 | .cons a b=>rC O7 O7
theorem Oz {t:Ty} {A:dD} {v:Value} {ls:List fT} (hA:kZ w0 G L V A v) (h:Un t A=some ls) :
  ∃ cs,v=gH t cs/\ls.length=t.size/\cs.length=t.size/\gV w0 G L V ls cs/\v.cells.toList=cs:=by
 cases A with
 | val u =>
  simp only [Un] at h;split at h
  ·rename_i x hd hk;simp only [aJ,cW] at hk;cases h;obtain ⟨cs,hc,hv⟩:=zR (w:=w0) (G:=G) (A := .val u) hA hd;have h1:t.size=1:=by cases t <;> simp_all [Ty.agg,Ty.size]
   have hl:=hc.length;have hcells:=qB hc;rw [h1] at hl;have hvc:cs=[v]:=by
    match cs,hl with
    | [c],_=>rw [hv,gH,if_neg (by rw [hk.2];simp)];rfl
   refine ⟨cs,hv,by rw [h1];rfl,by rw [h1];exact hl,?_,by rw [hv];exact hcells⟩;rw [hvc];obtain ⟨rfl,ho⟩:=hA;exact ⟨_,_,rfl,⟨rfl,ho,aBe hk.1⟩,rfl⟩
  ·cases h
 | sl t' xs =>
  simp only [Un] at h;split at h
  ·split at h
   ·rename_i e ht;subst ht;cases h;refine ⟨[v],rfl,rfl,rfl,⟨_,_,rfl,hA,rfl⟩,?_⟩;have hA:lT w0 G (dW w0 G t') t'.size xs v:=hA;rcases hA.2 with ⟨_,rfl,_⟩ | ⟨b,off,cap,rfl,_⟩ <;> rfl
   ·cases h
  ·cases h
 | osl r rg =>
  simp only [Un] at h;split at h
  ·cases h;refine ⟨[v],rfl,rfl,rfl,⟨_,_,rfl,hA,rfl⟩,?_⟩;obtain ⟨A,_,_,_,_,hA⟩:=hA;rcases hA with ⟨_,_,_,rfl,_⟩ | ⟨b,off,m,cap,o,c,_,rfl,_⟩ <;> rfl
  ·cases h
 | rcd t' ls' =>
  simp only [Un] at h;split at h
  ·rename_i ht ha;obtain rfl:=of_decide_eq_true ht;cases h;obtain ⟨cs,rfl,hl,hr⟩:=hA;exact ⟨cs,by rw [gH,if_pos ha],hl,by rw [zO hr,hl],hr,by simp [mX]⟩
  ·cases h
 | st t' x =>
  simp only [Un] at h;split at h
  ·rename_i ht ha;obtain rfl:=of_decide_eq_true ht;cases h;obtain ⟨cs,rfl,hr⟩:=hA;exact ⟨cs,by rw [gH,if_pos ha],Oy,hr.length,Uo hr,by simp [mX]⟩
  ·cases h
 | _=>cases h
theorem NJ {ls l:List fT} {cs c:List Value} {o:Nat} (h:gV w0 G L V ls cs) (h1:gV w0 G L V l c):gV w0 G L V (Cz ls o l) (fJ cs o c):=by
 unfold Cz fJ;rw [zO h1];exact rC (rC (oR _ h) h1) (oQ _ h)
theorem Eo {ls l:List fT} {o:Nat} (h:o+l.length<=ls.length):(Cz ls o l).length=ls.length:=by
 simp [Cz];omega
theorem J5 {t:Ty} {place:Nat->Option (Nat×Nat)} (hpl:∀ n o ft,kI t n=some (o,ft)->place n=some (o,ft.size)) (hR:bT n K w0 G w a E L V own) :
  ∀ {parts:List (Nat×Operand)} {ls ls':List fT} {cs:List Value},DA t ls (parts.map λp=>(p.1,opnd E p.2))=some ls'->ls.length=t.size->gV w0 G L V ls cs ->
  ∃ cs',qX place cs.toArray (parts.map λp=>(p.1,a.eval p.2))=some cs'.toArray/\ls'.length=t.size/\gV w0 G L V ls' cs'
 | [],ls,ls',cs,h,hl,hr=>by cases h;exact ⟨cs,rfl,hl,hr⟩
 | p :: r,ls,ls',cs,h,hl,hr=>by
  simp only [bP] at h ⊢;cases hp:opnd E p.2 with
  | a A =>
   rw [hp] at h;simp only [DA] at h;split at h
   ·rename_i o ft ho;split at h
    ·rename_i l hls;obtain ⟨c,e1,e2,e3,e4,e5⟩:=Oz (hR.atom hp) hls;have hle:=GZ ho;have hcl:=zO hr;obtain ⟨cs',f1,f2,f3⟩:=J5 hpl hR h (by rw [Eo (by omega)];exact hl) (NJ hr e4);refine ⟨cs',?_,f2,f3⟩;rw [Lj place cs p.1 o (a.eval p.2) c ft.size _ (hpl _ _ _ ho) e5 e3 (by omega)];exact f1
    ·cases h
   ·cases h
  | tup _=>rw [hp] at h;cases h
  | fn _ _=>rw [hp] at h;cases h
theorem Xb {T:TypeId} {t:Ty} (hT:Ea P T (.struct t)) (hR:bT n K w0 G w a E L V own) {parts:List (Nat×Operand)} {ls:List fT}
  (h:DA t (zLs t) (parts.map λp=>(p.1,opnd E p.2))=some ls):∃ cs,ls.length=t.size/\gV w0 G L V ls cs/\∀ w':World,(GF T (parts.map λp=>(p.1,a.eval p.2)).toArray).run P w' = .ok (.agg cs.toArray) w':=by
 obtain ⟨ht,fs,hu,hfs,_⟩:=hT
 let place:Nat->Option (Nat×Nat):=λi=>(fs.toList.map λf=>(f.offset,P.cellsOf f.type)).toArray[i]?
 have hcell:∀ {T:TypeId} {t:Ty},oG P T t->P.cellsOf T=t.size:=λ{T t} h=>by
  obtain ⟨i,hi,hs,_⟩:=h.info;simp [OO,hi,hs]
 have hpl:∀ n o ft,kI t n=some (o,ft)->place n=some (o,ft.size):=λn o ft hf=>by
  obtain ⟨f,h1,h2,h3,_⟩:=zW hfs hf;simp only [place,pU,gZ,h1,sS,h2,hcell h3,cV]
 obtain ⟨cs,hf,hl,hr⟩:=J5 hpl hR h DB O7;refine ⟨cs,hl,hr,λw' => ?_⟩;unfold GF;have hz:(gH t (eF t)).cells=(eF t).toArray:=by
  have h5:=congrArg kL (qB (iK w0 G t));simpa using h5
 have hm:(fs.mapM λf=>do pure (f.offset, <- sizeOf f.type):Sem (Array (Nat×Nat))).run P w' = .ok (fs.toList.map λf=>(f.offset,P.cellsOf f.type)).toArray w':=by
  rw [BI];simp only [aAI];rw [Ox _ (λf=>(f.offset,P.cellsOf f.type)) fs.toList (λf hf=>by
   obtain ⟨ft,h⟩:=Bj hfs f hf;simp [h.size_run,hcell h])]
  rfl
 simp only [bO,ht.zero_run,aW,run_underlying hu,hm,hz];have hf':qX (λx=>(fs.toList.map λf=>(f.offset,P.cellsOf f.type)).toArray[x]?) (eF t).toArray (parts.map λp=>(p.1,a.eval p.2))=some cs.toArray:=hf;rw [hf'];rfl
end
def aQ2:List dD->Nat->Option dD
 | [],_=>none
 | a :: _,0=>some a
 | _ :: r,n+1=>aQ2 r n
def O8 (E:eD):List Operand->Option (List dD)
 | []=>some []
 | x :: r=>match opnd E x,O8 E r with
  | .a A,some s=>some (A :: s)
  | _,_=>none
def lU (xs:List Int):ByteArray:=xs.foldl (λr n=>r.push (UInt8.ofNat n.toNat)) aC
def aHy (L:bG) (ti:TI):dD->Bool
 | .val (.string _)=>match ti with | .scal .str=>true | _=>false
 | .sl t _=>match ti with | .slice _ t' _=>decide (t=t') | _=>false
 | .osl r _=>match b7 L r,ti with | some A,.slice _ t' _=>decide (A.t=t') | _,_=>false
 | _=>false
def aXm:TI->Bool
 | .slice _ _ _=>true
 | _=>false
def aHz (ti:TI):dD->Bool
 | .val (.string _)=>match ti with | .scal .str=>true | _=>false
 | _=>aXm ti
def aME (E:eD):Option Operand->Option (Option Int)
 | none=>some none
 | some x=>match opnd E x with | .a (.val (.int _ n))=>some (some n) | _=>none
def aFR (isMax:Bool) (x y:Int):Int:=match isMax with | true=>if x<y then y else x | false=>if y<x then y else x
def PA (tab:List TI) (L:bG) (b:Builtin) (args:List PV) (ts:List TypeId):Option (List Prop×PV) :=
 match b,args,ts with
 | .len,[.a A],[T]=>match aHz (iZ tab T) A,aQ1 L A with
  | true,some i=>some ([],.a (.val (.int .i64 i)))
  | _,_=>none
 | .min,[.a (.val (.int k x)),.a (.val (.int k' y))],_=>match decide (k=k') with
  | true=>some ([],.a (.val (.int k (aFR false x y))))
  | false=>none
 | .max,[.a (.val (.int k x)),.a (.val (.int k' y))],_=>match decide (k=k') with
  | true=>some ([],.a (.val (.int k (aFR true x y))))
  | false=>none
 | _,_,_=>none
def aQ3 (tab:List TI) (wr:Bool) (op:BinOp) (T:TypeId):PV->PV->Option (List Prop×PV)
 | .a (.val (.bool a)),.a (.val (.bool b))=>match iZ tab T,op with
  | .scal .bool,.eql=>some ([],.a (.val (.bool (a==b))))
  | .scal .bool,.neq=>some ([],.a (.val (.bool (!(a==b)))))
  | _,_=>none
 | .a (.val u),.a (.val v)=>match aQz wr op u v with
  | some (cs,r)=>some (cs,.a (.val r))
  | none=>none
 | .a (.st t x),.a (.st t' y)=>match iZ tab T,op with
  | .struct u,.eql=>if h:t=u then if h':t'=u then (match u.flat with | true=>some ([],.a (.val (.bool (xM u (h ▸ x) (h' ▸ y))))) | false=>none) else none else none
  | .struct u,.neq=>if h:t=u then if h':t'=u then (match u.flat with | true=>some ([],.a (.val (.bool (!xM u (h ▸ x) (h' ▸ y))))) | false=>none) else none else none
  | _,_=>none
 | _,_=>none
def unA (wr:Bool) (op:UnOp):PV->Option (List Prop×PV)
 | .a (.val (.bool b))=>match op with | .not=>some ([],.a (.val (.bool (!b)))) | _=>none
 | .a (.val (.int k n))=>match op,wr with
  | .neg,true=>some ([],.a (.val (.int k (k.wrap (0 - n)))))
  | .neg,false=>some ([cC k (0 - n)],.a (.val (.int k (0 - n))))
  | _,_=>none
 | _=>none
def aH0 (tab:List TI) (wr:Bool) (L:bG) (src dst:TypeId):PV->Option (List Prop×PV)
 | .a (.val (.int _ n))=>match iZ tab src,iZ tab dst,wr with
  | .scal (.int _),.scal (.int k),true=>some ([],.a (.val (.int k (k.wrap n))))
  | .scal (.int _),.scal (.int k),false=>some ([cC k n],.a (.val (.int k n)))
  | _,_,_=>none
 | _=>none
def Up:Op->Bool
 | .load _ _=>true
 | _=>false
def Uq (tab:List TI) (wr:Bool) (E:eD) (L:bG):Op->Option (List Prop×PV)
 | .move x | .assign x=>some ([],opnd E x)
 | .nilCheck x=>match opnd E x with
  | .a (.ptr t y)=>some ([],.a (.ptr t y))
  | .a (.optr r i p)=>some ([],.a (.optr r i p))
  | .a (.bptr r o t)=>some ([],.a (.bptr r o t))
  | .fn f cs=>some ([],.fn f cs)
  | _=>none
 | .binOp op T x y _=>aQ3 tab wr op T (opnd E x) (opnd E y)
 | .unOp op _ x=>unA wr op (opnd E x)
 | .convert s d x=>aH0 tab wr L s d (opnd E x)
 | .extract x i=>match opnd E x with
  | .tup xs=>match aQ2 xs i with | some A=>some ([],.a A) | none=>none
  | _=>none
 | .makeFunc (.func f) first caps=>match first.toList,O8 E caps.toList with
  | [],some ats=>some ([],.fn f ats)
  | _,_=>none
 | .load T x=>match opnd E x,(iZ tab T).ty with
  | .a A,some t=>match aEx L t A with | some B=>some ([],.a B) | none=>none
  | _,_=>none
 | .fieldAddr S x f=>match opnd E x,iZ tab S with
  | .a A,.struct t=>match Oq L t f A with | some B=>some ([],.a B) | none=>none
  | _,_=>none
 | .field S x f=>match opnd E x,iZ tab S with
  | .a A,.struct t=>match aBb t f A with | some B=>some ([],.a B) | none=>none
  | _,_=>none
 | .indexAddr T x i=>match opnd E x,opnd E i,iZ tab T with
  | .a A,.a (.val (.int _ n)),.slice _ t _=>match Ou L t n A with | some (cs,B)=>some (cs,.a B) | none=>none
  | _,_,_=>none
 | .index T x i=>match opnd E x,opnd E i,iZ tab T with
  | .a (.val (.string s)),.a (.val (.int _ n)),.scal .str=>some ([0<=n,n<(s.size:Int)],.a (.val (.int .u8 (Ot s n))))
  | _,_,_=>none
 | .slice T x lo hi none=>match opnd E x,aME E lo,aME E hi with
  | .a A,some l,some h=>match aHy L (iZ tab T) A,aBc L l h A with
   | true,some (cs,B)=>some (cs,.a B)
   | _,_=>none
  | _,_,_=>none
 | .build T parts=>match iZ tab T with
  | .struct t=>match t.agg,Li t t.dflt (parts.toList.map λp=>(p.1,opnd E p.2)) with
   | true,some x=>match t.flat,DA t (zLs t) (parts.toList.map λp=>(p.1,opnd E p.2)) with
    | false,some ls=>match aHv ls with
     | false=>some ([],.a (.rcd t ls))
     | true=>some ([],.a (.st t x))
    | _,_=>some ([],.a (.st t x))
   | _,_=>match DA t (zLs t) (parts.toList.map λp=>(p.1,opnd E p.2)) with
    | some ls=>some ([],.a (.rcd t ls))
    | none=>none
  | _=>none
 | .call { callee := .builtin b,args,argTypes }=>PA tab L b (args.toList.map (opnd E)) argTypes.toList
 | _=>none
section
variable {P:Program} {n:Nat} {K:jK} {G:Nat->Prop} {w0 w:World} {a:Act} {E:eD} {L:bG} {V:Nat->Value} {own:Nat->List Nat}
theorem fU (s:Sem Value) (v:Value) (w w':World) (h:s.run P w = .ok v w'):(do pure (Next.value (<- s)):Sem Next).run P w = .ok (.value v) w':=by
 simp [h]
theorem TI.ty_ok {T:TypeId} {ti:TI} {t:Ty} (h:Ea P T ti) (ht:ti.ty=some t):oG P T t:=by
 cases ti <;> cases ht
 ·exact h
 ·exact h.1
 ·exact h.1
theorem oG.int_und {T:TypeId} {k:IntKind} (h:oG P T (.int k)):P.underlying T=some (.int k):=by
 obtain ⟨d,hd,hf⟩:=h.und;cases d <;> simp [uQ] at hf
 subst hf;exact hd
theorem oG.bool_und {T:TypeId} (h:oG P T .bool):P.underlying T=some .bool:=by
 obtain ⟨d,hd,hf⟩:=h.und;cases d <;> simp [uQ] at hf
 exact hd
theorem oG.str_und {T:TypeId} (h:oG P T .str):P.underlying T=some .string:=by
 obtain ⟨d,hd,hf⟩:=h.und;cases d <;> simp [uQ] at hf
 exact hd
theorem IC {G:Nat->Prop}:∀ (t:Ty),
  (∀ T d x y c1 c2 w,H9 P t.agg T (TK P t)=true->dep t<=d->dW w0 G t x c1->dW w0 G t y c2->(Dr (d+1) T (gH t c1) (gH t c2)).run P w = .ok (xM t x y) w) /\
  (∀ fs o d x y (xs ys:List Value) w,TK P t (.inr (fs,o))=true->dep t<=d->dW w0 G t x (xs.drop o)->dW w0 G t y (ys.drop o)->o+t.size<=xs.length->o+t.size<=ys.length ->
   (Ba d xs.toArray ys.toArray fs).run P w = .ok (xM t x y) w)
 | .int k=>by
  refine ⟨λT d x y c1 c2 w h _ h1 h2 => ?_,λfs o d x y xs ys w h=>by simp [TK] at h⟩;have hu:=Le (by simpa [H9,Ty.agg,TK] using h);obtain ⟨rfl,_⟩:=h1;obtain ⟨rfl,_⟩:=h2;exact run_equalIn_int w d T k k x y hu
 | .bool=>by
  refine ⟨λT d x y c1 c2 w h _ h1 h2 => ?_,λfs o d x y xs ys w h=>by simp [TK] at h⟩;have hu:=Hz (by simpa [H9,Ty.agg,TK] using h);have h1:c1=[.bool x]:=h1;have h2:c2=[.bool y]:=h2;subst h1 h2;exact run_equalIn_bool' w d T x y hu
 | .fn=>⟨λT d x y c1 c2 w h=>by simp [H9,Ty.agg,TK] at h,λfs o d x y xs ys w h=>by simp [TK] at h⟩
 | .str=>by
  refine ⟨λT d x y c1 c2 w h _ h1 h2 => ?_,λfs o d x y xs ys w h=>by simp [TK] at h⟩;have hu:=Lf (by simpa [H9,Ty.agg,TK] using h);obtain ⟨rfl,_⟩:=h1;obtain ⟨rfl,_⟩:=h2;exact run_equalIn_string w d T x y hu
 | .sl e=>⟨λT d x y c1 c2 w h=>by simp [H9,Ty.agg,TK] at h,λfs o d x y xs ys w h=>by simp [TK] at h⟩
 | .unit=>by
  have hB:∀ fs o d x y (xs ys:List Value) w,TK P .unit (.inr (fs,o))=true->(Ba d xs.toArray ys.toArray fs).run P w = .ok (xM .unit x y) w:=by
   intro fs o d x y xs ys w h
   match fs,h with
   | [],h=>simp [Ba,xM]
   | _ :: _,h=>simp [TK] at h
  refine ⟨λT d x y c1 c2 w h _ h1 h2 => ?_,λfs o d x y xs ys w h _ _ _ _ _=>hB fs o d x y xs ys w h⟩;simp only [H9,Ty.agg] at h;split at h
  ·rename_i fs hu;simp only [aJ,cW] at h;have hf:P.fieldsOf T=fs:=by simp [Mv,hu]
   show (Dr (d+1) T (.agg c1.toArray) (.agg c2.toArray)).run P w=_;rw [run_equalIn_agg w d T _ _ (by rw [hf];exact hu) h.1,hf];exact hB _ _ d x y _ _ w h.2
  ·cases h
 | .cons a b=>by
  obtain ⟨ha,_⟩:=IC a;obtain ⟨_,hb⟩:=IC b;have hB:∀ fs o d x y (xs ys:List Value) w,TK P (.cons a b) (.inr (fs,o))=true->dep (.cons a b)<=d->dW w0 G (.cons a b) x (xs.drop o)->dW w0 G (.cons a b) y (ys.drop o)->o+(Ty.cons a b).size<=xs.length->o+(Ty.cons a b).size<=ys.length ->
    (Ba d xs.toArray ys.toArray fs).run P w = .ok (xM (.cons a b) x y) w:=by
   intro fs o d x y xs ys w h hd hx hy hlx hly
   match fs,h with
   | [],h=>simp [TK] at h
   | f :: fs,h =>
    simp only [TK,aJ,bne_iff_ne,ne_eq] at h;obtain ⟨h0,h1,h2,h3,h4⟩:=h;have h1:=aX h1;have h2:=vU h2;simp only [dep] at hd;have hd1:dep a+1<=d:=cO (ON _ _) hd;have hd2:dep b<=d:=cO (Mu _ _) hd;obtain ⟨d,rfl⟩:∃ d',d=d'+1:=⟨d - 1,by omega⟩;simp only [Ty.size] at hlx hly;obtain ⟨p1,p2,hp,hp1,hp2⟩:=hx;obtain ⟨q1,q2,hq,hq1,hq2⟩:=hy;have e1:(xs.drop o).take a.size=p1:=by rw [hp, <- hp1.length,E2];rfl
    have e2:(ys.drop o).take a.size=q1:=by rw [hq, <- hq1.length,E2];rfl
    have e3:xs.drop (o+a.size)=p2:=by rw [<- mK,hp, <- hp1.length,E3];rfl
    have e4:ys.drop (o+a.size)=q2:=by rw [<- mK,hq, <- hq1.length,E3];rfl
    have r1:(part f.type xs.toArray f.offset).run P w = .ok (gH a p1) w:=by
     rw [h1, <- e1];exact On h2 xs o (by omega)
    have r2:(part f.type ys.toArray f.offset).run P w = .ok (gH a q1) w:=by
     rw [h1, <- e2];exact On h2 ys o (by omega)
    have r3:=ha f.type d x.1 y.1 p1 q1 w h3 (by omega) hp1 hq1;have r4:=hb fs (o+a.size) (d+1) x.2 y.2 xs ys w h4 hd2 (by rw [e3];exact hp2) (by rw [e4];exact hq2) (by omega) (by omega);simp only [Ba,ne_eq,h0,not_false_eq_true,if_true,bO,r1,r2,r3,aW,Sem.run_ite,cM];simp only [xM];cases xM a x.1 y.1 with
    | true=>simpa using r4
    | false=>simp
  refine ⟨λT d x y c1 c2 w h hd h1 h2 => ?_,hB⟩;have l1:=h1.length;have l2:=h2.length;simp only [H9,Ty.agg] at h;split at h
  ·rename_i fs hu;simp only [aJ,cW] at h;have hf:P.fieldsOf T=fs:=by simp [Mv,hu]
   show (Dr (d+1) T (.agg c1.toArray) (.agg c2.toArray)).run P w=_;rw [run_equalIn_agg w d T _ _ (by rw [hf];exact hu) h.1,hf];exact hB _ 0 d x y c1 c2 w h.2 hd (by simpa using h1) (by simpa using h2) (by omega) (by omega)
  ·cases h
theorem aP5 {u:Ty} {T:TypeId} (hu:Ea P T (.struct u)) (hf:u.flat=true) {x y:u.den} {v1 v2:Value} {G:Nat->Prop} (h1:∃ cs,v1 = .agg cs.toArray/\dW w0 G u x cs) (h2:∃ cs,v2 = .agg cs.toArray/\dW w0 G u y cs) (w':World) (ox oy:Operand) :
  (do eqGuard .eql T ox oy v1 v2;binOp .eql T v1 v2:Sem Value).run P w' = .ok (.bool (xM u x y)) w'/\(do eqGuard .neq T ox oy v1 v2;binOp .neq T v1 v2:Sem Value).run P w' = .ok (.bool (!xM u x y)) w':=by
 obtain ⟨c1,rfl,r1⟩:=h1;obtain ⟨c2,rfl,r2⟩:=h2;obtain ⟨hty,fs,hund,_,he⟩:=hu;have he:=he hf;simp only [eqT,aJ,cW] at he;obtain ⟨e1,e2,e3⟩:=he;have hd:=Nat.le_of_ble_eq_true e1;have hag:u.agg=true:=by
  cases hh:u.agg with
  | true=>rfl
  | false =>
   obtain ⟨d,hd,hfit⟩:=hty.und;rw [hund] at hd;cases hd;cases u <;> simp [uQ,Ty.agg] at hfit hh
 have hv1:gH u c1 = .agg c1.toArray:=by simp [gH,hag]
 have hv2:gH u c2 = .agg c2.toArray:=by simp [gH,hag]
 have heq:=(IC (G:=G) u).1 T 9999 x y c1 c2 w' e3 hd r1 r2;rw [hv1,hv2] at heq;constructor
 ·simp only [bO,run_eqGuard_agg w' .eql T ox oy _ _ e2,aW,run_eql_struct,heq]
 ·simp only [bO,run_eqGuard_agg w' .neq T ox oy _ _ e2,aW,run_neq_struct,heq]
theorem aFS {tab:List TI} (hT:jP P tab) (hR:bT n K w0 G w a E L V own) {wr:Bool} {op:BinOp} {T:TypeId} {x y:Operand} {cs:List Prop} {pv:PV}
  (h:aQ3 tab wr op T (opnd E x) (opnd E y)=some (cs,pv)) (hc:eZ cs) :
  ∃ v,kH w0 G L V pv v/\∀ w',(do eqGuard op T x y (a.eval x) (a.eval y);binOp op T (a.eval x) (a.eval y):Sem Value).run P w' = .ok v w':=by
 unfold aQ3 at h;split at h
 ·rename_i b1 b2 hx hy;obtain ⟨e1,_⟩:=hR.valEq hx;obtain ⟨e2,_⟩:=hR.valEq hy;rw [e1,e2,eqGuard_at_bool];split at h
  ·rename_i ht;cases h;have hu:=hT T;rw [ht] at hu;refine ⟨_,⟨rfl,trivial⟩,λw' => ?_⟩;have h9:(Dr 10000 T (.bool b1) (.bool b2)).run P w' = .ok (b1==b2) w':=run_equalIn_bool' w' 9999 T b1 b2 (oG.bool_und hu);simp only [binOp,Op.equal,aAJ,bO,cM,aW,h9]
  ·rename_i ht;cases h;have hu:=hT T;rw [ht] at hu;refine ⟨_,⟨rfl,trivial⟩,λw' => ?_⟩;have h9:(Dr 10000 T (.bool b1) (.bool b2)).run P w' = .ok (b1==b2) w':=run_equalIn_bool' w' 9999 T b1 b2 (oG.bool_und hu);simp only [binOp,Op.equal,aAJ,bO,cM,aW,h9]
  ·cases h
 ·rename_i u v _ hx hy;obtain ⟨e1,_⟩:=hR.valEq hx;obtain ⟨e2,_⟩:=hR.valEq hy;rw [e1,e2];split at h
  ·rename_i cs' r hb;cases h;exact ⟨r,⟨rfl,(X5 (P:=P) (w:=w) hb hc T x y).2⟩,λw'=>(X5 hb hc T x y).1⟩
  ·cases h
 ·rename_i t x1 t' y1 hx hy;have hvx:=hR.atom hx;have hvy:=hR.atom hy;split at h
  ·rename_i u ht;have hu:=hT T;rw [ht] at hu;split at h
   ·rename_i he;subst he;split at h
    ·rename_i he;subst he;split at h
     ·rename_i hf;cases h;exact ⟨_,⟨rfl,trivial⟩,λw'=>(aP5 hu hf hvx hvy w' x y).1⟩
     ·cases h
    ·cases h
   ·cases h
  ·rename_i u ht;have hu:=hT T;rw [ht] at hu;split at h
   ·rename_i he;subst he;split at h
    ·rename_i he;subst he;split at h
     ·rename_i hf;cases h;exact ⟨_,⟨rfl,trivial⟩,λw'=>(aP5 hu hf hvx hvy w' x y).2⟩
     ·cases h
    ·cases h
   ·cases h
  ·cases h
 ·cases h
theorem aH1 (hR:bT n K w0 G w a E L V own) {wr:Bool} {op:UnOp} {x:Operand} {cs:List Prop} {pv:PV}
  (h:unA wr op (opnd E x)=some (cs,pv)) (hc:eZ cs) :
  ∃ v,kH w0 G L V pv v/\∀ w',(Rp op (a.eval x)).run P w' = .ok v w':=by
 unfold unA at h;split at h
 ·rename_i b hx;obtain ⟨e1,_⟩:=hR.valEq hx;rw [e1];split at h
  ·cases h;exact ⟨_,⟨rfl,trivial⟩,λw'=>by simp [Rp]⟩
  ·cases h
 ·rename_i k m hx;obtain ⟨e1,_⟩:=hR.valEq hx;rw [e1];split at h
  ·cases h;exact ⟨_,⟨rfl,qA _ _⟩,λw'=>by simp [Rp,B7]⟩
  ·cases h;simp only [eZ] at hc;exact ⟨_,⟨rfl,hc.1⟩,λw'=>by simp only [Rp,B7,lJ hc.1];rfl⟩
  ·cases h
 ·cases h
theorem aBf {tab:List TI} (hT:jP P tab) (hR:bT n K w0 G w a E L V own) {wr:Bool} {s d:TypeId} {x:Operand} {cs:List Prop} {pv:PV}
  (h:aH0 tab wr L s d (opnd E x)=some (cs,pv)) (hc:eZ cs) :
  ∃ v,kH w0 G L V pv v/\∀ w',(convert s d (a.eval x)).run P w' = .ok v w':=by
 unfold aH0 at h;split at h
 ·rename_i k0 m hx;obtain ⟨e1,_⟩:=hR.valEq hx;rw [e1];split at h
  ·rename_i hs hd;cases h;have hu:=hT s;rw [hs] at hu;have hv:=hT d;rw [hd] at hv;exact ⟨_,⟨rfl,qA _ _⟩,λw'=>by simp [convert,run_underlying (oG.int_und hu),run_underlying (oG.int_und hv),Conv.intToInt]⟩
  ·rename_i hs hd;cases h;simp only [eZ] at hc;have hu:=hT s;rw [hs] at hu;have hv:=hT d;rw [hd] at hv;exact ⟨_,⟨rfl,hc.1⟩,λw'=>by simp [convert,run_underlying (oG.int_und hu),run_underlying (oG.int_und hv),Conv.intToInt,lJ hc.1]⟩
  ·cases h
 ·cases h
theorem J6 (hR:bT n K w0 G w a E L V own):∀ {xs:List Operand} {ats:List dD},O8 E xs=some ats->rQ w0 G L V ats (xs.map a.eval)
 | [],ats,h=>by cases h;rfl
 | x :: r,ats,h=>by
  simp only [O8] at h;split at h
  ·rename_i A s hx hr;cases h;exact ⟨_,_,rfl,hR.atom hx,J6 hR hr⟩
  ·cases h
theorem TN:∀ {xs:List dD} {vs:List Value} {i:Nat} {A:dD},aQ2 xs i=some A->rQ w0 G L V xs vs->∃ v,vs[i]? = some v/\kZ w0 G L V A v
 | x :: r,vs,0,A,h,hr=>by
  cases h;obtain ⟨v,s,rfl,h1,h2⟩:=hr;exact ⟨v,rfl,h1⟩
 | x :: r,vs,i+1,A,h,hr=>by
  obtain ⟨v,s,rfl,h1,h2⟩:=hr;obtain ⟨u,hu,hr'⟩:=TN (i:=i) h h2;exact ⟨u,by simpa using hu,hr'⟩
 | [],_,_,_,h,_=>by cases h
theorem TO (hR:bT n K w0 G w a E L V own) {x:Option Operand} {i:Option Int} (h:aME E x=some i):∃ o,i=H1 o/\x.map a.eval=J4 o:=by
 cases x with
 | none=>cases h;exact ⟨none,rfl,rfl⟩
 | some x =>
  simp only [aME] at h;split at h
  ·rename_i k m hx;cases h;exact ⟨some (k,m),rfl,by simp [J4,(hR.valEq hx).1]⟩
  ·cases h
theorem aFT {ti:TI} {A:dD} (h:aHy L ti A=true):((∃ e t b,ti = .slice e t b)\/ti = .scal .str)/\aMD L ti A:=by
 cases A with
 | val u=>cases u with
  | string s =>
   simp only [aHy] at h;split at h
   ·exact ⟨.inr rfl,rfl⟩
   ·cases h
  | _=>cases h
 | sl t xs =>
  simp only [aHy] at h;split at h
  ·rename_i e t' b;obtain rfl:=of_decide_eq_true h;exact ⟨.inl ⟨_,_,_,rfl⟩,_,_,rfl⟩
  ·cases h
 | osl r rg =>
  simp only [aHy] at h;split at h
  ·rename_i B e t' b hB;have:=of_decide_eq_true h;subst this;exact ⟨.inl ⟨_,_,_,rfl⟩,B,hB,_,_,rfl⟩
  ·cases h
 | _=>cases h
theorem aBg {ti:TI} {A:dD} (h:aHz ti A=true):((∃ e t b,ti = .slice e t b)\/ti = .scal .str)/\aEy ti A:=by
 have key:aXm ti=true->∃ e t b,ti = .slice e t b:=by
  intro h;cases ti <;> first | (cases h;done) | exact ⟨_,_,_,rfl⟩
 cases A with
 | val u=>cases u with
  | string s =>
   simp only [aHz] at h;split at h
   ·exact ⟨.inr rfl,rfl⟩
   ·cases h
  | _=>exact ⟨.inl (key h),key h⟩
 | _=>exact ⟨.inl (key h),key h⟩
theorem aBh {T:TypeId} (hT:oG P T .str) (s:ByteArray) (k:IntKind) (i:Int) (h0:0<=i) (h1:i<s.size) (w:World) :
  (Instr.index T (.string s) (.int k i)).run P w = .ok (.int .u8 (Ot s i)) w/\Hy (.int .u8 (Ot s i)):=by
 have hlt:i.toNat<s.size:=by omega
 have hb:Ot s i=((s[i.toNat]'hlt).toNat:Int):=by
  unfold Ot;rw [bL,bC (by simpa using hlt)];rfl
 refine ⟨?_,?_⟩
 ·rw [run_index_string (P:=P) w T s k i hT.str_und,dif_pos ⟨h0,h1⟩,hb]
 ·rw [hb];have:=(s[i.toNat]'hlt).toNat_lt;simp [Hy,cC,oI,oJ,mY,kO];omega
theorem SU {tab:List TI} (hT:jP P tab) (hR:bT n K w0 G w a E L V own) {b:Builtin} {xs:List Operand} {ts:List TypeId} {cs:List Prop} {pv:PV}
  (h:PA tab L b (xs.map (opnd E)) ts=some (cs,pv)) (hc:eZ cs) (ty:TypeId) (consts:Array Bool) :
  ∃ v,kH w0 G L V pv v/\∀ w',(builtin b ts.toArray ty consts (xs.map a.eval).toArray).run P w' = .ok (.value v) w':=by
 unfold PA at h;split at h
 ·rename_i A T hxs;have:∃ x,xs=[x]/\opnd E x = .a A:=by
   cases xs with
   | nil=>simp at hxs
   | cons x r=>cases r with
    | nil=>simp at hxs;exact ⟨x,rfl,hxs⟩
    | cons y s=>simp at hxs
  obtain ⟨x,rfl,hx⟩:=this;split at h
  ·rename_i i hok hl;cases h;obtain ⟨h1,h2⟩:=aBg hok;obtain ⟨h3,h4⟩:=aFP hR (hT T) h1 (hR.atom hx) hl h2 ty;refine ⟨_,⟨rfl,h3⟩,λw' => ?_⟩;simp only [builtin,bP,kM];exact fU _ _ _ _ (h4 w')
  ·cases h
 ·rename_i k x k' y hxs;have:∃ o1 o2,xs=[o1,o2]/\opnd E o1 = .a (.val (.int k x))/\opnd E o2 = .a (.val (.int k' y)):=by
   cases xs with
   | nil=>simp at hxs
   | cons o1 r=>cases r with
    | nil=>simp at hxs
    | cons o2 s=>cases s with
     | nil=>simp at hxs;exact ⟨o1,o2,rfl,hxs.1,hxs.2⟩
     | cons y s=>simp at hxs
  obtain ⟨o1,o2,rfl,h1,h2⟩:=this;split at h
  ·rename_i hk;obtain rfl:=of_decide_eq_true hk;cases h;obtain ⟨e1,i1⟩:=hR.valEq h1;obtain ⟨e2,i2⟩:=hR.valEq h2;refine ⟨_,⟨rfl,?_⟩,λw' => ?_⟩
   ·simp only [Hy,aFR] at i1 i2 ⊢;split <;> assumption
   ·simp [builtin,e1,e2,Builtin.min_,Builtin.min2,aFR]
  ·cases h
 ·rename_i k x k' y hxs;have:∃ o1 o2,xs=[o1,o2]/\opnd E o1 = .a (.val (.int k x))/\opnd E o2 = .a (.val (.int k' y)):=by
   cases xs with
   | nil=>simp at hxs
   | cons o1 r=>cases r with
    | nil=>simp at hxs
    | cons o2 s=>cases s with
     | nil=>simp at hxs;exact ⟨o1,o2,rfl,hxs.1,hxs.2⟩
     | cons y s=>simp at hxs
  obtain ⟨o1,o2,rfl,h1,h2⟩:=this;split at h
  ·rename_i hk;obtain rfl:=of_decide_eq_true hk;cases h;obtain ⟨e1,i1⟩:=hR.valEq h1;obtain ⟨e2,i2⟩:=hR.valEq h2;refine ⟨_,⟨rfl,?_⟩,λw' => ?_⟩
   ·simp only [Hy,aFR] at i1 i2 ⊢;split <;> assumption
   ·simp [builtin,e1,e2,Builtin.max_,Builtin.max2,aFR]
  ·cases h
 ·cases h
theorem oS {A:dD} {u:Value} {t:Ty} {x:t.den} (h:kZ w0 G L V A u) (hd:BF t A=some x):rS w0 G A u:=by
 cases A with
 | osl r rg=>cases t <;> cases hd
 | optr r i p=>cases t <;> cases hd
 | rcd t' ls=>cases t <;> cases hd
 | bptr r o t'=>cases t <;> cases hd
 | _=>exact h
theorem Xc (hR:bT n K w0 G w a E L V own):∀ (l:List (Nat×Operand)),CT w0 G (l.map λp=>(p.1,opnd E p.2)) (l.map λp=>(p.1,a.eval p.2))
 | []=>rfl
 | p :: r=>⟨a.eval p.2,_,rfl,λA hA t x hd=>oS (hR.atom hA) hd,Xc hR r⟩
theorem TP {tab:List TI} (hT:jP P tab) (hR:bT n K w0 G w a E L V own) {wr:Bool} {o:Oper} {cs:List Prop} {pv:PV}
  (h:Uq tab wr E L o.op=some (cs,pv)) (hc:eZ cs) :
  ∃ v,kH w0 G L V pv v/\∀ w',(Up o.op=true->cE [] w w')->(execOp a.eval o).run P w' = .ok (.value v) w':=by
 unfold Uq at h;split at h
 ·rename_i x ho;cases h;exact ⟨_,hR.opnd x,λw' _=>by simp [execOp,ho]⟩
 ·rename_i x ho;cases h;exact ⟨_,hR.opnd x,λw' _=>by simp [execOp,ho]⟩
 ·rename_i x ho;have hx:=hR.opnd x;split at h
  ·rename_i t y hp;cases h;rw [hp] at hx;refine ⟨_,hx,λw' _ => ?_⟩;obtain ⟨b,off,cs,he,_⟩:=hx;simp [execOp,ho,he]
  ·rename_i r i p hp;cases h;rw [hp] at hx;refine ⟨_,hx,λw' _ => ?_⟩;obtain ⟨_,_,_,b,off,m,cap,po,t',_,_,he⟩:=hx;simp [execOp,ho,he]
  ·rename_i r o t hp;cases h;rw [hp] at hx;refine ⟨_,hx,λw' _ => ?_⟩;obtain ⟨_,_,b,off,_,_,_,he,_⟩:=hx;simp [execOp,ho,he]
  ·rename_i f cs hp;cases h;rw [hp] at hx;refine ⟨_,hx,λw' _ => ?_⟩;obtain ⟨vs,he,_⟩:=hx;simp [execOp,ho,he]
  ·cases h
 ·rename_i op T x y yt ho;obtain ⟨v,hv,hr⟩:=aFS hT hR h hc;exact ⟨v,hv,λw' _=>by simp only [execOp,ho];exact fU _ _ _ _ (hr w')⟩
 ·rename_i op T x ho;obtain ⟨v,hv,hr⟩:=aH1 (P:=P) hR h hc;exact ⟨v,hv,λw' _=>by simp only [execOp,ho];exact fU _ _ _ _ (hr w')⟩
 ·rename_i s d x ho;obtain ⟨v,hv,hr⟩:=aBf hT hR h hc;exact ⟨v,hv,λw' _=>by simp only [execOp,ho];exact fU _ _ _ _ (hr w')⟩
 ·rename_i x i ho;have hx:=hR.opnd x;split at h
  ·rename_i xs hp;rw [hp] at hx;split at h
   ·rename_i A hA;cases h;obtain ⟨vs,he,hr⟩:=hx;obtain ⟨v,hv,hv'⟩:=TN hA hr;exact ⟨v,hv',λw' _=>by simp [execOp,ho,he,Instr.extract,hv]⟩
   ·cases h
  ·cases h
 ·rename_i f first caps ho
  split at h
  ·rename_i ats hf has;cases h;have hr:=J6 hR has;refine ⟨_,⟨_,rfl,hr⟩,λw' _ => ?_⟩;have hfe:first = #[]:=by cases first;simp_all
   simp [execOp,ho,Instr.makeFunc,hfe, <- rH]
  ·cases h
 ·rename_i T x ho;split at h
  ·rename_i A t hx ht;split at h
   ·rename_i B hB;cases h;obtain ⟨v,hv,hr⟩:=Ow hR (TI.ty_ok (hT T) ht) (hR.atom hx) hB;exact ⟨v,hv,λw' k=>by simp only [execOp,ho];exact fU _ _ _ _ (hr w' (k (by rw [ho];rfl)))⟩
   ·cases h
  ·cases h
 ·rename_i S x f ho;split at h
  ·rename_i A t hx ht;split at h
   ·rename_i B hB;cases h;have hS:=hT S;rw [ht] at hS;obtain ⟨v,hv,hr⟩:=SR hS (hR.atom hx) hB;exact ⟨v,hv,λw' k=>by simp only [execOp,ho];exact fU _ _ _ _ (hr w')⟩
   ·cases h
  ·cases h
 ·rename_i S x f ho;split at h
  ·rename_i A t hx ht;split at h
   ·rename_i B hB;cases h;have hS:=hT S;rw [ht] at hS;obtain ⟨v,hv,hr⟩:=X8 hS (hR.atom hx) hB;exact ⟨v,hv,λw' k=>by simp only [execOp,ho];exact fU _ _ _ _ (hr w')⟩
   ·cases h
  ·cases h
 ·rename_i T x i ho;split at h
  ·rename_i A k m e t b hx hi ht;split at h
   ·rename_i cs' B hB;cases h;have hS:=hT T;rw [ht] at hS;obtain ⟨v,hv,hr⟩:=SS (k:=k) hS (hR.atom hx) hB hc;exact ⟨v,hv,λw' _=>by simp only [execOp,ho,(hR.valEq hi).1];exact fU _ _ _ _ (hr w')⟩
   ·cases h
  ·cases h
 ·rename_i T x i ho;split at h
  ·rename_i s k m hx hi ht;cases h;simp only [eZ] at hc;have hS:=hT T;rw [ht] at hS;have hb:=λw'=>aBh (P:=P) hS s k m hc.1 hc.2.1 w';exact ⟨_,⟨rfl,(hb w).2⟩,λw' _=>by simp only [execOp,ho,(hR.valEq hi).1,(hR.valEq hx).1];exact fU _ _ _ _ (hb w').1⟩
  ·cases h
 ·rename_i T x lo hi ho;split at h
  ·rename_i A l h' hx hl hh;split at h
   ·rename_i cs' B hok hB;cases h;obtain ⟨ol,rfl,e1⟩:=TO hR hl;obtain ⟨oh,rfl,e2⟩:=TO hR hh;obtain ⟨h1,h2⟩:=aFT hok;obtain ⟨v,hv,hr⟩:=X9 (hT T) h1 (hR.atom hx) h2 hB hc;exact ⟨v,hv,λw' _=>by simp only [execOp,ho,e1,e2,Option.map_none];exact fU _ _ _ _ (hr w')⟩
   ·cases h
  ·cases h
 ·rename_i T parts ho;split at h
  ·rename_i t ht;have asSt:∀ {x:t.den},t.agg=true->Li t t.dflt (parts.toList.map λp=>(p.1,opnd E p.2))=some x->∃ v,kH w0 G L V (.a (.st t x)) v/\∀ w',(Up o.op=true->cE [] w w')->(execOp a.eval o).run P w' = .ok (.value v) w':=by
    intro x ha hb;have hS:=hT T;rw [ht] at hS;obtain ⟨cs,hr,hrun⟩:=aFQ hS ha hb (Xc hR parts.toList);refine ⟨_,⟨cs,rfl,hr⟩,λw' _ => ?_⟩;simp only [execOp,ho];refine fU _ _ _ _ ?_;have:=hrun w';have e:(parts.map λp=>(p.1,a.eval p.2))=(parts.toList.map λp=>(p.1,a.eval p.2)).toArray:=by
     rw [<- rH]
    have e':(aHk (λx=>match x with | (i,x)=>(i,a.eval x)) parts)=(parts.map λp=>(p.1,a.eval p.2)):=rfl;rw [e',e];exact this
   have asRcd:∀ {ls:List fT},DA t (zLs t) (parts.toList.map λp=>(p.1,opnd E p.2))=some ls->∃ v,kH w0 G L V (.a (.rcd t ls)) v/\∀ w',(Up o.op=true->cE [] w w')->(execOp a.eval o).run P w' = .ok (.value v) w':=by
    intro ls hls;have hS:=hT T;rw [ht] at hS;obtain ⟨cs,hl,hr,hrun⟩:=Xb hS hR hls;refine ⟨_,⟨cs,rfl,hl,hr⟩,λw' _ => ?_⟩;simp only [execOp,ho];refine fU _ _ _ _ ?_;have:=hrun w';have e:(parts.map λp=>(p.1,a.eval p.2))=(parts.toList.map λp=>(p.1,a.eval p.2)).toArray:=by
     rw [<- rH]
    have e':(aHk (λx=>match x with | (i,x)=>(i,a.eval x)) parts)=(parts.map λp=>(p.1,a.eval p.2)):=rfl;rw [e',e];exact this
   split at h
   ·rename_i x ha hb;split at h
    ·rename_i ls hf hls;split at h
     ·cases h;exact asRcd hls
     ·cases h;exact asSt ha hb
    ·cases h;exact asSt ha hb
   ·split at h
    ·rename_i ls hls;cases h;exact asRcd hls
    ·cases h
  ·cases h
 ·rename_i b args ts ho;obtain ⟨v,hv,hr⟩:=SU hT hR h hc o.type (args.map fun | .const _=>true | _=>false);refine ⟨v,hv,λw' _ => ?_⟩;have:=hr w';simp only [execOp,ho,resolve,bO,cM,aW,invoke];have e:args.map a.eval=(args.toList.map a.eval).toArray:=by rw [<- rH]
  rw [e];exact this
 ·cases h
end
def uS (P : Program) (f : FuncId) : Prop := ∃ fn, P.funcs[f]? = some fn /\ (fn.name == "runtime.NumGoroutine") = false /\ fn.body.isNone = false
abbrev sE:=List (FuncId×Spec)
def nQ (P:Program):sE->Prop
 | []=>True
 | (f,S) :: r=>(uS P f/\jC P f S)/\nQ P r
def yR {α:Type} (rg:Option (Nat×Nat)) (xs:List α):List α :=
 match rg with
 | none=>xs
 | some (lo,hi)=>(xs.take hi).drop lo
def nR {t e:Ty} (h:t=e) (xs:List t.den):List e.den:=h ▸ xs
def aEz {t e:Ty} (h:t=e) (x:t.den):e.den:=h ▸ x
def slR (L:bG) (e:Ty):fT->Option (List e.den)
 | .val (.slice none _ _)=>some []
 | .sl t xs=>if h:t=e then some (nR h xs) else none
 | .osl r rg=>match b7 L r with
  | some A=>if h:A.t=e then some (yR rg (nR h A.xs)) else none
  | none=>none
 | _=>none
def ID (L:bG):(t:Ty)->List fT->Option t.den
 | .sl e,ls=>match ls with
  | [l]=>slR L e l
  | _=>none
 | .cons a b,ls=>match ID L a (ls.take a.size),ID L b (ls.drop a.size) with
  | some x,some y=>some (x,y)
  | _,_=>none
 | t,ls=>sY t ls
def slW (L:bG) (e:Ty):fT->Option (List e.den×List Nat)
 | .val (.slice none _ _)=>some ([],[])
 | .osl r none=>match b7 L r with
  | some A=>match A.bor with
   | true=>none
   | false=>if h:A.t=e then some (nR h A.xs,[r]) else none
  | none=>none
 | .osl r (some (lo,hi))=>match b7 L r with
  | some A=>match e.flat && !A.bor with
   | true=>if h:A.t=e then some (yR (some (lo,hi)) (nR h A.xs),[r]) else none
   | false=>none
  | none=>none
 | _=>none
def qC (L:bG):(t:Ty)->List fT->Option (t.den×List Nat)
 | .sl e,ls=>match ls with
  | [l]=>slW L e l
  | _=>none
 | .cons a b,ls=>match qC L a (ls.take a.size),qC L b (ls.drop a.size) with
  | some (x,us),some (y,vs)=>some ((x,y),us++vs)
  | _,_=>none
 | t,ls=>match sY t ls with
  | some x=>some (x,[])
  | none=>none
def aFU (L:bG):(t:Ty)->dD->Option t.den
 | .sl e,.osl r rg=>match b7 L r with
  | some A=>if h:A.t=e then some (yR rg (nR h A.xs)) else none
  | none=>none
 | t,.rcd t' ls=>match decide (t'=t),t.agg with
  | true,true=>ID L t ls
  | _,_=>none
 | t,A=>BF t A
def aH2 (L:bG) (t:Ty):dD->Option t.den
 | .ptr t' x=>if h:t'=t then some (aEz h x) else none
 | .optr r i p=>match b7 L r with
  | some A=>match J2 p ⟨A.t,A.xs.getD i A.t.dflt⟩ with
   | some d=>if h:d.t=t then some (aEz h d.x) else none
   | none=>none
  | none=>none
 | .bptr r o t'=>match decide (t'=t),b7 L r with
  | true,some A=>match A.ls with
   | some ls=>ID L t ((ls.drop o).take t.size)
   | none=>none
  | _,_=>none
 | _=>none
def IE:fT->List Nat
 | .osl r _=>[r]
 | _=>[]
def iF:List fT->List Nat
 | []=>[]
 | l :: r=>IE l++iF r
def sG:dD->List Nat
 | .osl r _=>[r]
 | .optr r _ _=>[r]
 | .rcd _ ls=>iF ls
 | .bptr r _ _=>[r]
 | _=>[]
def EU (L:bG):dD->List Nat
 | .bptr r _ _=>match b7 L r with
  | some A=>match A.ls with
   | some ls=>r :: iF ls
   | none=>[r]
  | none=>[r]
 | A=>sG A
def yY (L:bG):(caps:List (Bool×Ty))->List dD->Option (uO caps×List Nat)
 | [],[]=>some ((),[])
 | (true,t) :: r,A :: s=>match aH2 L t A,yY L r s with
  | some x,some (y,us)=>some ((x,y),EU L A++us)
  | _,_=>none
 | (false,t) :: r,A :: s=>match BF t A,yY L r s with
  | some x,some (y,us)=>some ((x,y),us)
  | _,_=>none
 | _,_=>none
def aMF {α:Type}:List α->Option α
 | [x]=>some x
 | _=>none
def aE0 (L:bG) (t:Ty):dD->Option (t.den×List Nat)
 | .optr r 0 []=>match b7 L r with
  | some A=>match A.bor,A.ls,A.sm with
   | true,none,some _=>if h:A.t=t then (match aMF (nR h A.xs) with | some x=>some (x,[r]) | none=>none) else none
   | _,_,_=>none
  | none=>none
 | _=>none
def aE1 (L:bG) (t:Ty):dD->Option (t.den×List Nat)
 | .bptr r 0 t'=>match decide (t'=t),b7 L r with
  | true,some A=>match A.ls,decide (A.t=t)&&A.xs.isEmpty with
   | some ls,true=>match qC L t ls with
    | some (x,us)=>some (x,r :: us)
    | none=>none
   | _,_=>none
  | _,_=>none
 | _=>none
def aE2 (L:bG) (t:Ty):dD->Option (t.den×List Nat)
 | .rcd t' ls=>match decide (t'=t) with
  | true=>qC L t ls
  | false=>none
 | _=>none
def aMG:List (Option Nat)->List Nat->Bool
 | [],[]=>true
 | some a :: r,b :: s=>match cG a b with | true=>aMG r s | false=>false
 | _,_=>false
theorem aE3:∀ {xs:List (Option Nat)} {fs:List Nat},aMG xs fs=true->xs=fs.map some
 | [],[],_=>rfl
 | some a :: r,b :: s,h=>by
  simp only [aMG] at h;split at h
  ·rename_i hab;rw [aX hab,aE3 h];rfl
  ·cases h
 | [],_ :: _,h=>by cases h
 | none :: _,_,h=>by cases h
 | some _ :: _,[],h=>by cases h
def sH (L:bG):(a:AT)->PV->Option (a.den×List Nat×List Nat)
 | .v t,.a A=>match aFU L t A with | some x=>some (x,[],EU L A) | none=>none
 | .p t,.a A=>match aH2 L t A with | some x=>some (x,[],EU L A) | none=>none
 | .own t,.a (.osl r none)=>match b7 L r with
  | some A=>match A.bor with
   | true=>none
   | false=>if h:A.t=t then some (nR h A.xs,[r],[]) else none
  | none=>none
 | .pb t,.a A=>match aE0 L t A with | some (x,us)=>some (x,us,[]) | none=>none
 | .po t,.a A=>match aE1 L t A with | some (x,us)=>some (x,us,[]) | none=>none
 | .sv t,.a A=>match aE2 L t A with | some (x,us)=>some (x,us,[]) | none=>none
 | .fns fs,.a A=>match aFU L (.sl .fn) A with | some x=>(match aMG x fs with | true=>some ((),[],EU L A) | false=>none) | none=>none
 | .fn f caps,.fn g ats=>match cG f g,yY L caps ats with
  | true,some (x,us)=>some (x,[],us)
  | _,_=>none
 | _,_=>none
def smA (L:bG):AT->PV->Bool
 | .pb _,.a (.optr r _ _)=>match b7 L r with
  | some A=>match A.sm with
   | some true=>true
   | _=>false
  | none=>false
 | _,_=>true
def nZ (L:bG):List AT->List PV->Bool
 | a :: r,p :: s=>smA L a p&&nZ L r s
 | _,_=>true
def sR (L:bG):(sig:List AT)->List PV->Option (fX sig×List (List Nat)×List Nat)
 | [],[]=>some ((),[],[])
 | a :: r,p :: s=>match sH L a p,sR L r s with
  | some (x,o,u),some (y,os,us)=>some ((x,y),o :: os,u++us)
  | _,_=>none
 | _,_=>none
def vJ (n:Nat):List Nat->Bool
 | []=>false
 | m :: r=>cG n m||vJ n r
def TQ:List Nat->List Nat->Bool
 | [],_=>true
 | n :: r,l => !(vJ n l)&&TQ r l
def x8:List Nat->Bool
 | []=>true
 | n :: r => !(vJ n r)&&x8 r
theorem zX {n:Nat}:∀ {l:List Nat},vJ n l=true↔n∈l
 | []=>by simp [vJ]
 | m :: r=>by simp [vJ,zX (l:=r)]
theorem IF:∀ {l m:List Nat},TQ l m=true->∀ n∈l,n ∉ m
 | [],_,_,n,hn=>by cases hn
 | k :: r,m,h,n,hn=>by
  simp only [TQ,aJ,cW] at h;rcases aR.1 hn with rfl | hn
  ·intro hm;rw [zX.2 hm] at h;cases h.1
  ·exact IF h.2 n hn
theorem BQ:∀ {l:List Nat},x8 l=true->l.Nodup
 | [],_=>fS
 | k :: r,h=>by
  simp only [x8,aJ,cW] at h;refine j7.2 ⟨λhm => ?_,BQ h.2⟩;rw [zX.2 hm] at h;cases h.1
section
variable {P:Program} {n:Nat} {K:jK} {G G':Nat->Prop} {w0 w:World} {a:Act} {E:eD} {L:bG} {V:Nat->Value} {own:Nat->List Nat}
theorem lT.sub {w:World} {G:Nat->Prop} {α:Type} {R:α->List Value->Prop} {sz nn lo hi:Nat} {xs:List α} {V v:Value} (h:lT w G R sz xs V) (hs:X4 sz xs.length V lo hi v) :
  lT w G R sz ((xs.take hi).drop lo) v:=by
 obtain ⟨h1,h2,h3⟩:=hs;have hlen:((xs.take hi).drop lo).length=hi - lo:=by simp;omega
 refine ⟨by rw [hlen];have:=h.1;omega,?_⟩;rcases h3 with ⟨_,_,hV,rfl,hz⟩ | ⟨b,off,m,cap,o,c,hV,rfl,hle,hcase⟩
 ·exact .inl ⟨_,rfl,b5 (by rw [hlen];omega)⟩
 ·rcases h.2 with ⟨_,h5,hx0⟩ | ⟨b',off',cap',h5,h6,h7,h8,h9⟩
  ·rw [h5] at hV;cases hV;have hl0:hi - lo=0:=by rw [hx0] at h2;simp at h2;omega
   have hc0:c=0:=by rcases hcase with ⟨_,h⟩ | ⟨h,_⟩ <;> omega
   exact .inl ⟨_,by rw [hl0,hc0],b5 (by rw [hlen];omega)⟩
  ·rw [h5] at hV;cases hV;rw [<- hlen] at hle ⊢;by_cases hc0:c=0
   ·subst hc0;refine .inr ⟨_,o,0,rfl,hle,bW _,h8,λi x hx => ?_⟩;have:=(bH.1 hx).1;omega
   ·obtain ⟨ho,hcap⟩:=hcase.resolve_right (λh=>hc0 h.1);refine .inr ⟨_,o,c,rfl,hle,by omega,h8,λi x hx => ?_⟩;have hx':xs[lo+i]? = some x:=by
     rw [gL,eY] at hx;split at hx
     ·exact hx
     ·cases hx
    obtain ⟨cs,hl,hcs,hr⟩:=h9 _ x hx';refine ⟨cs,hl,λj cc hj => ?_,hr⟩;have:=hcs j cc hj
    rwa [ho,dV off, <- dL]
theorem lT.whole {w:World} {G:Nat->Prop} {α:Type} {R:α->List Value->Prop} {sz:Nat} {xs:List α} {V v:Value} (h:lT w G R sz xs V) (hs:X4 sz xs.length V 0 xs.length v):lT w G R sz xs v:=by
 have:=h.sub (nn:=0) hs
 rwa [gU,iS] at this
theorem bT.lend (hR:bT n K w0 G w a E L V own) {w':World} (k:cE [] w w') (hG:∀ b,G b->G' b) {r:Nat} {A:hY} (h:b7 L r=some A) (hd:∀ b∈own r,G' b) :
  lT w' G' (dW w' G' A.t) A.t.size A.xs (V r):=by
 have h1:=(hR.heap r A h).keep (w':=w') λb hb=>k.block b (hR.own_lt h b hb) (by simp);refine vK.read (λx cs bi hs hr => ?_) hd h1;revert hr;unfold lO;cases A.bor with
 | true=>exact λhr=>hr.1.keep hG (hR.keepG k)
 | false=>exact λhr=>gB.read (λb hb=>hd b (hs b hb)) hr
theorem Xd {w:World} {G:Nat->Prop} {t:Ty} {A:dD} {x:t.den} {v:Value} (h:rS w G A v) (hd:BF t A=some x):rS w G (iG t x) v:=by
 obtain ⟨cs,hr,rfl⟩:=zR h hd;exact hr.repB
theorem aBi {w:World} {G:Nat->Prop} {t e:Ty} (h:t=e) {xs:List t.den} {v:Value} (hx:lT w G (dW w G t) t.size xs v):lT w G (dW w G e) e.size (nR h xs) v:=by
 subst h;exact hx
theorem TR (hR:bT n K w0 G w a E L V own) {w':World} (k:cE [] w w') (hG:∀ b,G b->G' b) {r:Nat} {rg:Option (Nat×Nat)} {A:hY} {v:Value} (hv:Ld L V r rg v) (hA:b7 L r=some A) (hd:∀ b∈own r,G' b):lT w' G' (dW w' G' A.t) A.t.size (yR rg A.xs) v:=by
 obtain ⟨B,hB,_,hs⟩:=hv;rw [hA] at hB;cases hB;have hsl:=hR.lend k hG hA hd;cases rg with
 | none=>exact hsl.whole hs
 | some q=>obtain ⟨lo,hi⟩:=q;exact hsl.sub (nn:=0) hs
theorem DC (hR:bT n K w0 G w a E L V own) {w':World} (k:cE [] w w') (hG:∀ b,G b->G' b):∀ {t:Ty} {ls:List fT} {x:t.den} {cs:List Value},gV w0 G L V ls cs->ID L t ls=some x->(∀ r∈iF ls,∀ b∈own r,G' b)->dW w' G' t x cs
 | .int k',ls,x,cs,hr,h,_=>(jA (t := .int k') hr h).keep hG (hR.keepG k)
 | .bool,ls,x,cs,hr,h,_=>(jA (t := .bool) hr h).keep hG (hR.keepG k)
 | .fn,ls,x,cs,hr,h,_=>(jA (t := .fn) hr h).keep hG (hR.keepG k)
 | .str,ls,x,cs,hr,h,_=>(jA (t := .str) hr h).keep hG (hR.keepG k)
 | .unit,ls,x,cs,hr,h,_=>(jA (t := .unit) hr h).keep hG (hR.keepG k)
 | .sl e,ls,x,cs,hr,h,hd=>by
  simp only [ID] at h;split at h
  ·rename_i l;obtain ⟨v,r,rfl,h1,h2⟩:=hr;cases h2;refine ⟨v,rfl,?_⟩;unfold slR at h;split at h
   ·cases h;obtain ⟨rfl,⟨h3,h4⟩,_⟩:=h1;subst h3 h4;exact ⟨bW _,.inl ⟨_,rfl,rfl⟩⟩
   ·split at h
    ·rename_i ht;cases h;exact aBi ht (lT.keep (λ_ _=>dW.keep hG (hR.keepG k)) hG (hR.keepG k) h1)
    ·cases h
   ·rename_i r rg;split at h
    ·rename_i A hA;split at h
     ·rename_i ht;cases h;subst ht;exact TR hR k hG h1 hA (hd r (by simp [iF,IE]))
     ·cases h
    ·cases h
   ·cases h
  ·cases h
 | .cons p q,ls,x,cs,hr,h,hd=>by
  simp only [ID] at h;split at h
  ·rename_i y z hy hz;cases h;have hsplit:∀ (k:Nat) (ls:List fT),iF ls=iF (ls.take k)++iF (ls.drop k):=by
    intro k
    induction k with
    | zero=>intro ls;simp [iF]
    | succ k ih =>
     intro ls;cases ls with
     | nil=>simp [iF]
     | cons l r=>simp only [yV,H4,iF,bS, <- ih r]
   refine ⟨cs.take p.size,cs.drop p.size,(eU _ _).symm,DC hR k hG (oR _ hr) hy λr hr'=>hd r ?_,DC hR k hG (oQ _ hr) hz λr hr'=>hd r ?_⟩
   ·rw [hsplit p.size ls];exact bQ _ hr'
   ·rw [hsplit p.size ls];exact bF _ hr'
  ·cases h
theorem TS {ls:List fT} {r:Nat} (k:Nat):r∈iF (ls.take k)\/r∈iF (ls.drop k)->r∈iF ls:=by
 have hsplit:∀ (k:Nat) (ls:List fT),iF ls=iF (ls.take k)++iF (ls.drop k):=by
  intro k
  induction k with
  | zero=>intro ls;simp [iF]
  | succ k ih =>
   intro ls;cases ls with
   | nil=>simp [iF]
   | cons l r=>simp only [yV,H4,iF,bS, <- ih r]
 intro h;rw [hsplit k ls];exact bU.2 h
theorem J7 (hR:bT n K w0 G w a E L V own) {w':World} (k:cE [] w w') (hG:∀ b,G b->G' b) {t:Ty} {A:dD} {x:t.den} {v:Value} (hA:kZ w0 G L V A v)
  (hd:aFU L t A=some x) (hdis:∀ r∈EU L A,∀ b∈own r,G' b):rS w' G' (iG t x) v:=by
 have borrowed:BF t A=some x->rS w' G' (iG t x) v:=λh =>
  Xd (lP hG (hR.keepG k) (oS hA h)) h
 unfold aFU at hd;split at hd
 ·rename_i e r rg;split at hd
  ·rename_i B hB;split at hd
   ·rename_i hBe;subst hBe;cases hd;exact TR hR k hG hA hB (hdis r (by simp [EU,sG]))
   ·cases hd
  ·cases hd
 ·rename_i t' ls;split at hd
  ·rename_i ht ha;obtain rfl:=of_decide_eq_true ht;obtain ⟨cs,rfl,hl,hr⟩:=hA;have:=(DC hR k hG hr hd hdis).repB
   rwa [gH,if_pos ha] at this
  ·cases hd
 ·exact borrowed hd
theorem TT {w:World} {G:Nat->Prop} {t t':Ty} (h:t'=t) {x:t'.den} {v:Value} (hp:Ej w G t' x v):Ej w G t (aEz h x) v:=by
 subst h;exact hp
theorem PB (hR:bT n K w0 G w a E L V own) {w':World} (k:cE [] w w') (hG:∀ b,G b->G' b) {t:Ty} {A:dD} {x:t.den} {v:Value} (hA:kZ w0 G L V A v)
  (hd:aH2 L t A=some x) (hdis:∀ r∈EU L A,∀ b∈own r,G' b):Ej w' G' t x v:=by
 unfold aH2 at hd;split at hd
 ·rename_i t' y;split at hd
  ·rename_i ht;cases hd;exact TT ht (lP (A := .ptr t' y) hG (hR.keepG k) hA)
  ·cases hd
 ·rename_i r i p;split at hd
  ·rename_i B hB;split at hd
   ·rename_i d hpd;split at hd
    ·rename_i ht;cases hd;refine TT ht ?_;obtain ⟨B',hB',hi,b,off,m,cap,po,t',hv,hp,rfl⟩:=hA;rw [hB] at hB';cases hB';have hown:=hR.heap r B hB;obtain ⟨cs,bi,hc,ho,hsub,hb⟩:=Ov hown hv (oP B.xs i B.t.dflt hi);have hGo:=hdis r (by simp [EU,sG]);have hblt:∀ c∈own r,c<w.heap.size:=hR.own_lt hB;have hrep:t'=d.t/\dW w' G' d.t d.x ((cs.drop po).take d.t.size):=by
      revert ho;unfold lO;cases hbor:B.bor with
      | true =>
       intro ho;obtain ⟨o,ho1,ho2,ho3⟩:=Lh hpd ho.1;rw [hp] at ho1;cases ho1;exact ⟨rfl,ho2.keep hG (hR.keepG k)⟩
      | false =>
       intro ho;obtain ⟨o,bs',ho1,ho2,ho3,ho4⟩:=Lg hpd ho;rw [hp] at ho1;cases ho1;exact ⟨rfl,(ho2.keep (w':=w') λc hc=>k.block c (hblt c (hsub c (ho4 c hc))) (by simp)).read λc hc=>hGo c (hsub c (ho4 c hc))⟩
     obtain ⟨rfl,hrep⟩:=hrep;exact ⟨b,_,(cs.drop po).take d.t.size,rfl,hGo b hb,(hc.sub po _).keep (k.block b (hblt b hb) (by simp)),hrep⟩
    ·cases hd
   ·cases hd
  ·cases hd
 ·rename_i r o t';split at hd
  ·rename_i B ht hB;obtain rfl:=of_decide_eq_true ht;split at hd
   ·rename_i ls hls;obtain ⟨B',ls',b,off,hB',hls',hv,rfl,hsz⟩:=hA;rw [hB] at hB';cases hB';rw [hls] at hls';cases hls';obtain ⟨b1,off1,cs,e1,e3,e4,e5,e6⟩:=hR.boxs r B ls hB hls;rw [hv] at e1;cases e1;have hb:=(hR.heap r B hB).block hv (aT _);have hlt:=hR.own_lt hB b hb;simp only [EU,hB,hls] at hdis;exact ⟨b,off+o,(cs.drop o).take t'.size,rfl,hdis r (aQ ..) b hb,(kK.sub e5 o _).keep (k.block b hlt (by simp)),
     DC hR k hG (oR _ (oQ _ e6)) hd λs hs=>hdis s (aM _ (TS o (.inr (TS t'.size (.inl hs)))))⟩
   ·cases hd
  ·cases hd
 ·cases hd
theorem Ep (hR:bT n K w0 G w a E L V own) {w':World} (k:cE [] w w') (hG:∀ b,G b->G' b):∀ {caps:List (Bool×Ty)} {ats:List dD} {x:uO caps} {us:List Nat} {vs:List Value},
  yY L caps ats=some (x,us)->rQ w0 G L V ats vs->(∀ r∈us,∀ b∈own r,G' b)->yX w' G' caps x vs
 | [],[],x,us,vs,h,hr,_=>hr
 | (true,t) :: r,A :: s,x,us,vs,h,hr,hd=>by
  obtain ⟨v,vs',rfl,h1,h2⟩:=hr;simp only [yY] at h;split at h
  ·rename_i y z us' hy hz;cases h;exact ⟨v,vs',rfl,PB hR k hG h1 hy (λr hr=>hd r (bQ _ hr)),Ep hR k hG hz h2 (λr hr=>hd r (bF _ hr))⟩
  ·cases h
 | (false,t) :: r,A :: s,x,us,vs,h,hr,hd=>by
  obtain ⟨v,vs',rfl,h1,h2⟩:=hr;simp only [yY] at h;split at h
  ·rename_i y z us' hy hz;cases h;exact ⟨v,vs',rfl,Xd (lP hG (hR.keepG k) (oS h1 hy)) hy,Ep hR k hG hz h2 hd⟩
  ·cases h
 | [],_ :: _,_,_,_,h,_,_=>by cases h
 | (true,_) :: _,[],_,_,_,h,_,_=>by cases h
 | (false,_) :: _,[],_,_,_,h,_,_=>by cases h
def zY (w0:World) (G:Nat->Prop) (L:bG) (V:Nat->Value):List PV->List Value->Prop
 | [],vs=>vs=[]
 | p :: r,vs=>∃ v s,vs=v :: s/\kH w0 G L V p v/\zY w0 G L V r s
theorem bT.opnds (hR:bT n K w0 G w a E L V own):∀ xs:List Operand,zY w0 G L V (xs.map (Am.opnd E)) (xs.map a.eval)
 | []=>rfl
 | x :: r=>⟨_,_,rfl,hR.opnd x,hR.opnds r⟩
theorem NK:∀ {ats:List dD} {vs:List Value},rQ w0 G L V ats vs->zY w0 G L V (ats.map PV.a) vs
 | [],vs,h=>h
 | A :: s,vs,⟨v,r,h,h1,h2⟩=>⟨v,r,h,h1,NK h2⟩
theorem J8:∀ {ps qs:List PV} {vs us:List Value},zY w0 G L V ps vs->zY w0 G L V qs us->zY w0 G L V (ps++qs) (vs++us)
 | [],qs,vs,us,h,h2=>by cases h;exact h2
 | p :: r,qs,vs,us,⟨v,s,h,h1,h3⟩,h2=>by subst h;exact ⟨v,_,rfl,h1,J8 h3 h2⟩
def sI (own:Nat->List Nat) (os:List (List Nat)):List (List Nat):=os.map λl=>(l.map own).flatten
theorem aFV {w:World} {t t':Ty} (h:t'=t) {xs:List t'.den} {cs:List Value} {bs:List Nat} (hp:gB w (.sl t') xs cs bs):gB w (.sl t) (nR h xs) cs bs:=by
 subst h;exact hp
theorem aMH {w:World} {t:Ty} (hf:t.flat=true) {xs:List t.den} {V v:Value} {bs:List Nat} {lo hi:Nat} (h:gB w (.sl t) xs [V] bs) (hs:X4 t.size xs.length V lo hi v):gB w (.sl t) (yR (some (lo,hi)) xs) [v] bs:=by
 obtain ⟨V',hV,h⟩:=h;cases hV;obtain ⟨hlo,hhi,hcase⟩:=hs;have hlen:(yR (some (lo,hi)) xs).length=hi - lo:=by
  show ((xs.take hi).drop lo).length=hi - lo;rw [fD,cJ];omega
 refine ⟨v,rfl,by rw [hlen];have:=h.1;omega,?_⟩;rcases h.2 with ⟨ad,h1,h2,h3⟩ | ⟨b,off,cap,cur,ty,fz,bss,h1,h2,h3,h4,h5,h6,h7,h8,h9⟩
 ·subst h2;have h0:hi - lo=0:=by simp at hhi;omega
  have hnil:yR (some (lo,hi)) ([]:List t.den)=[]:=b5 (by rw [hlen,h0]);rcases hcase with ⟨_,ad',_,hv,_⟩ | ⟨b,off,m,cap,o,c,hV,hv,hc,hcase⟩
  ·exact .inl ⟨ad',hv,hnil,h3⟩
  ·rw [h1] at hV;simp only [j0] at hV;obtain ⟨_,_,hcap⟩:=hV;have:c=0:=by rcases hcase with ⟨_,e⟩ | ⟨e,_⟩ <;> omega
   subst this;exact .inl ⟨_,by rw [hv,h0],hnil,h3⟩
 ·have hbn:∀ l∈bss,l=[]:=λl hl=>by
   obtain ⟨i,hi',rfl⟩:=List.mem_iff_getElem.1 hl;have hx:i<xs.length:=by rw [<- h7];exact hi'
   obtain ⟨cs,_,_,hr⟩:=h9 i _ _ (bC hx) (bC hi');exact (hr.flat (w':=w) (G:=λ_=>True) hf).2
  have hb:bss.flatten=[]:=oE.2 hbn;rcases hcase with ⟨_,_,hV,hv,h0⟩ | ⟨b',off',m,cap',o,c,hV,hv,hc,hcase⟩
  ·obtain ⟨h0,rfl⟩:=h0;have hx0:xs=[]:=b5 h0;subst hx0;have hnil:yR (some (lo,hi)) ([]:List t.den)=[]:=b5 (by rw [hlen];simp at hhi;omega);rw [hnil,hv, <- hV];exact .inr ⟨b,off,cap,cur,ty,fz,bss,h1,h2,h3,h4,h5,h6,h7,h8,h9⟩
  ·rw [h1] at hV;cases hV;refine .inr ⟨b,o,c,cur,ty,fz,((bss.take hi).drop lo),by rw [hv,hlen],by rw [hlen];exact hc,by omega,?_,h5,h6,by rw [hlen,fD,cJ,h7];omega,?_,λi x bi hx hbi => ?_⟩
   ·rcases hcase with ⟨e1,e2⟩ | ⟨e1,e2⟩
    ·have:(lo+c)*t.size<=cap*t.size:=dA _ e2;rw [dL] at this;omega
    ·rw [e1];omega
   ·have:((bss.take hi).drop lo).flatten=[]:=oE.2 λl hl=>hbn l (List.mem_of_mem_take (List.mem_of_mem_drop hl));rw [h8,hb,this]
   ·have hx':xs[lo+i]? = some x:=by
     change ((xs.take hi).drop lo)[i]? = some x at hx
     rw [gL,eY] at hx;split at hx
     ·exact hx
     ·cases hx
    have hb':bss[lo+i]? = some bi:=by
     rw [gL,eY] at hbi;split at hbi
     ·exact hbi
     ·cases hbi
    obtain ⟨cs,e1,e2,e3⟩:=h9 (lo+i) x bi hx' hb';refine ⟨cs,e1,λj u hj => ?_,e3⟩;have hi0:i<hi - lo:=by
     rw [<- hlen];exact (bH.1 hx).1
    rcases hcase with ⟨f1,_⟩ | ⟨f1,_⟩
    ·have:=e2 j u hj;rw [dL] at this;rw [f1]
     rwa [show off+lo*t.size+i*t.size+j=off+(lo*t.size+i*t.size)+j by omega]
    ·omega
theorem Ur (hR:bT n K w0 G w a E L V own) {e:Ty} {l:fT} {x:List e.den} {us:List Nat} {v:Value} (hr:Oi w0 G L V l v) (h:slW L e l=some (x,us)) :
  gB w (.sl e) x [v] (us.map own).flatten/\∀ r∈us,∃ B,b7 L r=some B:=by
 unfold slW at h;split at h
 ·cases h;obtain ⟨rfl,⟨h3,h4⟩,_⟩:=hr;subst h3 h4;exact ⟨⟨_,rfl,bW _,.inl ⟨_,rfl,rfl,rfl⟩⟩,λr hr=>by cases hr⟩
 ·rename_i r;split at h
  ·rename_i B hB;split at h
   ·cases h
   ·rename_i hbor;split at h
    ·rename_i he;cases h;obtain ⟨B',hB',h1,_⟩:=hr;rw [hB] at hB';cases hB';refine ⟨?_,λs hs=>⟨B,by rw [bI.1 hs];exact hB⟩⟩;have:=hR.heap r B hB;obtain ⟨t',xs,bor,_,_⟩:=B;simp only at hbor he;subst hbor he;rw [h1 rfl];simp only [bP,kM,bK,jG,c6];exact fW.own.1 this
    ·cases h
  ·cases h
 ·rename_i r lo hi;split at h
  ·rename_i B hB;split at h
   ·rename_i hfb;split at h
    ·rename_i he;cases h;obtain ⟨B',hB',_,h2⟩:=hr;rw [hB] at hB';cases hB';have hent:=hR.heap r B hB;obtain ⟨t',xs,bor,bls,bsm⟩:=B;simp only [aJ,cW] at hfb he;obtain ⟨hf,hbor⟩:=hfb;subst hbor he;refine ⟨?_,λs hs=>⟨⟨t',xs,false,bls,bsm⟩,by rw [bI.1 hs];exact hB⟩⟩;simp only [bP,kM,bK,jG,c6];exact aMH hf (fW.own.1 hent) h2
    ·cases h
   ·cases h
  ·cases h
 ·cases h
theorem CU (hR:bT n K w0 G w a E L V own):∀ {t:Ty} {ls:List fT} {x:t.den} {us:List Nat} {cs:List Value},gV w0 G L V ls cs->qC L t ls=some (x,us)->gB w t x cs (us.map own).flatten/\∀ r∈us,∃ B,b7 L r=some B
 | .int k',ls,x,us,cs,hr,h=>by
  simp only [qC] at h;split at h
  ·rename_i y hy;cases h;exact ⟨(jA (t := .int k') hr hy).own rfl,λr hr=>by cases hr⟩
  ·cases h
 | .bool,ls,x,us,cs,hr,h=>by
  simp only [qC] at h;split at h
  ·rename_i y hy;cases h;exact ⟨(jA (t := .bool) hr hy).own rfl,λr hr=>by cases hr⟩
  ·cases h
 | .fn,ls,x,us,cs,hr,h=>by
  simp only [qC] at h;split at h
  ·rename_i y hy;cases h;exact ⟨(jA (t := .fn) hr hy).own rfl,λr hr=>by cases hr⟩
  ·cases h
 | .str,ls,x,us,cs,hr,h=>by
  simp only [qC] at h;split at h
  ·rename_i y hy;cases h;exact ⟨(jA (t := .str) hr hy).own rfl,λr hr=>by cases hr⟩
  ·cases h
 | .unit,ls,x,us,cs,hr,h=>by
  simp only [qC] at h;split at h
  ·rename_i y hy;cases h;exact ⟨(jA (t := .unit) hr hy).own rfl,λr hr=>by cases hr⟩
  ·cases h
 | .sl e,ls,x,us,cs,hr,h=>by
  simp only [qC] at h;split at h
  ·rename_i l;obtain ⟨v,r,rfl,h1,h2⟩:=hr;cases h2;exact Ur hR h1 h
  ·cases h
 | .cons p q,ls,x,us,cs,hr,h=>by
  simp only [qC] at h;split at h
  ·rename_i y ys z zs hy hz;cases h;obtain ⟨h1,h2⟩:=CU hR (oR p.size hr) hy;obtain ⟨h3,h4⟩:=CU hR (oQ p.size hr) hz;refine ⟨⟨_,_,_,_,(eU p.size cs).symm,by rw [gQ,fK],h1,h3⟩,λr hr => ?_⟩;rcases bU.1 hr with hr | hr
   ·exact h2 r hr
   ·exact h4 r hr
  ·cases h
theorem Us {α:Type} {l:List α} {x:α} (h:aMF l=some x):l=[x]:=by
 match l,h with
 | [y],h=>cases h;rfl
theorem aMI (hR:bT n K w0 G w a E L V own) {r:Nat} {A:hY} {ls:List fT} {b off:Nat} (hA:b7 L r=some A) (hls:A.ls=some ls) (hx:A.xs=[]) (hv:V r = .slice (some ⟨b,off,none⟩) 0 1) {t:Ty} (ht:A.t=t) {x:t.den} {us:List Nat} (ho:qC L t ls=some (x,us)) :
  aM8 w t x (.pointer (some ⟨b,off,none⟩)) (own r++(us.map own).flatten)/\∀ s∈us,∃ B,b7 L s=some B:=by
 subst ht;obtain ⟨b1,off1,cs,e1,e3,e4,e5,e6⟩:=hR.boxs r A ls hA hls;rw [hv] at e1;cases e1;obtain ⟨h1,h2⟩:=CU hR e6 ho;refine ⟨⟨b,off,rfl,by simp [maxLen],?_⟩,h2⟩;rcases (hR.heap r A hA).2 with ⟨_,g1,_,_⟩ | ⟨b',off',cap',cur,ty,fz,bss,g1,g2,g3,g4,g5,g6,g7,g8,g9⟩
 ·rw [hv] at g1;cases g1
 ·rw [hv] at g1;simp only [j0,fF,sM] at g1;obtain ⟨⟨q1,q2,_⟩,_,q3⟩:=g1;have hbss:bss=[]:=b5 (by rw [g7,hx];rfl);subst hbss q1 q2 q3;refine .inr ⟨b,off,1,cur,ty,fz,[(us.map own).flatten],rfl,aT _,by simp [maxLen],by omega,g5,g6,rfl,by rw [g8];simp,λi y bi hy hb => ?_⟩;cases i with
  | succ i=>simp at hy
  | zero =>
   cases hy;cases hb;refine ⟨cs,e3,λj c hj => ?_,h1⟩;have:=e5 j c hj;simp only [fQ, g5] at this;simpa using this
def Er (G:Nat->Prop) (own:Nat->List Nat) (us:List Nat) (b:Nat):Prop:=G b\/∃ r∈us,b∈own r
def Ut (K:jK) (G:Nat->Prop) (sm:Bool):Nat->Prop:=if sm=true then K.G0 else G
theorem G4 (hR:bT n K w0 G w a E L V own) {w':World} (k:cE [] w w') {q:Bool} {t:Ty} {A:dD} {x:t.den} {us:List Nat} {v:Value} (hA:kZ w0 G L V A v) (h:aE0 L t A=some (x,us)) (hq:q=true->smA L (.pb t) (.a A)=true) :
  aQu w' (Ut K G q) t x v (us.map own).flatten/\∃ r B b off,us=[r]/\A = .optr r 0 []/\b7 L r=some B/\B.t=t/\B.bor=true/\B.ls=none/\B.xs.length=1/\V r = .slice (some ⟨b,off,none⟩) 1 1/\v = .pointer (some ⟨b,off,none⟩):=by
 unfold aE0 at h;split at h
 ·rename_i r;split at h
  ·rename_i B hB;split at h
   ·rename_i qs hbor hls hsmB;split at h
    ·rename_i ht;split at h
     ·rename_i x hx;cases h;obtain ⟨B',hB',hi,b,off,m,cap,po,t',hv,hp,rfl⟩:=hA;rw [hB] at hB';cases hB';simp only [jT,fF,Prod.mk.injEq] at hp;obtain ⟨rfl,rfl⟩:=hp;obtain ⟨⟨b1,off1,hv1⟩,hsm⟩:=hR.small r B qs hB hsmB;have hsq:q=true->qs=true:=λe=>by
       have:=hq e;simp only [smA,hB,hsmB] at this;split at this
       ·rename_i h;exact pK h
       ·cases this
      obtain ⟨tB,xB,bB,lB,sB⟩:=B;simp only at hbor hls ht;subst ht;have hy:xB=[x]:=Us hx;subst hbor hls hy;rw [hv1] at hv;cases hv;have hent:fW w' (Ut K G q) w' ⟨tB,[x],true,none,none⟩ (V r) (own r):=by
       have e1:fW w0 (Ut K G q) w ⟨tB,[x],true,none,none⟩ (V r) (own r):=by
        unfold Ut;cases q with
        | true=>exact (hsm (hsq rfl)).2
        | false=>exact (show fW w0 G w ⟨tB,[x],true,none,sB⟩ (V r) (own r) from hR.heap r _ hB)
       refine e1.keepG (λ_ h=>h) (λb hb=>hR.keepG k b ?_) (λb hb=>k.block b (hR.own_lt hB b hb) (by simp));unfold Ut at hb;split at hb
       ·exact hR.gsub b hb
       ·exact hb
      rw [hv1] at hent;refine ⟨⟨b,off,by simp,?_⟩,r,_,b,off,rfl,rfl,hB,rfl,rfl,rfl,rfl,hv1,by simp⟩;simp only [bP,kM,bK,jG,c6];exact hent
     ·cases h
    ·cases h
   ·cases h
  ·cases h
 ·cases h
theorem G5 (hR:bT n K w0 G w a E L V own) {w':World} (k:cE [] w w') {t:Ty} {A:dD} {x:t.den} {us:List Nat} {v:Value} (hA:kZ w0 G L V A v) (h:aE1 L t A=some (x,us)) :
  aM8 w' t x v (us.map own).flatten/\(∀ r∈us,∃ B,b7 L r=some B)/\∃ r B vs b off ls,us=r :: vs/\A = .bptr r 0 t/\b7 L r=some B/\B.t=t/\B.xs=[]/\B.ls=some ls/\V r = .slice (some ⟨b,off,none⟩) 0 1/\v = .pointer (some ⟨b,off,none⟩):=by
 unfold aE1 at h;split at h
 ·rename_i r t';split at h
  ·rename_i B ht hB;split at h
   ·rename_i ls hls hck;split at h
    ·rename_i y us1 hown;cases h;have ht:=of_decide_eq_true ht;simp only [aJ,decide_eq_true_eq,lQ] at hck;obtain ⟨hBt,hxs⟩:=hck;subst ht;obtain ⟨B',ls',b,off,hB',hls',hv,rfl,hsz⟩:=hA;rw [hB] at hB';cases hB';obtain ⟨h1,h2⟩:=aMI (hR.ext k) hB hls hxs hv hBt hown;refine ⟨by simpa using h1,λs hs => ?_,r,B,us1,b,off,ls,rfl,rfl,hB,hBt,hxs,hls,hv,by simp⟩;rcases aR.1 hs with rfl | hs
     ·exact ⟨B,hB⟩
     ·exact h2 s hs
    ·cases h
   ·cases h
  ·cases h
 ·cases h
theorem Lk (hR:bT n K w0 G w a E L V own) {w':World} (k:cE [] w w') {t:Ty} {A:dD} {x:t.den} {us:List Nat} {v:Value} (hA:kZ w0 G L V A v) (h:aE2 L t A=some (x,us)) :
  aQv w' t x v (us.map own).flatten/\∀ r∈us,∃ B,b7 L r=some B:=by
 unfold aE2 at h;split at h
 ·rename_i t' ls;split at h
  ·rename_i ht;obtain rfl:=of_decide_eq_true ht;obtain ⟨cs,rfl,hl,hr⟩:=hA;obtain ⟨h1,h2⟩:=CU (hR.ext k) hr h;exact ⟨⟨cs,rfl,h1⟩,h2⟩
  ·cases h
 ·cases h
theorem xO (hR:bT n K w0 G w a E L V own) {w':World} (k:cE [] w w') (hG:∀ b,G b->G' b) {q:Bool}:∀ {sig:List AT} {ps:List PV} {vs:List Value} {x:fX sig} {os:List (List Nat)} {us:List Nat},
  zY w0 G L V ps vs->sR L sig ps=some (x,os,us)->(q=true->nZ L sig ps=true)->(∀ r∈us,∀ b∈own r,G' b)->Ek w' G' (Ut K G q) sig x vs (sI own os)
 | [],[],vs,x,os,us,hp,h,_,_=>by cases h;cases hp;exact ⟨rfl,rfl⟩
 | t :: r,y :: s,vs,x,os,us,⟨v,vs',hvs,hpy,hps⟩,h,hq,hd=>by
  subst hvs;simp only [sR] at h;split at h
  ·rename_i z o u zs os' us' h1 h2;cases h;have ih:=xO hR k hG hps h2 (λe=>by have:=hq e;simp only [nZ,aJ] at this;exact this.2) (λr hr=>hd r (bF _ hr));have hd1:=λr hr=>hd r (bQ us' hr);refine ⟨_,_,(o.map own).flatten,sI own os',rfl,rfl,?_,ih⟩;cases t with
   | v t =>
    cases y with
    | a A =>
     simp only [sH] at h1;split at h1
     ·rename_i q hq;cases h1;exact ⟨rfl,J7 hR k hG hpy hq hd1⟩
     ·cases h1
    | tup _=>cases h1
    | fn _ _=>cases h1
   | p t =>
    cases y with
    | a A =>
     simp only [sH] at h1;split at h1
     ·rename_i q hq;cases h1;exact ⟨rfl,PB hR k hG hpy hq hd1⟩
     ·cases h1
    | tup _=>cases h1
    | fn _ _=>cases h1
   | own t =>
    cases y with
    | a A =>
     cases A with
     | osl r rg =>
      cases rg with
      | none =>
       simp only [sH] at h1;split at h1
       ·rename_i B hB;split at h1
        ·cases h1
        rename_i hbor;split at h1
        ·rename_i ht;cases h1;obtain ⟨B',hB',hve,hs⟩:=hpy;rw [hB] at hB';cases hB';obtain ⟨tB,xB,bB,lB,sB⟩:=B;simp only at hbor;subst hbor;have hown:=(hR.heap r _ hB).keep (w':=w') λb hb=>k.block b (hR.own_lt hB b hb) (by simp);have hv:v=V r:=hve rfl;simp only [bP,kM,bK,jG,c6];rw [hv];exact aFV ht (fW.own.1 hown)
        ·cases h1
       ·cases h1
      | some q=>cases h1
     | _=>cases h1
    | tup _=>cases h1
    | fn _ _=>cases h1
   | pb t =>
    cases y with
    | a A =>
     simp only [sH] at h1;split at h1
     ·rename_i x us1 hpb;cases h1;refine (G4 hR k hpy hpb (q:=q) λe => ?_).1;have:=hq e;simp only [nZ,aJ] at this;exact this.1
     ·cases h1
    | tup _=>cases h1
    | fn _ _=>cases h1
   | po t =>
    cases y with
    | a A =>
     simp only [sH] at h1;split at h1
     ·rename_i x us1 hpo;cases h1;exact (G5 hR k hpy hpo).1
     ·cases h1
    | tup _=>cases h1
    | fn _ _=>cases h1
   | sv t =>
    cases y with
    | a A =>
     simp only [sH] at h1;split at h1
     ·rename_i x us1 hsv;cases h1;exact (Lk hR k hpy hsv).1
     ·cases h1
    | tup _=>cases h1
    | fn _ _=>cases h1
   | fns fs =>
    cases y with
    | a A =>
     simp only [sH] at h1;split at h1
     ·rename_i q hq;split at h1
      ·rename_i hfs;cases h1;exact ⟨rfl,by rw [<- aE3 hfs];exact J7 hR k hG hpy hq hd1⟩
      ·cases h1
     ·cases h1
    | tup _=>cases h1
    | fn _ _=>cases h1
   | fn f caps =>
    cases y with
    | a A=>cases h1
    | tup _=>cases h1
    | fn g ats =>
     simp only [sH] at h1;split at h1
     ·rename_i q2 us'' hfg hq2;cases h1;obtain ⟨vs,hv,hr⟩:=hpy;obtain rfl:=aX hfg;exact ⟨rfl,vs,hv,Ep hR k hG hq2 hr hd1⟩
     ·cases h1
  ·cases h
 | [],_ :: _,_,_,_,_,_,h,_,_=>by cases h
 | _ :: _,[],_,_,_,_,_,h,_,_=>by cases h
end
def EV:PV->List Nat
 | .a A=>sG A
 | .tup xs=>xs.flatMap sG
 | .fn _ xs=>xs.flatMap sG
def PC (r:Nat) (p:PV):PV:=match vJ r (EV p) with | true => .a .junk | false=>p
def CV (r:Nat) (E:eD):eD:=E.map λq=>(q.1,PC r q.2)
theorem Ll (r:Nat):∀ (E:eD) (i:Nat),(CV r E).get i=PC r (E.get i)
 | [],i=>rfl
 | (j,p) :: s,i=>by
  simp only [CV,bP,eD.get];cases h:cG j i with
  | true=>rfl
  | false=>exact Ll r s i
theorem PD {r:Nat} {p:PV}:r ∉ EV (PC r p)/\∀ s∈EV (PC r p),s∈EV p:=by
 unfold PC;cases h:vJ r (EV p) with
 | true=>simp [EV,sG]
 | false =>
  refine ⟨λhm => ?_,λ_ h=>h⟩;rw [zX.2 hm] at h;cases h
def mN (L:bG) (V:Nat->Value) (L':bG) (V':Nat->Value) (r:Nat):Prop :=
 V' r=V r/\∀ A,b7 L r=some A->∃ A',b7 L' r=some A'/\A'.t=A.t/\A'.xs.length=A.xs.length/\∀ ls,A.ls=some ls->∃ ls',A'.ls=some ls'
theorem mN.of_same {L:bG} {V:Nat->Value} {L':bG} {V':Nat->Value} {r:Nat} (hV:V' r=V r) (h:b7 L' r=b7 L r):mN L V L' V' r :=
 ⟨hV,λA hA=>⟨A,by rw [h];exact hA,rfl,rfl,λls h=>⟨ls,h⟩⟩⟩
theorem mN.trans {L L1 L2:bG} {V V1 V2:Nat->Value} {r:Nat} (h:mN L V L1 V1 r) (k:mN L1 V1 L2 V2 r):mN L V L2 V2 r:=by
 refine ⟨k.1.trans h.1,λA hA => ?_⟩;obtain ⟨A',e1,e2,e3,e4⟩:=h.2 A hA;obtain ⟨A'',f1,f2,f3,f4⟩:=k.2 A' e1;exact ⟨A'',f1,f2.trans e2,f3.trans e3,λls hls=>by obtain ⟨l',h'⟩:=e4 ls hls;exact f4 l' h'⟩
theorem DD {L L':bG} {V V':Nat->Value} {r:Nat} {rg:Option (Nat×Nat)} {v:Value} (h:Ld L V r rg v) (ha:mN L V L' V' r):Ld L' V' r rg v:=by
 obtain ⟨B,hB,h1,h2⟩:=h;obtain ⟨hV,hL⟩:=ha;obtain ⟨B',hB',ht,hl,_⟩:=hL B hB;exact ⟨B',hB',by rw [hV];exact h1,by rw [hV,hl,ht];exact h2⟩
theorem aBj {w0:World} {G:Nat->Prop} {L L':bG} {V V':Nat->Value} {l:fT} {v:Value} (h:Oi w0 G L V l v) (ha:∀ r∈IE l,mN L V L' V' r):Oi w0 G L' V' l v:=by
 cases l with
 | osl r rg=>exact DD h (ha r (by simp [IE]))
 | _=>exact h
theorem BR {w0:World} {G:Nat->Prop} {L L':bG} {V V':Nat->Value}:∀ {ls:List fT} {cs:List Value},gV w0 G L V ls cs->(∀ r∈iF ls,mN L V L' V' r)->gV w0 G L' V' ls cs
 | [],_,h,_=>h
 | l :: ls,_,⟨v,r,h,h1,h2⟩,ha=>⟨v,r,h,aBj h1 (λr hr=>ha r (by simp [iF,hr])),BR h2 (λr hr=>ha r (by simp [iF,hr]))⟩
theorem zZ {w0:World} {G:Nat->Prop} {L L':bG} {V V':Nat->Value} {A:dD} {v:Value} (h:kZ w0 G L V A v) (ha:∀ r∈sG A,mN L V L' V' r):kZ w0 G L' V' A v:=by
 cases A with
 | osl r rg=>exact DD h (ha r (by simp [sG]))
 | optr r i p =>
  obtain ⟨B,hB,h2⟩:=h;obtain ⟨hV,hL⟩:=ha r (by simp [sG]);obtain ⟨B',hB',ht,hl,_⟩:=hL B hB;exact ⟨B',hB',by rw [hV,hl,ht];exact h2⟩
 | rcd t ls =>
  obtain ⟨cs,h1,h2,h3⟩:=h;exact ⟨cs,h1,h2,BR h3 ha⟩
 | bptr r o t =>
  obtain ⟨B,ls,b,off,hB,h1,h2,h3,h4⟩:=h;obtain ⟨hV,hL⟩:=ha r (by simp [sG]);obtain ⟨B',hB',ht,hl,hls⟩:=hL B hB;obtain ⟨ls',hls'⟩:=hls ls h1;exact ⟨B',ls',b,off,hB',hls',by rw [hV];exact h2,h3,by rw [ht];exact h4⟩
 | _=>exact h
theorem Es {w0:World} {G:Nat->Prop} {L L':bG} {V V':Nat->Value}:∀ {ats:List dD} {vs:List Value},rQ w0 G L V ats vs->(∀ r∈ats.flatMap sG,mN L V L' V' r)->rQ w0 G L' V' ats vs
 | [],_,h,_=>h
 | A :: s,vs,⟨v,r,h,h1,h2⟩,ha=>⟨v,r,h,zZ h1 (λr hr=>ha r (by simp [hr])),Es h2 (λr hr=>ha r (by simp only [Bb,bU];exact .inr hr))⟩
theorem oT {w0:World} {G:Nat->Prop} {L L':bG} {V V':Nat->Value} {p:PV} {v:Value} (h:kH w0 G L V p v) (ha:∀ r∈EV p,mN L V L' V' r):kH w0 G L' V' p v:=by
 cases p with
 | a A=>exact zZ h ha
 | tup xs=>obtain ⟨vs,hv,hr⟩:=h;exact ⟨vs,hv,Es hr ha⟩
 | fn f xs=>obtain ⟨vs,hv,hr⟩:=h;exact ⟨vs,hv,Es hr ha⟩
theorem TU {w0:World} {G:Nat->Prop} {L:bG} {V:Nat->Value} {p:PV} {v:Value} (r:Nat) (h:kH w0 G L V p v):kH w0 G L V (PC r p) v:=by
 unfold PC;cases vJ r (EV p) with
 | true=>trivial
 | false=>exact h
theorem TV {L:bG} {V:Nat->Value} {r:Nat} {rg:Option (Nat×Nat)} {v:Value} (h:Ld L V r rg v):∃ B,b7 L r=some B:=by
 obtain ⟨B,hB,_⟩:=h;exact ⟨B,hB⟩
theorem DE {w0:World} {G:Nat->Prop} {L:bG} {V:Nat->Value}:∀ {ls:List fT} {cs:List Value},gV w0 G L V ls cs->∀ r∈iF ls,∃ B,b7 L r=some B
 | [],_,_,r,hr=>by cases hr
 | l :: ls,_,⟨v,q,_,h1,h2⟩,r,hr=>by
  simp only [iF,bU] at hr;rcases hr with hr | hr
  ·cases l with
   | osl s rg=>simp only [IE,bI] at hr;subst hr;exact TV h1
   | _=>simp [IE] at hr
  ·exact DE h2 r hr
theorem G6 {w0:World} {G:Nat->Prop} {L:bG} {V:Nat->Value} {A:dD} {v:Value} (h:kZ w0 G L V A v):∀ r∈sG A,∃ B,b7 L r=some B:=by
 cases A with
 | osl r rg=>intro s hs;simp [sG] at hs;subst hs;exact TV h
 | optr r i p=>obtain ⟨B,hB,_⟩:=h;intro s hs;simp [sG] at hs;subst hs;exact ⟨B,hB⟩
 | rcd t ls=>obtain ⟨cs,_,_,h⟩:=h;exact DE h
 | bptr r o t=>obtain ⟨B,ls,b,off,hB,_⟩:=h;intro s hs;simp [sG] at hs;subst hs;exact ⟨B,hB⟩
 | _=>intro s hs;simp [sG] at hs
theorem IG {w0:World} {G:Nat->Prop} {L:bG} {V:Nat->Value}:∀ {ats:List dD} {vs:List Value},rQ w0 G L V ats vs->∀ r∈ats.flatMap sG,∃ B,b7 L r=some B
 | [],_,_,r,hr=>by simp at hr
 | A :: s,vs,⟨v,q,h,h1,h2⟩,r,hr=>by
  simp only [Bb,bU] at hr;rcases hr with hr | hr
  ·exact G6 h1 r hr
  ·exact IG h2 r hr
theorem TW {w0:World} {G:Nat->Prop} {L:bG} {V:Nat->Value} {p:PV} {v:Value} (h:kH w0 G L V p v):∀ r∈EV p,∃ B,b7 L r=some B:=by
 cases p with
 | a A=>exact G6 h
 | tup xs=>obtain ⟨vs,hv,hr⟩:=h;exact IG hr
 | fn f xs=>obtain ⟨vs,hv,hr⟩:=h;exact IG hr
def CW {β:Type} (f:Nat->β) (r:Nat) (x:β):Nat->β:=λs=>cond (cG s r) x (f s)
theorem eA {β:Type} (f:Nat->β) (r:Nat) (x:β):CW f r x r=x:=by simp [CW]
theorem dI {β:Type} (f:Nat->β) {r s:Nat} (x:β) (h:s≠r):CW f r x s=f s:=by
 simp only [CW,vT h,cond_false]
def vV (r:Nat):fT->fT
 | .osl s rg=>match cG s r with | true => .junk | false => .osl s rg
 | l=>l
def mV (r:Nat) (A:hY):hY:=match A.ls with
 | some ls=>⟨A.t,A.xs,A.bor,some (ls.map (vV r)),A.sm⟩
 | none=>A
def pF (r:Nat) (L:bG):bG:=L.map λo=>match o with | some A=>some (mV r A) | none=>none
theorem lV (r:Nat):∀ (L:bG) (s:Nat),b7 (pF r L) s=(b7 L s).map (mV r)
 | [],_=>rfl
 | some A :: L,0=>rfl
 | none :: L,0=>rfl
 | _ :: L,s+1=>by simp only [pF,bP,b7];exact lV r L s
theorem G7 (r:Nat) (A:hY):(mV r A).t=A.t:=by unfold mV;split <;> rfl
theorem Xe (r:Nat) (A:hY):(mV r A).sm=A.sm:=by unfold mV;split <;> rfl
theorem TX (r:Nat) (A:hY):(mV r A).bor=A.bor:=by unfold mV;split <;> rfl
theorem G8 {w0 w:World} {G:Nat->Prop} {r:Nat} {A:hY} {v:Value} {bs:List Nat}:fW w0 G w (mV r A) v bs↔fW w0 G w A v bs:=by
 unfold mV;split
 ·exact Iff.rfl
 ·exact Iff.rfl
theorem G9 (r:Nat) (A:hY):(mV r A).xs.length=A.xs.length:=by unfold mV;split <;> rfl
theorem CX {r:Nat} {A:hY}:(∀ ls,A.ls=some ls->(mV r A).ls=some (ls.map (vV r)))/\∀ ls',(mV r A).ls=some ls'->∃ ls,A.ls=some ls/\ls'=ls.map (vV r):=by
 unfold mV;split
 ·rename_i ls h;refine ⟨λl hl => ?_,λl hl => ?_⟩
  ·rw [h] at hl;cases hl;rfl
  ·cases hl;exact ⟨ls,h,rfl⟩
 ·rename_i h;refine ⟨λl hl => ?_,λl hl => ?_⟩
  ·rw [h] at hl;cases hl
  ·rw [h] at hl;cases hl
theorem Xf (r:Nat) (L:bG) (V:Nat->Value) (s:Nat):mN L V (pF r L) V s :=
 ⟨rfl,λA hA=>⟨mV r A,by rw [lV,hA];rfl,G7 r A,G9 r A,λls hls=>⟨_,CX.1 ls hls⟩⟩⟩
theorem PE {w0:World} {G:Nat->Prop} {L:bG} {V:Nat->Value} (r:Nat):∀ {ls:List fT} {cs:List Value},gV w0 G L V ls cs->gV w0 G L V (ls.map (vV r)) cs
 | [],_,h=>h
 | l :: ls,_,⟨v,s,h,h1,h2⟩=>by
  refine ⟨v,s,h,?_,PE r h2⟩;cases l with
  | osl s' rg =>
   simp only [vV];cases cG s' r with
   | true=>exact Ld.one h1
   | false=>exact h1
  | _=>exact h1
theorem Et {r:Nat}:∀ {ls:List fT},r ∉ iF (ls.map (vV r))/\∀ s∈iF (ls.map (vV r)),s∈iF ls
 | []=>⟨by simp [iF],λs hs=>hs⟩
 | l :: ls=>by
  obtain ⟨h1,h2⟩:=Et (r:=r) (ls:=ls);have key:r ∉ IE (vV r l)/\∀ s∈IE (vV r l),s∈IE l:=by
   cases l with
   | osl s rg =>
    simp only [vV];cases hb:cG s r with
    | true=>simp [IE]
    | false =>
     refine ⟨?_,λs hs=>hs⟩;simp only [IE,bI];intro e;subst e;simp at hb
   | _=>simp [vV,IE]
  simp only [bP,iF,bU,not_or];exact ⟨⟨key.1,h1⟩,λs hs=>hs.imp (key.2 s) (h2 s)⟩
theorem Bh.agree {w0 w:World} {G:Nat->Prop} {L L':bG} {V V':Nat->Value} {t:Ty} {ls:List fT} {v:Value} (h:Bh w0 G w L V t ls v) (ha:∀ r∈iF ls,mN L V L' V' r):Bh w0 G w L' V' t ls v:=by
 obtain ⟨b,off,cs,h1,h3,h4,h5,h6⟩:=h;exact ⟨b,off,cs,h1,h3,h4,h5,BR h6 ha⟩
theorem Bh.live {w0 w:World} {G:Nat->Prop} {L:bG} {V:Nat->Value} {t:Ty} {ls:List fT} {v:Value} (h:Bh w0 G w L V t ls v):∀ r∈iF ls,∃ B,b7 L r=some B:=by
 obtain ⟨b,off,cs,h1,h3,h4,h5,h6⟩:=h;exact DE h6
theorem Bh.kill {w0 w:World} {G:Nat->Prop} {L:bG} {V:Nat->Value} {t:Ty} {ls:List fT} {v:Value} (r:Nat) (h:Bh w0 G w L V t ls v):Bh w0 G w L V t (ls.map (vV r)) v:=by
 obtain ⟨b,off,cs,h1,h3,h4,h5,h6⟩:=h;exact ⟨b,off,cs,h1,h3,by simpa using h4,h5,PE r h6⟩
section
variable {P:Program} {n:Nat} {K:jK} {G:Nat->Prop} {w0 w:World} {a:Act} {E:eD} {L:bG} {V:Nat->Value} {own:Nat->List Nat}
theorem bT.grow (hR:bT n K w0 G w a E L V own) {A0:hY} {v:Value} {bs:List Nat} (ho:fW w0 G w A0 v bs) (hn:bs.Nodup) (hg:∀ b∈bs,Out K G b)
  (hd:∀ r A,b7 L r=some A->∀ b∈own r,b ∉ bs) (hbox:∀ ls,A0.ls=some ls->Bh w0 G w L V A0.t ls v:=by intro ls h;cases h) (hsm:∀ q,A0.sm=some q->(∃ b off,v = .slice (some ⟨b,off,none⟩) 1 1)/\(q=true->A0.bor=true/\fW w0 K.G0 w A0 v bs):=by intro q h;cases h):bT n K w0 G w a E (L++[some A0]) (CW V L.length v) (CW own L.length bs):=by
 have hsplit:∀ r A,b7 (L++[some A0]) r=some A->(r≠L.length/\b7 L r=some A)\/(r=L.length/\A=A0):=by
  intro r A h;rw [lI] at h;split at h
  ·rename_i hlt;exact .inl ⟨by omega,h⟩
  ·rename_i hge;have:r - L.length=0:=by
    cases hk:r - L.length with
    | zero=>rfl
    | succ k=>rw [hk] at h;simp [b7] at h
   rw [this] at h;simp only [b7,fF] at h;exact .inr ⟨by omega,h.symm⟩
 have hagree:∀ r,(∃ B,b7 L r=some B)->mN L V (L++[some A0]) (CW V L.length v) r:=by
  rintro r ⟨B,hB⟩;have hlt:=uN hB;refine mN.of_same (dI _ _ (by omega)) ?_;rw [lI,if_pos hlt]
 refine ⟨hR.glob,hR.kept,hR.size,hR.defers,hR.glt,hR.gref,hR.gsub,hR.gold,hR.gup,?_,?_,?_,?_,?_,?_,λi=>oT (hR.env i) λr hr=>hagree r (TW (hR.env i) r hr)⟩
 ·intro r A h;rcases hsplit r A h with ⟨hne,h⟩ | ⟨rfl,rfl⟩
  ·rw [dI _ _ hne,dI _ _ hne];exact hR.heap r A h
  ·rw [eA,eA];exact ho
 ·intro r A h;rcases hsplit r A h with ⟨hne,h⟩ | ⟨rfl,rfl⟩
  ·rw [dI _ _ hne];exact hR.good r A h
  ·rw [eA];exact hg
 ·intro r A h;rcases hsplit r A h with ⟨hne,h⟩ | ⟨rfl,rfl⟩
  ·rw [dI _ _ hne];exact hR.nodup r A h
  ·rw [eA];exact hn
 ·intro r s A B h1 h2 hrs;rcases hsplit r A h1 with ⟨hne,g1⟩ | ⟨rfl,rfl⟩
  ·rcases hsplit s B h2 with ⟨hne',g2⟩ | ⟨rfl,rfl⟩
   ·rw [dI _ _ hne,dI _ _ hne'];exact hR.apart r s A B g1 g2 hrs
   ·rw [eA,dI _ _ hne];exact hd r A g1
  ·rcases hsplit s B h2 with ⟨hne',g2⟩ | ⟨rfl,rfl⟩
   ·rw [eA,dI _ _ hne'];intro b hb hb';exact hd s B g2 b hb' hb
   ·exact absurd rfl hrs
 ·intro r A ls h hls;rcases hsplit r A h with ⟨hne,h⟩ | ⟨rfl,rfl⟩
  ·rw [dI _ _ hne];have hb:=hR.boxs r A ls h hls;exact hb.agree λs hs=>hagree s (hb.live s hs)
  ·rw [eA];have hb:=hbox ls hls;exact hb.agree λs hs=>hagree s (hb.live s hs)
 ·intro r A q h hs;rcases hsplit r A h with ⟨hne,h⟩ | ⟨rfl,rfl⟩
  ·rw [dI _ _ hne,dI _ _ hne];exact hR.small r A q h hs
  ·rw [eA,eA];exact hsm q hs
theorem sJ {A0:hY} {v:Value} {bs:List Nat} {G G':Nat->Prop} {u:World} (h:fW u G' w A0 v bs):kZ w0 G (L++[some A0]) (CW V L.length v) (.osl L.length none) v:=by
 have hg:b7 (L++[some A0]) L.length=some A0:=by
  rw [lI,if_neg (Sk _),Dt];rfl
 refine ⟨_,hg,λ_=>(eA _ _ _).symm,?_⟩;rw [eA];refine ⟨bW _,aT _,?_⟩;rcases h.2 with ⟨ad,h1,h2,_⟩ | ⟨b,off,cap,cur,ty,fz,bss,h1,h2,h3,h4,h5,h6,h7,h8,h9⟩
 ·exact .inl ⟨ad,ad,h1,h1,by rw [h2];exact ⟨rfl,rfl⟩⟩
 ·exact .inr ⟨b,off,A0.xs.length,cap,off,cap,h1,by rw [h1];rfl,by simpa [uM,Cx] using h2,.inl ⟨by simp [uM],by simp [uM]⟩⟩
theorem Eu (L:bG) (A:hY):b7 (L++[some A]) L.length=some A:=by
 rw [lI,if_neg (Sk _),Dt];rfl
theorem bT.widen (hR:bT n K w0 G w a E L V own) {F:Nat->Prop} (hF:∀ b,F b->b<w.heap.size) (hF2:∀ b,F b->¬ Good K.w0 K.O b) (hd:∀ b,F b->∀ r A,b7 L r=some A->b ∉ own r):bT n K w (λb=>G b\/F b) w a E L V own:=by
 have hG:∀ b,G b->(λb=>G b\/F b) b:=λb hb => .inl hb;have repA:∀ {A:dD} {v:Value},kZ w0 G L V A v->kZ w (λb=>G b\/F b) L V A v:=by
  intro A v h;have hls:∀ {ls:List fT} {cs:List Value},gV w0 G L V ls cs->gV w (λb=>G b\/F b) L V ls cs:=by
   intro ls
   induction ls with
   | nil=>intro cs h;exact h
   | cons l r ih =>
    rintro cs ⟨v,s,h1,h2,h3⟩;refine ⟨v,s,h1,?_,ih h3⟩;cases l with
    | sl t xs=>exact lT.keep (λ_ _=>dW.keep hG hR.gref) hG hR.gref h2
    | _=>exact h2
  cases A with
  | osl r rg=>exact h
  | optr r i p=>exact h
  | rcd t ls=>obtain ⟨cs,h1,h2,h3⟩:=h;exact ⟨cs,h1,h2,hls h3⟩
  | bptr r o t=>exact h
  | val u=>exact h
  | sl t xs=>exact lP (A := .sl t xs) hG hR.gref h
  | ptr t x=>exact lP (A := .ptr t x) hG hR.gref h
  | st t x=>exact lP (A := .st t x) hG hR.gref h
  | junk=>exact h
 have repAs:∀ {ats:List dD} {vs:List Value},rQ w0 G L V ats vs->rQ w (λb=>G b\/F b) L V ats vs:=by
  intro ats
  induction ats with
  | nil=>intro vs h;exact h
  | cons A s ih=>rintro vs ⟨v,r,h1,h2,h3⟩;exact ⟨v,r,h1,repA h2,ih h3⟩
 have hls:∀ {ls:List fT} {cs:List Value},gV w0 G L V ls cs->gV w (λb=>G b\/F b) L V ls cs:=by
  intro ls
  induction ls with
  | nil=>intro cs h;exact h
  | cons l r ih =>
   rintro cs ⟨v,s,h1,h2,h3⟩;refine ⟨v,s,h1,?_,ih h3⟩;cases l with
   | sl t xs=>exact lT.keep (λ_ _=>dW.keep hG hR.gref) hG hR.gref h2
   | _=>exact h2
 refine ⟨hR.glob,hR.kept,hR.size,hR.defers,?_,λ_ _=>rfl,λb hb => .inl (hR.gsub b hb),hR.gold,λb hb=>hb.elim (hR.gup b) (λh => .inr (hF2 b h)),λr A hA=>(hR.heap r A hA).keepG hG hR.gref (λ_ _=>rfl),?_,hR.nodup,hR.apart,?_,?_,λi => ?_⟩
 ·rintro b (hb | hb)
  ·exact hR.glt b hb
  ·exact hF b hb
 ·intro r A hA b hb;obtain ⟨h1,h2⟩:=hR.good r A hA b hb;exact ⟨h1,λh=>h.elim h2 λhf=>hd b hf r A hA hb⟩
 ·intro r A ls hA hls';obtain ⟨b,off,cs,h1,h3,h4,h5,h6⟩:=hR.boxs r A ls hA hls';exact ⟨b,off,cs,h1,h3,h4,h5,hls h6⟩
 ·intro r A q hA hs;obtain ⟨h1,h2⟩:=hR.small r A q hA hs;exact ⟨h1,λe=>⟨(h2 e).1,(h2 e).2.keepG (λ_ h=>h) (λb hb=>hR.gref b (hR.gsub b hb)) (λ_ _=>rfl)⟩⟩
 ·have hi:=hR.env i;generalize E.get i=p at hi;cases p with
  | a A=>exact repA hi
  | tup xs=>obtain ⟨vs,hv,hr⟩:=hi;exact ⟨vs,hv,repAs hr⟩
  | fn f xs=>obtain ⟨vs,hv,hr⟩:=hi;exact ⟨vs,hv,repAs hr⟩
structure n4 (L:bG) (es:bG) (V V':Nat->Value) (own own':Nat->List Nat) (bs:List Nat):Prop where
 same:∀ r,r<L.length->V' r=V r/\own' r=own r
 new:∀ r,L.length<=r->r<L.length+es.length->∀ b∈own' r,b∈bs
theorem n4.agree {es:bG} {V V':Nat->Value} {own own':Nat->List Nat} {bs:List Nat} (h:n4 L es V V' own own' bs):∀ r,(∃ B,b7 L r=some B)->mN L V (L++es) V' r:=by
 rintro r ⟨B,hB⟩;have hlt:=uN hB;exact mN.of_same (h.same r hlt).1 (by rw [lI,if_pos hlt])
theorem n4.refl (V:Nat->Value) (own:Nat->List Nat) (bs:List Nat):n4 L [] V V own own bs :=
 ⟨λr _=>⟨rfl,rfl⟩,λr h1 h2=>by simp at h2;omega⟩
theorem n4.trans {es fs:bG} {V V1 V2:Nat->Value} {own own1 own2:Nat->List Nat} {bs cs ds:List Nat} (h:n4 L es V V1 own own1 bs) (k:n4 (L++es) fs V1 V2 own1 own2 cs) (hb:∀ b∈bs,b∈ds) (hc:∀ b∈cs,b∈ds):n4 L (es++fs) V V2 own own2 ds:=by
 refine ⟨λr hr => ?_,λr h1 h2 b hb' => ?_⟩
 ·obtain ⟨e1,e2⟩:=k.same r (by simp;omega);obtain ⟨f1,f2⟩:=h.same r hr;exact ⟨e1.trans f1,e2.trans f2⟩
 ·simp only [aO] at h2;by_cases hlt:r<L.length+es.length
  ·rw [(k.same r (by simp;omega)).2] at hb';exact hb b (h.new r h1 hlt b hb')
  ·exact hc b (k.new r (by simp;omega) (by simp;omega) b hb')
theorem n4.apart {es:bG} {V V':Nat->Value} {own own':Nat->List Nat} {bs rest:List Nat} (h:n4 L es V V' own own' bs) (ho:∀ r A,b7 L r=some A->∀ b∈own r,b ∉ rest) (hn:∀ b∈bs,b ∉ rest):∀ r A,b7 (L++es) r=some A->∀ b∈own' r,b ∉ rest:=by
 intro r A hA b hb;rw [lI] at hA;split at hA
 ·rename_i hlt;rw [(h.same r hlt).2] at hb;exact ho r A hA b hb
 ·rename_i hge;have:=uN hA;exact hn b (h.new r (by omega) (by omega) b hb)
def p7 (k:Nat):(t:Ty)->t.den->List fT×bG
 | .int k',n=>([.val (.int k' n)],[])
 | .bool,b=>([.val (.bool b)],[])
 | .fn,f=>([.val (fnV f)],[])
 | .str,s=>([.val (.string s)],[])
 | .sl e,xs=>([.osl k none],[some ⟨e,xs,false,none,none⟩])
 | .unit,_=>([],[])
 | .cons a b,x=>match p7 k a x.1 with
  | (l1,e1)=>match p7 (k+e1.length) b x.2 with
   | (l2,e2)=>(l1++l2,e1++e2)
theorem CY (hR:bT n K w0 G w a E L V own) {A0:hY} {v:Value} {bs:List Nat} (ho:fW w0 G w A0 v bs) (hn:bs.Nodup) (hg:∀ b∈bs,Out K G b) (hd:∀ r A,b7 L r=some A->∀ b∈own r,b ∉ bs)
  (hbox:∀ ls,A0.ls=some ls->Bh w0 G w L V A0.t ls v:=by intro ls h;cases h) (hsm:∀ q,A0.sm=some q->(∃ b off,v = .slice (some ⟨b,off,none⟩) 1 1)/\(q=true->A0.bor=true/\fW w0 K.G0 w A0 v bs):=by intro q h;cases h) :
  bT n K w0 G w a E (L++[some A0]) (CW V L.length v) (CW own L.length bs)/\n4 L [some A0] V (CW V L.length v) own (CW own L.length bs) bs:=by
 refine ⟨hR.grow ho hn hg hd hbox hsm,λr hr=>⟨dI _ _ (by omega),dI _ _ (by omega)⟩,λr h1 h2 b hb => ?_⟩;have:r=L.length:=by simp at h2;omega
 subst this
 rwa [eA] at hb
theorem zS:∀ {t:Ty} {x:t.den} {cs:List Value} {bs:List Nat} {L:bG} {V:Nat->Value} {own:Nat->List Nat},bT n K w0 G w a E L V own->gB w t x cs bs->bs.Nodup->(∀ b∈bs,Out K G b)->(∀ r A,b7 L r=some A->∀ b∈own r,b ∉ bs) ->
  ∃ V' own',bT n K w0 G w a E (L++(p7 L.length t x).2) V' own'/\n4 L (p7 L.length t x).2 V V' own own' bs/\gV w0 G (L++(p7 L.length t x).2) V' (p7 L.length t x).1 cs/\(p7 L.length t x).1.length=t.size
 | .int k,x,cs,bs,L,V,own,hR,ho,_,_,_=>by
  obtain ⟨rfl,h1,_⟩:=ho;exact ⟨V,own,by simpa [p7] using hR,n4.refl _ _ _,⟨_,_,rfl,⟨rfl,h1,rfl⟩,rfl⟩,rfl⟩
 | .bool,x,cs,bs,L,V,own,hR,ho,_,_,_=>by
  obtain ⟨rfl,_⟩:=ho;exact ⟨V,own,by simpa [p7] using hR,n4.refl _ _ _,⟨_,_,rfl,⟨rfl,trivial,rfl⟩,rfl⟩,rfl⟩
 | .fn,x,cs,bs,L,V,own,hR,ho,_,_,_=>by
  obtain ⟨rfl,_⟩:=ho;exact ⟨V,own,by simpa [p7] using hR,n4.refl _ _ _,⟨_,_,rfl,⟨rfl,aAY x,O1 x⟩,rfl⟩,rfl⟩
 | .str,x,cs,bs,L,V,own,hR,ho,_,_,_=>by
  obtain ⟨rfl,h1,_⟩:=ho;exact ⟨V,own,by simpa [p7] using hR,n4.refl _ _ _,⟨_,_,rfl,⟨rfl,h1,rfl⟩,rfl⟩,rfl⟩
 | .unit,x,cs,bs,L,V,own,hR,ho,_,_,_=>by
  obtain ⟨rfl,_⟩:=ho;exact ⟨V,own,by simpa [p7] using hR,n4.refl _ _ _,rfl,rfl⟩
 | .sl e,xs,cs,bs,L,V,own,hR,ho,hn,hg,hd=>by
  obtain ⟨v,rfl,ho'⟩:=ho;have hE:fW w0 G w ⟨e,xs,false,none,none⟩ v bs:=fW.own.2 ⟨v,rfl,ho'⟩;obtain ⟨h1,h2⟩:=CY hR hE hn hg hd;exact ⟨_,_,h1,h2,⟨_,_,rfl,sJ (w0:=w0) (G:=G) (u:=w0) (G':=G) hE,rfl⟩,rfl⟩
 | .cons p q,x,cs,bs,L,V,own,hR,ho,hn,hg,hd=>by
  obtain ⟨c1,c2,b1,b2,rfl,rfl,ho1,ho2⟩:=ho;rw [iO] at hn;obtain ⟨V1,own1,r1,g1,l1,n1⟩:=zS hR ho1 hn.1 (λb hb=>hg b (bQ _ hb)) (λr A hA b hb hm=>hd r A hA b hb (bQ _ hm));have hlen:(L++(p7 L.length p x.1).2).length=L.length+(p7 L.length p x.1).2.length:=by simp
  obtain ⟨V2,own2,r2,g2,l2,n2⟩:=zS r1 ho2 hn.2.1 (λb hb=>hg b (bF _ hb)) (g1.apart (λr A hA b hb hm=>hd r A hA b hb (bF _ hm)) (λb hb hm=>hn.2.2 b hb b hm rfl));rw [hlen] at r2 g2 l2 n2;have e1:(p7 L.length (.cons p q) x).2=(p7 L.length p x.1).2++(p7 (L.length+(p7 L.length p x.1).2.length) q x.2).2:=rfl;have e2:(p7 L.length (.cons p q) x).1=(p7 L.length p x.1).1++(p7 (L.length+(p7 L.length p x.1).2.length) q x.2).1:=rfl;rw [e1,e2, <- bS];refine ⟨V2,own2,r2,g1.trans g2 (λb hb=>bQ _ hb) (λb hb=>bF _ hb),rC (BR l1 λr hr=>g2.agree r (DE l1 r hr)) l2,?_⟩;rw [aO,n1,n2];rfl
def SV:List RK->Bool
 | []=>true
 | .own :: r=>SV r
 | _ :: _=>false
def vW (k:Nat):RK->aY->dD×bG
 | .own,⟨.sl e,xs⟩=>(.osl k none,[some ⟨e,xs,false,none,none⟩])
 | .own,⟨t,x⟩=>match t.flat with
  | true=>(iG t x,[])
  | false=>match p7 k t x with
   | (ls,es)=>(.rcd t ls,es)
 | .frz,d=>(iG d.t d.x,[])
 | .bx,d=>(.optr k 0 [],[some ⟨d.t,[d.x],true,none,some false⟩])
def IH (k:Nat):List RK->List aY->List dD×bG
 | _,[]=>([],[])
 | ks,d :: r=>match vW k (RK.hd ks) d with
  | (A,es)=>match IH (k+es.length) ks.tail r with
   | (As,fs)=>(A :: As,es++fs)
theorem PF {t:Ty} {cs:List Value} {v:Value} (hl:cs.length=t.size) (h:zV t cs v):v=gH t cs:=by
 cases t <;> simp only [zV] at h <;> subst h <;> rfl
theorem PG {t:Ty} {x:t.den} {cs:List Value} {bs:List Nat} (hf:t.flat=true) (h:gB w t x cs bs) {v:Value} (hv:zV t cs v) (G:Nat->Prop) :
  kZ w0 G L V (iG t x) v/\bs=[]:=by
 obtain ⟨hr,hb⟩:=h.flat (w':=w0) (G:=G) hf;rw [PF h.length hv];exact ⟨xN hr.repB,hb⟩
theorem z7 {b:List Nat} {bs:List (List Nat)} (h:(b :: bs).flatten.Nodup):b.Nodup/\bs.flatten.Nodup/\∀ x∈b,x ∉ bs.flatten:=by
 rw [bK,iO] at h;exact ⟨h.1,h.2.1,λx hx hm=>h.2.2 x hx x hm rfl⟩
theorem aMJ {k:RK} {d:aY} {Gc F:Nat->Prop} {v:Value} {b:List Nat} (hR:bT n K w0 G w a E L V own) (hk:k = .own\/((∀ c,Gc c\/F c->G c)/\w0=w)) (hr:Oj w Gc F k d v b) (hn:b.Nodup) (hg:∀ c∈b,Out K G c) (hd:∀ r A,b7 L r=some A->∀ c∈own r,c ∉ b) :
  ∃ V' own',bT n K w0 G w a E (L++(vW L.length k d).2) V' own'/\n4 L (vW L.length k d).2 V V' own own' b/\kZ w0 G (L++(vW L.length k d).2) V' (vW L.length k d).1 v:=by
 obtain ⟨t,x⟩:=d;cases k with
 | own =>
  obtain ⟨cs,ho,hv⟩:=hr;by_cases hsl:∃ e,t = .sl e
  ·obtain ⟨e,rfl⟩:=hsl;simp only [zV] at hv;subst hv;have hE:fW w0 G w ⟨e,x,false,none,none⟩ v b:=fW.own.2 ho;obtain ⟨h1,h2⟩:=CY hR hE hn hg hd;exact ⟨_,_,h1,h2,sJ (w0:=w0) (G:=G) (u:=w0) (G':=G) hE⟩
  ·have e:vW L.length .own ⟨t,x⟩=match t.flat with
     | true=>(iG t x,[])
     | false=>match p7 L.length t x with
      | (ls,es)=>(.rcd t ls,es):=by
    cases t with
    | sl e=>exact absurd ⟨e,rfl⟩ hsl
    | _=>rfl
   rw [e];cases hf:t.flat with
   | true =>
    refine ⟨V,own,by simpa using hR,n4.refl _ _ _,(PG hf ho hv G).1⟩
   | false =>
    obtain ⟨V',own',h1,h2,h3,h4⟩:=zS hR ho hn hg hd;refine ⟨V',own',h1,h2,cs,?_,h4,h3⟩;rw [PF ho.length hv,gH,if_pos];clear e;cases t with
    | sl e=>exact absurd ⟨e,rfl⟩ hsl
    | unit=>rfl
    | cons _ _=>rfl
    | int _=>cases hf
    | bool=>cases hf
    | fn=>cases hf
    | str=>cases hf
 | frz =>
  obtain ⟨hG,rfl⟩:=hk.resolve_left (by simp);obtain ⟨rfl,cs,hc,hv⟩:=hr;refine ⟨V,own,by simpa [vW] using hR,n4.refl _ _ _,?_⟩;rw [PF hc.length hv];exact xN (hc.keep hG (λ_ _=>rfl)).repB
 | bx =>
  obtain ⟨hG,rfl⟩:=hk.resolve_left (by simp);obtain ⟨blk,off,rfl,hE⟩:=hr;have hE':fW w0 G w0 ⟨t,[x],true,none,some false⟩ (.slice (some ⟨blk,off,none⟩) 1 1) b:=hE.keepG hG (λ_ _=>rfl) (λ_ _=>rfl);obtain ⟨h1,h2⟩:=CY hR hE' hn hg hd (hsm:=λq hq=>⟨⟨blk,off,rfl⟩,λe=>by subst e;cases hq⟩);refine ⟨_,_,h1,h2,⟨t,[x],true,none,some false⟩,Eu _ _,by simp,blk,off,1,1,0,t,eA _ _ _,rfl,by simp⟩
theorem PH:∀ {ks:List RK} {ds:List aY} {Gc F:Nat->Prop} {L:bG} {V:Nat->Value} {own:Nat->List Nat} {rs:List Value} {rbs:List (List Nat)},
  bT n K w0 G w a E L V own->(SV ks=true\/((∀ c,Gc c\/F c->G c)/\w0=w))->SP w Gc F ks ds rs rbs->rbs.flatten.Nodup->(∀ b∈rbs.flatten,Out K G b)->(∀ r A,b7 L r=some A->∀ b∈own r,b ∉ rbs.flatten) ->
  ∃ V' own',bT n K w0 G w a E (L++(IH L.length ks ds).2) V' own'/\n4 L (IH L.length ks ds).2 V V' own own' rbs.flatten/\rQ w0 G (L++(IH L.length ks ds).2) V' (IH L.length ks ds).1 rs
 | ks,[],Gc,F,L,V,own,rs,rbs,hR,_,hr,_,_,_=>by
  have hr':rs=[]/\rbs=[]:=by cases ks <;> exact hr
  obtain ⟨rfl,rfl⟩:=hr';have e:IH L.length ks []=([],[]):=by cases ks <;> rfl
  rw [e];exact ⟨V,own,by simpa using hR,n4.refl _ _ _,rfl⟩
 | ks,d :: ds,Gc,F,L,V,own,rs,rbs,hR,hk,hr,hn,hg,hd=>by
  have hr':∃ v s b bs,rs=v :: s/\rbs=b :: bs/\Oj w Gc F (RK.hd ks) d v b/\SP w Gc F ks.tail ds s bs:=by cases ks <;> exact hr
  obtain ⟨v,s,b,bs,rfl,rfl,h1,h2⟩:=hr';obtain ⟨hn1,hn2,hn3⟩:=z7 hn;have hk1:RK.hd ks = .own\/((∀ c,Gc c\/F c->G c)/\w0=w):=hk.imp_left λh=>by
   cases ks with
   | nil=>rfl
   | cons k ks=>cases k <;> first | rfl | cases h
  have hk2:SV ks.tail=true\/((∀ c,Gc c\/F c->G c)/\w0=w):=hk.imp_left λh=>by
   cases ks with
   | nil=>rfl
   | cons k ks=>cases k <;> first | exact h | cases h
  obtain ⟨V1,own1,r1,g1,a1⟩:=aMJ hR hk1 h1 hn1 (λc hc=>hg c (by simp [hc])) (λr A hA c hc hm=>hd r A hA c hc (by simp [hm]));have hlen:(L++(vW L.length (RK.hd ks) d).2).length=L.length+(vW L.length (RK.hd ks) d).2.length:=by simp
  obtain ⟨V2,own2,r2,g2,a2⟩:=PH r1 hk2 h2 hn2 (λc hc=>hg c (by rw [bK];exact bF _ hc)) (g1.apart (λr A hA c hc hm=>hd r A hA c hc (by rw [bK];exact bF _ hm)) hn3);rw [hlen] at r2 g2 a2;have e:IH L.length ks (d :: ds)=((vW L.length (RK.hd ks) d).1 :: (IH (L.length+(vW L.length (RK.hd ks) d).2.length) ks.tail ds).1,(vW L.length (RK.hd ks) d).2++(IH (L.length+(vW L.length (RK.hd ks) d).2.length) ks.tail ds).2):=by
   cases ks <;> rfl
  rw [e, <- bS];refine ⟨V2,own2,r2,g1.trans g2 (λc hc=>by simp [hc]) (λc hc=>by rw [bK];exact bF _ hc),v,s,rfl,?_,a2⟩;exact zZ a1 λr hr=>g2.agree r (G6 a1 r hr)
end
abbrev Bk:=List (Nat×Option hY)
def aE4 (t:Ty):List fT:=b6 t.size .junk
def Gb (us:List Nat):Bk:=us.map λr=>(r,none)
def Lm (L:bG):(t:Ty)->List fT->t.den->Option (List Prop×Bk)
 | .sl e,ls,xs=>match ls with
  | [.osl r none]=>match b7 L r with
   | some A=>match decide (A.t=e),A.ls with
    | true,none=>some ([xs.length=A.xs.length],[(r,some ⟨e,xs,false,none,none⟩)])
    | _,_=>none
   | none=>none
  | [.val (.slice none _ _)]=>some ([],[])
  | _=>none
 | .cons a b,ls,x=>match Lm L a (ls.take a.size) x.1,Lm L b (ls.drop a.size) x.2 with
  | some (cs,as),some (ds,bs)=>some (cs++ds,as++bs)
  | _,_=>none
 | _,_,_=>some ([],[])
def aH3 (t:Ty) (A:BD):Option t.den:=if h:A.t=t then aMF (nR h A.xs) else none
def aE5 (L:bG) (us:List Nat) (A':BD):Option (List Prop×Bk) :=
 match us with
 | [r]=>match b7 L r with
  | some A=>match decide (A'.t=A.t),A.ls with
   | true,none=>some ([A'.xs.length=A.xs.length],[(r,some ⟨A'.t,A'.xs,false,none,none⟩)])
   | _,_=>none
  | none=>none
 | _=>none
def aH4 (q:Bool) (t:Ty) (us:List Nat) (A':BD):Option Bk :=
 match us,aH3 t A' with
 | [r],some x=>some [(r,some ⟨t,[x],true,none,some q⟩)]
 | _,_=>none
def aH5 (t:Ty) (us:List Nat) (A':BD):Option (Bk×List (Nat×aY)) :=
 match us,aH3 t A' with
 | r :: vs,some x=>some ((r,some ⟨t,[],false,some (aE4 t),none⟩) :: Gb vs,[(r,⟨t,x⟩)])
 | _,_=>none
def aH6 (L:bG) (t:Ty) (p:PV) (A':BD):Option (List Prop×Bk) :=
 match p,aH3 t A' with
 | .a (.rcd _ ls),some x=>Lm L t ls x
 | _,_=>none
def Ev (L:bG) (q:Bool):AT->PV->List Nat->BD->Option (List Prop×Bk×List (Nat×aY))
 | .own t,p,us,A'=>match aE5 L us A' with | some (cs,as)=>some (cs,as,[]) | none=>none
 | .pb t,p,us,A'=>match aH4 q t us A' with | some as=>some ([],as,[]) | none=>none
 | .po t,p,us,A'=>match aH5 t us A' with | some (as,ex)=>some ([],as,ex) | none=>none
 | .sv t,p,us,A'=>match aH6 L t p A' with | some (cs,as)=>some (cs,as,[]) | none=>none
 | _,_,_,_=>none
def Uu (L:bG) (q:Bool) (o:AT) (p:PV) (us:List Nat):Option BD->Option (List Prop×Bk×List (Nat×aY))
 | none=>some ([],Gb us,[])
 | some A'=>Ev L q o p us A'
def Hb:AT->Bool
 | .own _=>true
 | .pb _=>true
 | .po _=>true
 | .sv _=>true
 | _=>false
def BS (L:bG) (q:Bool):List AT->List PV->List (List Nat)->List (Option BD)->Option (List Prop×Bk×List (Nat×aY))
 | [],_,_,[]=>some ([],[],[])
 | o :: r,p :: s,us :: os,ups=>match Hb o with
  | false=>BS L q r s os ups
  | true=>match ups with
   | u :: ups=>match Uu L q o p us u,BS L q r s os ups with
    | some (cs,as,ex),some (ds,bs,fx)=>some (cs++ds,as++bs,ex++fx)
    | _,_=>none
   | []=>none
 | _,_,_,_=>none
def uT:Bk->eD×bG->eD×bG
 | [],EL=>EL
 | (r,none) :: s,EL=>uT s (CV r EL.1,pF r (iE EL.2 r none))
 | (r,some A) :: s,EL=>uT s (EL.1,iE EL.2 r (some A))
def SW:List (Nat×aY)->bG->bG
 | [],L=>L
 | (r,d) :: s,L=>match p7 L.length d.t d.x with
  | (ls,es)=>SW s (iE (L++es) r (some ⟨d.t,[],false,some ls,none⟩))
def TY:List dD->PV
 | [A] => .a A
 | ats => .tup ats
def TZ (ext:sE) (E:eD) (L:bG) (f:FuncId) (ps:List PV):Option (List Prop×PV×eD×bG) :=
 match ext with
 | []=>none
 | (g,S) :: r=>match cG f g with
  | true=>match sR L S.sig ps with
   | some (x,os,us)=>match TQ os.flatten us&&x8 os.flatten&&(SV S.kds||us.isEmpty),BS L (nZ L S.sig ps) S.sig ps os (S.upd x) with
    | true,some (cs,acts,ex)=>match uT acts (E,L) with
     | (E',L1)=>match SW ex L1 with
      | L2=>match IH L2.length S.kds (S.res x) with
       | (ats,es)=>some (S.pre x :: cs,TY ats,E',L2++es)
    | _,_=>TZ r E L f ps
   | none=>TZ r E L f ps
  | false=>TZ r E L f ps
section
variable {P:Program} {n:Nat} {K:jK} {G:Nat->Prop} {w0 w:World} {a:Act} {E:eD} {L:bG} {V:Nat->Value} {own:Nat->List Nat}
theorem iQ {L:bG} {r:Nat} {x:Option hY} {A:hY} (h:b7 L r=some A):b7 (iE L r x) r=x:=by
 rw [TG,if_pos ⟨rfl,uN h⟩]
theorem dO {L:bG} {r s:Nat} {x:Option hY} (h:r≠s):b7 (iE L r x) s=b7 L s:=by
 rw [TG,if_neg (λhh=>h hh.1)]
def T0 (A A':hY):Prop:=A'.t=A.t/\A'.xs.length=A.xs.length/\∀ ls,A.ls=some ls->∃ ls',A'.ls=some ls'
theorem aBk {r:Nat} {A A':hY} (h:T0 A A'):T0 (mV r A) A':=by
 obtain ⟨h1,h2,h3⟩:=h;refine ⟨h1.trans (G7 r A).symm,h2.trans (G9 r A).symm,λls hls => ?_⟩;obtain ⟨l0,h0,_⟩:=CX.2 ls hls;exact h3 l0 h0
theorem Ln {r:Nat} {A A':hY} (hA:b7 L r=some A) (h:T0 A A') (V:Nat->Value) (s:Nat):mN L V (iE L r (some A')) V s:=by
 refine ⟨rfl,λB hB => ?_⟩;by_cases hs:r=s
 ·subst hs;rw [hA] at hB;cases hB;exact ⟨A',iQ hA,h.1,h.2.1,h.2.2⟩
 ·exact ⟨B,by rw [dO hs];exact hB,rfl,rfl,λls h=>⟨ls,h⟩⟩
theorem aBl {r s:Nat} (hs:s≠r) (V:Nat->Value):mN L V (iE L r none) V s :=
 mN.of_same rfl (dO (jL hs))
structure J9 (n:Nat) (K:jK) (w0:World) (G:Nat->Prop) (w:World) (a:Act) (E:eD) (L:bG) (V:Nat->Value) (own:Nat->List Nat) (pend:List Nat) (rest:Nat->Prop):Prop where
 glob:E9 K.w0 K.O
 kept:cE K.O K.w0 w
 size:a.tmps.size=n
 defers:a.defers=[]
 glt:∀ b,G b->b<w.heap.size
 gref:∀ b,G b->w.heap[b]? = w0.heap[b]?
 gsub:∀ b,K.G0 b->G b
 gold:∀ b,K.G0 b->Good K.w0 K.O b
 gup:∀ b,G b->K.Ga b\/¬ Good K.w0 K.O b
 heap:∀ r A,b7 L r=some A->r ∉ pend->fW w0 G w A (V r) (own r)
 good:∀ r A,b7 L r=some A->r ∉ pend->∀ b∈own r,Out K G b
 nodup:∀ r A,b7 L r=some A->r ∉ pend->(own r).Nodup
 apart:∀ r s A B,b7 L r=some A->b7 L s=some B->r ∉ pend->s ∉ pend->r≠s->∀ b∈own r,b ∉ own s
 boxs:∀ r A ls,b7 L r=some A->r ∉ pend->A.ls=some ls->Bh w0 G w L V A.t ls (V r)
 small:∀ r A q,b7 L r=some A->r ∉ pend->A.sm=some q->(∃ b off,V r = .slice (some ⟨b,off,none⟩) 1 1)/\(q=true->A.bor=true/\fW w0 K.G0 w A (V r) (own r))
 env:∀ i,kH w0 G L V (E.get i) (a.tmps.getD i undef)
 live:∀ r∈pend,∃ A,b7 L r=some A
 rest:∀ r A,b7 L r=some A->r ∉ pend->∀ b∈own r,¬ rest b
theorem J9.done {rest:Nat->Prop} (h:J9 n K w0 G w a E L V own [] rest):bT n K w0 G w a E L V own :=
 ⟨h.glob,h.kept,h.size,h.defers,h.glt,h.gref,h.gsub,h.gold,h.gup,λr A hA=>h.heap r A hA (by simp),λr A hA=>h.good r A hA (by simp),λr A hA=>h.nodup r A hA (by simp),λr s A B h1 h2=>h.apart r s A B h1 h2 (by simp) (by simp),λr A ls hA=>h.boxs r A ls hA (by simp),λr A q hA=>h.small r A q hA (by simp),h.env⟩
theorem kV {r s:Nat} {rs:List Nat} (h1:s≠r) (h2:s ∉ rs):s ∉ r :: rs:=λhm=>by
 rcases aR.1 hm with h | h
 ·exact h1 h
 ·exact h2 h
theorem J9.drop {r:Nat} {pend:List Nat} {rest:Nat->Prop} (hp:J9 n K w0 G w a E L V own (r :: pend) rest) (hr:r ∉ pend):J9 n K w0 G w a (CV r E) (pF r (iE L r none)) V own pend rest:=by
 obtain ⟨A0,hA0⟩:=hp.live r (aQ ..);have hback:∀ s A,b7 (pF r (iE L r none)) s=some A->s≠r/\∃ B,b7 L s=some B/\A=mV r B:=by
  intro s A hs;rw [lV] at hs;by_cases hsr:s=r
  ·subst hsr;rw [iQ hA0] at hs;cases hs
  ·rw [dO (jL hsr)] at hs;cases hB:b7 L s with
   | none=>rw [hB] at hs;cases hs
   | some B=>rw [hB] at hs;cases hs;exact ⟨hsr,B,rfl,rfl⟩
 have hag:∀ s,s≠r->mN L V (pF r (iE L r none)) V s:=λs hs=>(aBl hs V).trans (Xf r _ V s);refine ⟨hp.glob,hp.kept,hp.size,hp.defers,hp.glt,hp.gref,hp.gsub,hp.gold,hp.gup,?_,?_,?_,?_,?_,?_,λi => ?_,?_,?_⟩
 ·intro s A hs hm;obtain ⟨h1,B,h2,rfl⟩:=hback s A hs;exact G8.2 (hp.heap s B h2 (kV h1 hm))
 ·intro s A hs hm;obtain ⟨h1,B,h2,rfl⟩:=hback s A hs;exact hp.good s B h2 (kV h1 hm)
 ·intro s A hs hm;obtain ⟨h1,B,h2,rfl⟩:=hback s A hs;exact hp.nodup s B h2 (kV h1 hm)
 ·intro s t A B hs ht hm hm' hst;obtain ⟨h1,C,h2,rfl⟩:=hback s A hs;obtain ⟨h3,D,h4,rfl⟩:=hback t B ht;exact hp.apart s t C D h2 h4 (kV h1 hm) (kV h3 hm') hst
 ·intro s A ls hs hm hls;obtain ⟨h1,B,h2,rfl⟩:=hback s A hs;obtain ⟨l0,h0,rfl⟩:=CX.2 ls hls;rw [G7];refine ((hp.boxs s B l0 h2 (kV h1 hm) h0).kill r).agree λu hu=>hag u λe => ?_;subst e;exact Et.1 hu
 ·intro s A q hs hm hq;obtain ⟨h1,B,h2,rfl⟩:=hback s A hs;rw [Xe] at hq;obtain ⟨g1,g2⟩:=hp.small s B q h2 (kV h1 hm) hq;exact ⟨g1,λe=>⟨by rw [TX];exact (g2 e).1,G8.2 (g2 e).2⟩⟩
 ·rw [Ll];exact oT (TU r (hp.env i)) λs hs=>hag s λe=>PD.1 (e ▸ hs)
 ·intro s hs;obtain ⟨A,hA⟩:=hp.live s (aM _ hs);have:s≠r:=λe=>hr (e ▸ hs);exact ⟨mV r A,by rw [lV,dO (jL this),hA];rfl⟩
 ·intro s A hs hm;obtain ⟨h1,B,h2,rfl⟩:=hback s A hs;exact hp.rest s B h2 (kV h1 hm)
theorem J9.set {r:Nat} {pend b:List Nat} {rest:Nat->Prop} {A':hY} (hp:J9 n K w0 G w a E L V own (r :: pend) (λc=>c∈b\/rest c)) (hr:r ∉ pend) (hsh:∀ A,b7 L r=some A->T0 A A') (hE:fW w0 G w A' (V r) b)
  (hbox:∀ ls,A'.ls=some ls->Bh w0 G w L V A'.t ls (V r)) (hsm:∀ q,A'.sm=some q->(∃ b off,V r = .slice (some ⟨b,off,none⟩) 1 1)/\(q=true->A'.bor=true/\fW w0 K.G0 w A' (V r) b)) (hn:b.Nodup) (hnr:∀ c∈b,¬ rest c) (hg:∀ c∈b,Out K G c) :
  J9 n K w0 G w a E (iE L r (some A')) V (CW own r b) pend rest:=by
 obtain ⟨A0,hA0⟩:=hp.live r (aQ ..);have hag:∀ s,mN L V (iE L r (some A')) V s:=Ln hA0 (hsh A0 hA0) V;have hsplit:∀ s B,b7 (iE L r (some A')) s=some B->(s≠r/\b7 L s=some B)\/(s=r/\B=A'):=by
  intro s B hs;by_cases hsr:s=r
  ·subst hsr;rw [iQ hA0] at hs;cases hs;exact .inr ⟨rfl,rfl⟩
  ·exact .inl ⟨hsr,by rwa [dO (jL hsr)] at hs⟩
 have hold:∀ s B,b7 L s=some B->s≠r->s ∉ pend->∀ c∈own s,c ∉ b/\¬ rest c:=by
  intro s B hs h1 h2 c hc;have:=hp.rest s B hs (kV h1 h2) c hc;exact ⟨λh=>this (.inl h),λh=>this (.inr h)⟩
 refine ⟨hp.glob,hp.kept,hp.size,hp.defers,hp.glt,hp.gref,hp.gsub,hp.gold,hp.gup,?_,?_,?_,?_,?_,?_,λi=>oT (hp.env i) λs _=>hag s,?_,?_⟩
 ·intro s B hs hm;rcases hsplit s B hs with ⟨h1,h2⟩ | ⟨rfl,rfl⟩
  ·rw [dI _ _ h1];exact hp.heap s B h2 (kV h1 hm)
  ·rw [eA];exact hE
 ·intro s B hs hm;rcases hsplit s B hs with ⟨h1,h2⟩ | ⟨rfl,rfl⟩
  ·rw [dI _ _ h1];exact hp.good s B h2 (kV h1 hm)
  ·rw [eA];exact hg
 ·intro s B hs hm;rcases hsplit s B hs with ⟨h1,h2⟩ | ⟨rfl,rfl⟩
  ·rw [dI _ _ h1];exact hp.nodup s B h2 (kV h1 hm)
  ·rw [eA];exact hn
 ·intro s t B C hs ht hm hm' hst;rcases hsplit s B hs with ⟨h1,h2⟩ | ⟨rfl,rfl⟩
  ·rcases hsplit t C ht with ⟨h3,h4⟩ | ⟨rfl,rfl⟩
   ·rw [dI _ _ h1,dI _ _ h3];exact hp.apart s t B C h2 h4 (kV h1 hm) (kV h3 hm') hst
   ·rw [dI _ _ h1,eA];exact λc hc=>(hold s B h2 h1 hm c hc).1
  ·rcases hsplit t C ht with ⟨h3,h4⟩ | ⟨rfl,rfl⟩
   ·rw [dI _ _ h3,eA];exact λc hc hc2=>(hold t C h4 h3 hm' c hc2).1 hc
   ·exact absurd rfl hst
 ·intro s B ls hs hm hls;rcases hsplit s B hs with ⟨h1,h2⟩ | ⟨rfl,rfl⟩
  ·exact (hp.boxs s B ls h2 (kV h1 hm) hls).agree λu _=>hag u
  ·exact (hbox ls hls).agree λu _=>hag u
 ·intro s B q hs hm hq;rcases hsplit s B hs with ⟨h1,h2⟩ | ⟨rfl,rfl⟩
  ·rw [dI _ _ h1];exact hp.small s B q h2 (kV h1 hm) hq
  ·rw [eA];exact hsm q hq
 ·intro s hs;obtain ⟨B,hB⟩:=hp.live s (aM _ hs);have:s≠r:=λe=>hr (e ▸ hs);exact ⟨B,by rw [dO (jL this)];exact hB⟩
 ·intro s B hs hm;rcases hsplit s B hs with ⟨h1,h2⟩ | ⟨rfl,rfl⟩
  ·rw [dI _ _ h1];exact λc hc=>(hold s B h2 h1 hm c hc).2
  ·rw [eA];exact hnr
def vX (K:jK) (w0:World) (G:Nat->Prop) (w:World) (V:Nat->Value):Bk->List (List Nat)->Prop
 | [],bss=>bss=[]
 | (r,none) :: s,bss=>vX K w0 G w V s bss
 | (r,some A') :: s,bss=>∃ b t,bss=b :: t/\fW w0 G w A' (V r) b/\(∀ ls,A'.ls=some ls->iF ls=[]/\Bh w0 G w [] V A'.t ls (V r)) /\
   (∀ q,A'.sm=some q->(∃ b off,V r = .slice (some ⟨b,off,none⟩) 1 1)/\(q=true->A'.bor=true/\fW w0 K.G0 w A' (V r) b))/\vX K w0 G w V s t
theorem vX.append {as bs:Bk}:∀ {xs ys:List (List Nat)},vX K w0 G w V as xs->vX K w0 G w V bs ys->vX K w0 G w V (as++bs) (xs++ys):=by
 induction as with
 | nil=>intro xs ys h1 h2;cases h1;exact h2
 | cons p s ih =>
  intro xs ys h1 h2;obtain ⟨r,o⟩:=p;cases o with
  | none=>exact ih (xs:=xs) h1 h2
  | some A' =>
   obtain ⟨b,t,rfl,h3,h4,h5,h6⟩:=h1;exact ⟨b,t++ys,rfl,h3,h4,h5,ih h6 h2⟩
theorem II:∀ {us:List Nat},vX K w0 G w V (Gb us) []
 | []=>rfl
 | r :: s=>II (us:=s)
theorem Ew:∀ (us:List Nat),(Gb us).map hI=us
 | []=>rfl
 | r :: s=>by simp only [Gb,bP,dP,true_and];exact Ew s
def Lo (L:bG) (acts:Bk):Prop:=∀ p∈acts,∀ A',p.2=some A'->∀ A,b7 L p.1=some A->T0 A A'
theorem J9.mono {pend:List Nat} {R R':Nat->Prop} (h:J9 n K w0 G w a E L V own pend R) (hR:∀ c,R' c->R c):J9 n K w0 G w a E L V own pend R' :=
 { h with rest:=λr A hA hr c hc hm=>h.rest r A hA hr c hc (hR c hm) }
theorem Lp:∀ {acts:Bk} {E:eD} {L:bG} {own:Nat->List Nat} {bss:List (List Nat)} {rest:Nat->Prop},
  J9 n K w0 G w a E L V own (acts.map hI) (λc=>c∈bss.flatten\/rest c)->(acts.map hI).Nodup->vX K w0 G w V acts bss->Lo L acts->bss.flatten.Nodup->(∀ c∈bss.flatten,¬ rest c)->(∀ b∈bss.flatten,Out K G b) ->
  ∃ own',bT n K w0 G w a (uT acts (E,L)).1 (uT acts (E,L)).2 V own'/\(∀ r A,b7 (uT acts (E,L)).2 r=some A->∀ b∈own' r,¬ rest b)
 | [],E,L,own,bss,rest,hp,_,hok,_,_,_,_=>by
  cases hok;exact ⟨own,hp.done,λr A hA b hb hm=>hp.rest r A hA (by simp) b hb (.inr hm)⟩
 | (r,none) :: acts,E,L,own,bss,rest,hp,hnd,hok,hsh,hn,hnr,hg=>by
  obtain ⟨hr,hnd'⟩:=j7.1 hnd;refine Lp (acts:=acts) (hp.drop hr) hnd' hok ?_ hn hnr hg;rintro ⟨p1,p2⟩ hp' A' hA' A hA;rw [lV] at hA;have hpr:p1≠r:=λe=>hr (eE.2 ⟨_,hp',e⟩);rw [dO (jL hpr)] at hA;cases hB:b7 L p1 with
  | none=>rw [hB] at hA;cases hA
  | some B =>
   rw [hB] at hA;cases hA;exact aBk (hsh (p1,p2) (aM _ hp') A' hA' B hB)
 | (r,some A') :: acts,E,L,own,bss,rest,hp,hnd,hok,hsh,hn,hnr,hg=>by
  obtain ⟨hr,hnd'⟩:=j7.1 hnd;obtain ⟨b,t,rfl,hE,hbox,hsm,hok'⟩:=hok;simp only [bK] at hp hn hnr hg;rw [iO] at hn;have hp':=(hp.mono (R':=λc=>c∈b\/(c∈t.flatten\/rest c)) (λc hc=>by
   rcases hc with hc | hc | hc
   ·exact .inl (bQ _ hc)
   ·exact .inl (bF _ hc)
   ·exact .inr hc)).set hr (hsh _ (aQ ..) A' rfl) hE (λls hls=>(hbox ls hls).2.agree λu hu=>by rw [(hbox ls hls).1] at hu;cases hu) hsm hn.1 (λc hc hm=>hm.elim (λhm=>hn.2.2 c hc c hm rfl) (hnr c (bQ _ hc))) (λc hc=>hg c (bQ _ hc))
  refine Lp (acts:=acts) hp' hnd' hok' ?_ hn.2.1 (λc hc=>hnr c (bF _ hc)) (λc hc=>hg c (bF _ hc));rintro ⟨p1,p2⟩ hp2 B' hB' B hB;have hpr:p1≠r:=λe=>hr (eE.2 ⟨_,hp2,e⟩);rw [dO (jL hpr)] at hB;exact hsh (p1,p2) (aM _ hp2) B' hB' B hB
theorem bT.setLs (hR:bT n K w0 G w a E L V own) {r:Nat} {A:hY} {l0 ls:List fT} (hA:b7 L r=some A) (h0:A.ls=some l0) (hb:Bh w0 G w L V A.t ls (V r)):bT n K w0 G w a E (iE L r (some ⟨A.t,A.xs,A.bor,some ls,A.sm⟩)) V own:=by
 have hag:∀ s,mN L V (iE L r (some ⟨A.t,A.xs,A.bor,some ls,A.sm⟩)) V s:=Ln (A':=⟨A.t,A.xs,A.bor,some ls,A.sm⟩) hA ⟨rfl,rfl,λ_ _=>⟨ls,rfl⟩⟩ V;have hsplit:∀ s B,b7 (iE L r (some ⟨A.t,A.xs,A.bor,some ls,A.sm⟩)) s=some B->(s≠r/\b7 L s=some B)\/(s=r/\B=⟨A.t,A.xs,A.bor,some ls,A.sm⟩):=by
  intro s B hs;by_cases hsr:s=r
  ·subst hsr;rw [iQ hA] at hs;cases hs;exact .inr ⟨rfl,rfl⟩
  ·exact .inl ⟨hsr,by rwa [dO (jL hsr)] at hs⟩
 have hlive:∀ s B,b7 (iE L r (some ⟨A.t,A.xs,A.bor,some ls,A.sm⟩)) s=some B->∃ C,b7 L s=some C:=λs B hs=>by
  rcases hsplit s B hs with ⟨_,h⟩ | ⟨rfl,_⟩
  ·exact ⟨B,h⟩
  ·exact ⟨A,hA⟩
 refine ⟨hR.glob,hR.kept,hR.size,hR.defers,hR.glt,hR.gref,hR.gsub,hR.gold,hR.gup,?_,?_,?_,?_,?_,?_,λi=>oT (hR.env i) λs _=>hag s⟩
 ·intro s B hs;rcases hsplit s B hs with ⟨_,h⟩ | ⟨rfl,rfl⟩
  ·exact hR.heap s B h
  ·exact hR.heap s A hA
 ·intro s B hs;obtain ⟨C,hC⟩:=hlive s B hs;exact hR.good s C hC
 ·intro s B hs;obtain ⟨C,hC⟩:=hlive s B hs;exact hR.nodup s C hC
 ·intro s t B D hs ht hst;obtain ⟨C,hC⟩:=hlive s B hs;obtain ⟨F,hF⟩:=hlive t D ht;exact hR.apart s t C F hC hF hst
 ·intro s B l hs hl;rcases hsplit s B hs with ⟨_,h⟩ | ⟨rfl,rfl⟩
  ·exact (hR.boxs s B l h hl).agree λu _=>hag u
  ·cases hl;exact hb.agree λu _=>hag u
 ·intro s B q hs hq;rcases hsplit s B hs with ⟨_,h⟩ | ⟨rfl,rfl⟩
  ·exact hR.small s B q h hq
  ·exact hR.small s A q hA hq
def PI (w:World) (V:Nat->Value):List (Nat×aY)->List (List Nat)->Prop
 | [],bss=>bss=[]
 | (r,d) :: s,bss=>∃ b t blk off cs,bss=b :: t/\V r = .slice (some ⟨blk,off,none⟩) 0 1/\kK w blk off cs/\gB w d.t d.x cs b/\PI w V s t
theorem PI.append:∀ {as bs:List (Nat×aY)} {xs ys:List (List Nat)},PI w V as xs->PI w V bs ys->PI w V (as++bs) (xs++ys)
 | [],_,_,_,h1,h2=>by cases h1;exact h2
 | (r,d) :: as,bs,_,ys,⟨b,t,blk,off,cs,h1,h3,h4,h5,h6⟩,h2=>by
  subst h1;exact ⟨b,t++ys,blk,off,cs,rfl,h3,h4,h5,h6.append h2⟩
def aXn (L:bG) (ex:List (Nat×aY)):Prop:=∀ p∈ex,∃ ls,b7 L p.1=some ⟨p.2.t,[],false,some ls,none⟩
theorem Xg:∀ {ex:List (Nat×aY)} {L:bG} {V:Nat->Value} {own:Nat->List Nat} {bss:List (List Nat)} {rest:Nat->Prop},bT n K w0 G w a E L V own->PI w V ex bss->aXn L ex->(ex.map hI).Nodup ->
  bss.flatten.Nodup->(∀ c∈bss.flatten,¬ rest c)->(∀ b∈bss.flatten,Out K G b)->(∀ r A,b7 L r=some A->∀ b∈own r,b ∉ bss.flatten/\¬ rest b) ->
  ∃ V' own',bT n K w0 G w a E (SW ex L) V' own'/\(∀ r A,b7 (SW ex L) r=some A->∀ b∈own' r,¬ rest b)
 | [],L,V,own,bss,rest,hR,hok,_,_,_,_,_,hd=>by
  cases hok;exact ⟨V,own,hR,λr A hA b hb=>(hd r A hA b hb).2⟩
 | (r,d) :: ex,L,V,own,bss,rest,hR,hok,hin,hnd,hn,hnr,hg,hd=>by
  obtain ⟨b,t,blk,off,cs,rfl,hv,hc,ho,hok'⟩:=hok;obtain ⟨l0,hA⟩:=hin _ (aQ ..);obtain ⟨hr,hnd'⟩:=j7.1 hnd;simp only [bK] at hn hnr hg hd;have hn':=iO.1 hn;obtain ⟨V1,own1,r1,g1,l1,n1⟩:=zS hR ho hn'.1 (λc hc=>hg c (bQ _ hc)) (λs A hs c hc hm=>(hd s A hs c hc).1 (bQ _ hm));have hA':b7 (L++(p7 L.length d.t d.x).2) r=some ⟨d.t,[],false,some l0,none⟩:=by
   rw [lI,if_pos (uN hA)];exact hA
  have hVr:V1 r=V r:=(g1.same r (uN hA)).1;have iE:=r1.setLs (ls:=(p7 L.length d.t d.x).1) hA' rfl ⟨blk,off,cs,by rw [hVr];exact hv,ho.length,n1,hc,l1⟩;have hap:∀ s A,b7 (L++(p7 L.length d.t d.x).2) s=some A->∀ c∈own1 s,c ∉ t.flatten/\¬ rest c:=by
   intro s A hs c hc;rw [lI] at hs;split at hs
   ·rename_i hlt;rw [(g1.same s hlt).2] at hc;have:=hd s A hs c hc;exact ⟨λhm=>this.1 (bF _ hm),this.2⟩
   ·rename_i hge;have hlt:=uN hs;have hcb:=g1.new s (by omega) (by omega) c hc;exact ⟨λhm=>hn'.2.2 c hcb c hm rfl,hnr c (bQ _ hcb)⟩
  have hV1:∀ s A,b7 L s=some A->V1 s=V s:=λs A hs=>(g1.same s (uN hs)).1;have hokV:∀ {ex:List (Nat×aY)} {bss:List (List Nat)},(∀ p∈ex,V1 p.1=V p.1)->PI w V ex bss->PI w V1 ex bss:=by
   intro ex
   induction ex with
   | nil=>intro bss _ h;exact h
   | cons p s ih =>
    intro bss hh h;obtain ⟨r',d'⟩:=p;obtain ⟨b',t',blk',off',cs',e1,e2,e3,e4,e5⟩:=h;exact ⟨b',t',blk',off',cs',e1,by rw [hh _ (aQ ..)];exact e2,e3,e4,ih (λp hp=>hh p (aM _ hp)) e5⟩
  refine Xg (ex:=ex) iE (hokV (λp hp => ?_) hok') ?_ hnd' hn'.2.1 (λc hc=>hnr c (bF _ hc)) (λc hc=>hg c (bF _ hc)) ?_
  ·obtain ⟨ls,h⟩:=hin p (aM _ hp);exact hV1 _ _ h
  ·rintro ⟨p1,p2⟩ hp;obtain ⟨ls,h⟩:=hin (p1,p2) (aM _ hp);have hpr:p1≠r:=λe=>hr (eE.2 ⟨_,hp,e⟩);exact ⟨ls,by rw [dO (jL hpr),lI,if_pos (uN h)];exact h⟩
  ·intro s A hs;by_cases hsr:s=r
   ·subst hsr;exact hap s _ hA'
   ·rw [dO (jL hsr)] at hs;exact hap s A hs
theorem Uv {t:Ty} {A:BD} {x:t.den} (h:aH3 t A=some x) {y:t.den} (hy:A=⟨t,[y]⟩):x=y:=by
 subst hy;unfold aH3 at h;rw [dif_pos rfl] at h;have:=Us h;cases this;rfl
theorem aMK {e:Ty} {r:Nat} {y:List e.den} {us:List Nat} (h:slW L e (.osl r none)=some (y,us)):us=[r]:=by
 have h:(match b7 L r with
  | some A=>match A.bor with
   | true=>none
   | false=>if h:A.t=e then some (nR h A.xs,[r]) else none
  | none=>none)=some (y,us):=h
 split at h
 ·split at h
  ·cases h
  ·split at h
   ·cases h;rfl
   ·cases h
 ·cases h
theorem Ex {w':World} (hR:bT n K w0 G w a E L V own):∀ {t:Ty} {ls:List fT} {x:t.den} {cs:List Value} {bs:List Nat} {cd:List Prop} {acts:Bk} {y:t.den} {us:List Nat},Lm L t ls x=some (cd,acts)->qC L t ls=some (y,us)->eZ cd->gV w0 G L V ls cs->gB w' t x cs bs ->
  ∃ bss,vX K w0 G w' V acts bss/\bss.flatten=bs/\Lo L acts/\acts.map hI=us
 | .int k,ls,x,cs,bs,cd,acts,y,us,h,ho,_,hr,hx=>by
  cases h;simp only [qC] at ho;split at ho
  ·cases ho;exact ⟨[],rfl,by rw [hx.2.2];rfl,(λp hp=>by cases hp),rfl⟩
  ·cases ho
 | .bool,ls,x,cs,bs,cd,acts,y,us,h,ho,_,hr,hx=>by
  cases h;simp only [qC] at ho;split at ho
  ·cases ho;exact ⟨[],rfl,by rw [hx.2];rfl,(λp hp=>by cases hp),rfl⟩
  ·cases ho
 | .fn,ls,x,cs,bs,cd,acts,y,us,h,ho,_,hr,hx=>by
  cases h;simp only [qC] at ho;split at ho
  ·cases ho;exact ⟨[],rfl,by rw [hx.2];rfl,(λp hp=>by cases hp),rfl⟩
  ·cases ho
 | .str,ls,x,cs,bs,cd,acts,y,us,h,ho,_,hr,hx=>by
  cases h;simp only [qC] at ho;split at ho
  ·cases ho;exact ⟨[],rfl,by rw [hx.2.2];rfl,(λp hp=>by cases hp),rfl⟩
  ·cases ho
 | .unit,ls,x,cs,bs,cd,acts,y,us,h,ho,_,hr,hx=>by
  cases h;simp only [qC] at ho;split at ho
  ·cases ho;exact ⟨[],rfl,by rw [hx.2];rfl,(λp hp=>by cases hp),rfl⟩
  ·cases ho
 | .sl e,ls,x,cs,bs,cd,acts,y,us,h,ho,hc,hr,hx=>by
  simp only [Lm] at h;split at h
  ·rename_i r;split at h
   ·rename_i A hA;split at h
    ·rename_i hte hls;have hte:=of_decide_eq_true hte;cases h;have hus:us=[r]:=aMK (e:=e) ho;subst hus;obtain ⟨hlen,_⟩:=hc;obtain ⟨v,s,rfl,⟨B,hB,hve,_⟩,h2⟩:=hr;cases h2;obtain rfl:=hve rfl;refine ⟨[bs],⟨bs,[],rfl,fW.own.2 hx,(λl h=>by cases h),(λq h=>by cases h),rfl⟩,by simp,λp hp A' hA' A2 hA2 => ?_,rfl⟩;rw [bI] at hp;subst hp;cases hA';rw [hA] at hA2;cases hA2;exact ⟨hte.symm,hlen,λl hl=>by rw [hls] at hl;cases hl⟩
    ·cases h
   ·cases h
  ·cases h;simp only [qC,slW] at ho;cases ho;obtain ⟨v,s,rfl,⟨rfl,⟨h3,h4⟩,_⟩,h2⟩:=hr;cases h2;obtain ⟨v',hv',hx⟩:=hx;cases hv';rcases hx.2 with ⟨_,_,_,hb⟩ | ⟨b,off,cap,cur,ty,fz,bss,h1,_⟩
   ·exact ⟨[],rfl,by rw [hb];rfl,(λp hp=>by cases hp),rfl⟩
   ·cases h1
  ·cases h
 | .cons p q,ls,x,cs,bs,cd,acts,y,us,h,ho,hc,hr,hx=>by
  simp only [Lm] at h;split at h
  ·rename_i c1 a1 c2 a2 h1 h2;cases h;simp only [qC] at ho;split at ho
   ·rename_i y1 us1 y2 us2 ho1 ho2;cases ho;obtain ⟨hc1,hc2⟩:=eZ.append.1 hc;obtain ⟨d1,d2,b1,b2,hcs,rfl,hx1,hx2⟩:=hx;have e1:cs.take p.size=d1:=by rw [hcs, <- hx1.length,E2];rfl
    have e2:cs.drop p.size=d2:=by rw [hcs, <- hx1.length,E3];rfl
    have r1:=oR p.size hr;have r2:=oQ p.size hr;rw [e1] at r1;rw [e2] at r2;obtain ⟨s1,k1,k2,k3,k4⟩:=Ex hR h1 ho1 hc1 r1 hx1;obtain ⟨s2,m1,m2,m3,m4⟩:=Ex hR h2 ho2 hc2 r2 hx2;refine ⟨s1++s2,k1.append m1,by rw [fK,k2,m2],λz hz => ?_,by rw [gQ,k4,m4]⟩;rcases bU.1 hz with hz | hz
    ·exact k3 z hz
    ·exact m3 z hz
   ·cases ho
  ·cases h
theorem dW.one {w:World} {G:Nat->Prop}:∀ {t:Ty} {x:t.den} {cs:List Value},dW w G t x cs->∀ c∈cs,c.oneCell'=true
 | .int _,_,_,h,c,hc=>by rw [h.1] at hc;simp at hc;subst hc;rfl
 | .bool,_,_,h,c,hc=>by rw [h] at hc;simp at hc;subst hc;rfl
 | .fn,x,_,h,c,hc=>by rw [h] at hc;simp at hc;subst hc;exact O1 x
 | .str,_,_,h,c,hc=>by rw [h.1] at hc;simp at hc;subst hc;rfl
 | .sl _,_,_,⟨v,h,h2⟩,c,hc=>by
  rw [h] at hc;simp at hc;subst hc;rcases h2.2 with ⟨_,rfl,_⟩ | ⟨b,off,cap,rfl,_⟩ <;> rfl
 | .unit,_,_,h,c,hc=>by rw [h] at hc;cases hc
 | .cons _ _,_,_,⟨c1,c2,h,h1,h2⟩,c,hc=>by
  rw [h] at hc;rcases bU.1 hc with hc | hc
  ·exact h1.one c hc
  ·exact h2.one c hc
theorem gB.one {w:World}:∀ {t:Ty} {x:t.den} {cs:List Value} {bs:List Nat},gB w t x cs bs->∀ c∈cs,c.oneCell'=true:=λ{t x cs bs} h =>
 (h.read (G:=λ_=>True) (λ_ _=>trivial)).one
theorem T1 (w:World):∀ {cs:List Value} {k:Nat},(∀ c∈cs,c.oneCell'=true)->cs.length=k->gV w0 G [] V (b6 k .junk) cs
 | [],k,_,h=>by subst h;rfl
 | c :: cs,k,hc,h=>by
  subst h;exact ⟨c,cs,rfl,hc c (aQ ..),T1 w (λd hd=>hc d (aM _ hd)) rfl⟩
theorem PJ:∀ k:Nat,iF (b6 k .junk)=[]
 | 0=>rfl
 | k+1=>by simp only [H5,iF,IE,PJ k,c6]
theorem PK {us:List Nat}:Lo L (Gb us):=by
 intro p hp A' hA';obtain ⟨r,_,rfl⟩:=eE.1 hp;cases hA'
def aXo (w:World) (G0:Nat->Prop) (o:AT) (v:Value) (b:List Nat):Option BD->Prop
 | none=>b=[]
 | some A=>aAZ w G0 o A v b
theorem Uw {w':World} {Gq:Nat->Prop} {q:Bool} (hR:bT n K w0 G w a E L V own) (hGq:∀ b,Gq b->G b) (hGs:q=true->∀ b,Gq b->K.G0 b) (href:∀ b,G b->w'.heap[b]? = w0.heap[b]?) {o:AT} {p:PV} {us:List Nat} {x:o.den} {u:Option BD} {v:Value} {bs:List Nat} {cd:List Prop} {acts:Bk} {ex:List (Nat×aY)} (how:Hb o=true) (hp:kH w0 G L V p v) (hd:sH L o p=some (x,us,[]))
  (h:Uu L q o p us u=some (cd,acts,ex)) (hc:eZ cd) (hu:aXo w' Gq o v bs u) :
  ∃ bss exs,vX K w0 G w' V acts bss/\PI w' V ex exs/\(bss.flatten++exs.flatten).Perm bs/\Lo L acts/\acts.map hI=us/\(∀ r∈ex.map hI,r∈us)/\(ex.map hI).Nodup/\(∀ z∈ex,∃ ls,(z.1,some ⟨z.2.t,[],false,some ls,none⟩)∈acts):=by
 cases u with
 | none =>
  cases h;have hu:bs=[]:=hu;subst hu;exact ⟨[],[],II,rfl,.refl _,PK,Ew us,(λr hr=>by cases hr),fS,λz hz=>by cases hz⟩
 | some A' =>
  simp only [Uu] at h;cases o with
  | v t=>cases how
  | p t=>cases how
  | fn f c=>cases how
  | fns _=>cases how
  | own t =>
   simp only [Ev] at h;split at h
   ·rename_i cs as hpl;cases h;unfold aE5 at hpl;split at hpl
    ·rename_i r;split at hpl
     ·rename_i A hA;split at hpl
      ·rename_i hte hls;have hte:=of_decide_eq_true hte;cases hpl;obtain ⟨hlen,_⟩:=hc;have hv:v=V r:=by
        cases p with
        | a B =>
         cases B with
         | osl s rg =>
          cases rg with
          | none =>
           simp only [sH] at hd;split at hd
           ·split at hd
            ·cases hd
            ·split at hd
             ·cases hd;obtain ⟨_,_,hve,_⟩:=hp;exact hve rfl
             ·cases hd
           ·cases hd
          | some _=>cases hd
         | _=>cases hd
        | tup _=>cases hd
        | fn _ _=>cases hd
       have hu:gB w' (.sl A'.t) A'.xs [v] bs:=hu;rw [hv] at hu;refine ⟨[bs],[],⟨bs,[],rfl,fW.own.2 hu,(λl h=>by cases h),(λq h=>by cases h),rfl⟩,rfl,by simp,λz hz B' hB' B2 hB2 => ?_,rfl,(λr hr=>by cases hr),fS,λz hz=>by cases hz⟩;rw [bI] at hz;subst hz;cases hB';rw [hA] at hB2;cases hB2;exact ⟨hte,hlen,λl hl=>by rw [hls] at hl;cases hl⟩
      ·cases hpl
     ·cases hpl
    ·cases hpl
   ·cases h
  | pb t =>
   simp only [Ev] at h;split at h
   ·rename_i as hpl;cases h;unfold aH4 at hpl;split at hpl
    ·rename_i r x' hx';cases hpl;obtain ⟨y,hA',hat⟩:=hu;have hxy:=Uv hx' hA';subst hxy;cases p with
     | a B =>
      simp only [sH] at hd;split at hd
      ·rename_i x1 us1 hpb;cases hd;obtain ⟨_,r',B',b,off,e1,e2,e3,e4,e5,e6,e7,e8,e9⟩:=G4 (q:=false) hR (cE.refl _ _) hp hpb (λh=>by cases h);cases e1;obtain ⟨b',off',e10,hE⟩:=hat;rw [e9] at e10;cases e10;have hE1:fW w0 G w' ⟨t,[x'],true,none,some q⟩ (V r) bs:=by
        rw [e8];exact fW.keepG (A:=⟨t,[x'],true,none,none⟩) hGq (λc hc=>(href c (hGq c hc)).symm) (λ_ _=>rfl) hE
       refine ⟨[bs],[],⟨bs,[],rfl,hE1,(λl h=>by cases h),λq' hq'=>⟨⟨b,off,e8⟩,λe=>⟨rfl,?_⟩⟩,rfl⟩,rfl,by simp,λz hz B2 hB2 B3 hB3 => ?_,rfl,(λr hr=>by cases hr),fS,λz hz=>by cases hz⟩
       ·cases hq';rw [e8];exact fW.keepG (A:=⟨t,[x'],true,none,none⟩) (hGs e) (λc hc=>(href c (hGq c hc)).symm) (λ_ _=>rfl) hE
       ·rw [bI] at hz;subst hz;cases hB2;rw [e3] at hB3;cases hB3;exact ⟨e4.symm,by rw [e7];rfl,λl hl=>by rw [e6] at hl;cases hl⟩
      ·cases hd
     | tup _=>cases hd
     | fn _ _=>cases hd
    ·cases hpl
   ·cases h
  | po t =>
   simp only [Ev] at h;split at h
   ·rename_i as ex' hpl;cases h;unfold aH5 at hpl;split at hpl
    ·rename_i r vs x' hx';cases hpl;obtain ⟨y,hA',hat⟩:=hu;have hxy:=Uv hx' hA';subst hxy;cases p with
     | a B =>
      simp only [sH] at hd;split at hd
      ·rename_i x1 us1 hpo;cases hd;obtain ⟨_,_,r',B',vs',b,off,ls,e1,e2,e3,e4,e5,e6,e7,e8⟩:=G5 hR (cE.refl _ _) hp hpo;cases e1;obtain ⟨b',off',e9,hO⟩:=hat;rw [e8] at e9;cases e9;rcases hO.2 with ⟨_,h1,_,_⟩ | ⟨b2,off2,cap,cur,ty,fz,bss,h1,h2,h3,h4,h5,h6,h7,h8,h9⟩
       ·cases h1
       ·simp only [j0,fF,sM] at h1;obtain ⟨⟨q1,q2,_⟩,_,q3⟩:=h1;subst q1 q2 q3;obtain ⟨bi,rfl⟩:∃ bi,bss=[bi]:=by
         match bss,h7 with
         | [bi],_=>exact ⟨bi,rfl⟩
        obtain ⟨cs,g1,g2,g3⟩:=h9 0 x' bi rfl rfl;have hcells:kK w' b off cs:=λj c hj=>by
         simp only [fQ, h5];have:=g2 j c hj;simpa using this
        have hE1:fW w0 G w' ⟨t,[],false,some (aE4 t),none⟩ (V r) [b]:=by
         refine ⟨by simp [maxLen],.inr ⟨b,off,1,cur,ty,fz,[],e7,bW _,h3,h4,h5,h6,rfl,rfl,λi y bi hy=>by simp at hy⟩⟩
        refine ⟨[[b]],[bi],⟨[b],[],rfl,hE1,λl hl => ?_,(λq h=>by cases h),II⟩,⟨bi,[],b,off,cs,rfl,e7,hcells,g3,rfl⟩,by rw [h8];simp,?_,?_,?_,?_,?_⟩
        ·cases hl;exact ⟨PJ _,b,off,cs,e7,g1,by simp [aE4],hcells,T1 w' g3.one g1⟩
        ·intro z hz A2 hA2 A3 hA3;rcases aR.1 hz with rfl | hz
         ·cases hA2;rw [e3] at hA3;cases hA3;exact ⟨e4.symm,by rw [e5];rfl,λl hl=>⟨_,rfl⟩⟩
         ·exact PK z hz A2 hA2 A3 hA3
        ·simp only [bP,Ew]
        ·intro s hs;simp at hs;subst hs;exact aQ ..
        ·simp
        ·intro z hz;rw [bI] at hz;subst hz;exact ⟨aE4 t,aQ ..⟩
      ·cases hd
     | tup _=>cases hd
     | fn _ _=>cases hd
    ·cases hpl
   ·cases h
  | sv t =>
   simp only [Ev] at h;split at h
   ·rename_i cs1 as hpl;cases h;unfold aH6 at hpl;split at hpl
    ·rename_i t' ls x' hx';obtain ⟨y,hA',hat⟩:=hu;have hxy:=Uv hx' hA';subst hxy;simp only [sH] at hd;split at hd
     ·rename_i x1 us1 hsv;cases hd;have hsv:(match decide (t'=t) with
       | true=>qC L t ls
       | false=>none)=some (x,us):=hsv
      ·split at hsv
       ·rename_i ht;obtain ⟨cs,hvv,hl,hr⟩:=hp;obtain ⟨cs',hv',ho⟩:=hat;have hcs:cs'=cs:=by
         rw [hvv] at hv';simp only [Value.agg.injEq] at hv';have:=congrArg Array.toList hv';simpa using this.symm
        subst hcs;obtain ⟨bss,k1,k2,k3,k4⟩:=Ex (w':=w') hR hpl hsv hc hr ho;exact ⟨bss,[],k1,rfl,by rw [k2];simp,k3,k4,(λr hr=>by cases hr),fS,λz hz=>by cases hz⟩
       ·cases hsv
     ·cases hd
    ·cases hpl
   ·cases h
theorem OC {α:Type} {l m:List α} (h1:l.Nodup) (h2:m.Nodup) (h3:∀ x∈l,x ∉ m):(l++m).Nodup:=by
 rw [iO];exact ⟨h1,h2,λa ha b hb e=>h3 a ha (e ▸ hb)⟩
theorem aH7 {o:AT} {p:PV} {x:o.den} {us vs:List Nat} (h:sH L o p=some (x,us,vs)):(Hb o=false->us=[])/\(Hb o=true->vs=[]):=by
 cases o with
 | v t=>cases p with
  | a A=>simp only [sH] at h;split at h <;> cases h;exact ⟨λ_=>rfl,(λh=>by cases h)⟩
  | tup _=>cases h
  | fn _ _=>cases h
 | p t=>cases p with
  | a A=>simp only [sH] at h;split at h <;> cases h;exact ⟨λ_=>rfl,(λh=>by cases h)⟩
  | tup _=>cases h
  | fn _ _=>cases h
 | fns fs=>cases p with
  | a A =>
   simp only [sH] at h;split at h
   ·split at h <;> cases h
    exact ⟨λ_=>rfl,(λh=>by cases h)⟩
   ·cases h
  | tup _=>cases h
  | fn _ _=>cases h
 | fn f c=>cases p with
  | a A=>cases h
  | tup _=>cases h
  | fn _ _=>simp only [sH] at h;split at h <;> cases h;exact ⟨λ_=>rfl,(λh=>by cases h)⟩
 | own t=>cases p with
  | a A =>
   refine ⟨(λh=>by cases h),λ_ => ?_⟩;cases A with
   | osl r rg=>cases rg with
    | none =>
     simp only [sH] at h;split at h
     ·split at h
      ·cases h
      ·split at h <;> cases h;rfl
     ·cases h
    | some _=>cases h
   | _=>cases h
  | tup _=>cases h
  | fn _ _=>cases h
 | pb t=>cases p with
  | a A=>refine ⟨(λh=>by cases h),λ_ => ?_⟩;simp only [sH] at h;split at h <;> cases h;rfl
  | tup _=>cases h
  | fn _ _=>cases h
 | po t=>cases p with
  | a A=>refine ⟨(λh=>by cases h),λ_ => ?_⟩;simp only [sH] at h;split at h <;> cases h;rfl
  | tup _=>cases h
  | fn _ _=>cases h
 | sv t=>cases p with
  | a A=>refine ⟨(λh=>by cases h),λ_ => ?_⟩;simp only [sH] at h;split at h <;> cases h;rfl
  | tup _=>cases h
  | fn _ _=>cases h
theorem Lq {w':World} {Gq:Nat->Prop} {q:Bool} (hR:bT n K w0 G w a E L V own) (hGq:∀ b,Gq b->G b) (hGs:q=true->∀ b,Gq b->K.G0 b) (href:∀ b,G b->w'.heap[b]? = w0.heap[b]?):∀ {sig:List AT} {ps:List PV} {vs:List Value} {x:fX sig} {os:List (List Nat)} {us:List Nat} {ups:List (Option BD)} {ubs:List (List Nat)} {cd:List Prop} {acts:Bk} {ex:List (Nat×aY)},
  zY w0 G L V ps vs->sR L sig ps=some (x,os,us)->BS L q sig ps os ups=some (cd,acts,ex)->eZ cd->OA w' Gq (Cy sig) ups (iL sig vs) ubs->os.flatten.Nodup ->
  ∃ bss exs,vX K w0 G w' V acts bss/\PI w' V ex exs/\(bss.flatten++exs.flatten).Perm ubs.flatten/\Lo L acts/\acts.map hI=os.flatten/\(∀ r∈ex.map hI,r∈os.flatten)/\(ex.map hI).Nodup/\(∀ z∈ex,∃ ls,(z.1,some ⟨z.2.t,[],false,some ls,none⟩)∈acts)
 | [],ps,vs,x,os,us,ups,ubs,cd,acts,ex,hp,hd,h,hc,hu,hn=>by
  cases ps with
  | cons p s=>cases hd
  | nil =>
   cases hd;cases ups with
   | cons u r=>cases h
   | nil =>
    cases h;have hub:ubs=[]:=hu.2;subst hub;exact ⟨[],[],rfl,rfl,.refl _,(λz hz=>by cases hz),rfl,(λr hr=>by cases hr),fS,λz hz=>by cases hz⟩
 | o :: sig,[],vs,x,os,us,ups,ubs,cd,acts,ex,hp,hd,h,hc,hu,hn=>by cases hd
 | o :: sig,p :: ps,vs,x,os,us,ups,ubs,cd,acts,ex,⟨v,vs',hvs,hp,hps⟩,hd,h,hc,hu,hn=>by
  subst hvs;simp only [sR] at hd;split at hd
  ·rename_i z o1 u1 zs os' us' hd1 hd2;cases hd;obtain ⟨n1,n2⟩:=aH7 hd1;simp only [BS] at h;rw [bK,iO] at hn;split at h
   ·rename_i how;have ho1:=n1 how;subst ho1;have hu':OA w' Gq (Cy sig) ups (iL sig vs') ubs:=by cases o <;> first | exact hu | cases how
    have:=Lq (os:=os') hR hGq hGs href hps hd2 h hc hu' hn.2.1;simpa using this
   ·rename_i how;have ho1:=n2 how;subst ho1;split at h
    ·rename_i u ups';split at h
     ·rename_i c1 a1 e1 c2 a2 e2 hp1 hp2;cases h;obtain ⟨hc1,hc2⟩:=eZ.append.1 hc;have hu':OA w' Gq (o :: Cy sig) (u :: ups') (v :: iL sig vs') ubs:=by cases o <;> first | exact hu | cases how
      have hcomb:∀ {b:List Nat} {bs':List (List Nat)},ubs=b :: bs'->OA w' Gq (Cy sig) ups' (iL sig vs') bs'->aXo w' Gq o v b u ->
        ∃ bss exs,vX K w0 G w' V (a1++a2) bss/\PI w' V (e1++e2) exs/\(bss.flatten++exs.flatten).Perm ubs.flatten/\Lo L (a1++a2)/\(a1++a2).map hI=(o1 :: os').flatten/\(∀ r∈(e1++e2).map hI,r∈(o1 :: os').flatten)/\((e1++e2).map hI).Nodup/\(∀ z∈e1++e2,∃ ls,(z.1,some ⟨z.2.t,[],false,some ls,none⟩)∈a1++a2):=by
       intro b bs' hub hu1 hu2;subst hub;obtain ⟨s1,x1,k1,k2,k3,k4,k5,k6,k7,k8⟩:=Uw (w':=w') hR hGq hGs href how hp hd1 hp1 hc1 hu2;obtain ⟨s2,x2,m1,m2,m3,m4,m5,m6,m7,m8⟩:=Lq hR hGq hGs href hps hd2 hp2 hc2 hu1 hn.2.1;refine ⟨s1++s2,x1++x2,k1.append m1,k2.append m2,?_,λz hz => ?_,by rw [gQ,k5,m5,bK],λr hr => ?_,?_,λz hz => ?_⟩
       ·rw [fK,fK,bK];have e3:(s1.flatten++s2.flatten++(x1.flatten++x2.flatten)).Perm ((s1.flatten++x1.flatten)++(s2.flatten++x2.flatten)):=by
         rw [bS,bS];refine List.Perm.append_left _ ?_;rw [<- bS, <- bS];exact List.Perm.append_right _ List.perm_append_comm
        exact e3.trans (k3.append m3)
       ·rcases bU.1 hz with hz | hz
        ·exact k4 z hz
        ·exact m4 z hz
       ·rw [gQ] at hr;rw [bK];rcases bU.1 hr with hr | hr
        ·exact bQ _ (k6 r hr)
        ·exact bF _ (m6 r hr)
       ·rw [gQ];exact OC k7 m7 λr hr hm=>hn.2.2 r (k6 r hr) r (m6 r hm) rfl
       ·rcases bU.1 hz with hz | hz
        ·obtain ⟨ls,h⟩:=k8 z hz;exact ⟨ls,bQ _ h⟩
        ·obtain ⟨ls,h⟩:=m8 z hz;exact ⟨ls,bF _ h⟩
      cases u with
      | none =>
       obtain ⟨v',s',bs',h1,h2,h3⟩:=hu';cases h1;exact hcomb h2 h3 rfl
      | some A =>
       obtain ⟨v',s',b,bs',h1,h2,h3,h4⟩:=hu';cases h1;exact hcomb h2 h4 h3
     ·cases h
    ·cases h
  ·cases hd
theorem Ux {r:Nat} {A':hY}:∀ {acts:Bk} {E:eD} {L:bG},(acts.map hI).Nodup->(r,some A')∈acts->(∀ p∈acts,∃ A,b7 L p.1=some A)->(∀ ls,A'.ls=some ls->iF ls=[])->b7 (uT acts (E,L)).2 r=some A'
 | [],_,_,_,h,_,_=>by cases h
 | (s,o) :: acts,E,L,hn,h,hl,hj=>by
  obtain ⟨hs,hn'⟩:=j7.1 hn;have kill:∀ k,mV k A'=A':=by
   intro k;unfold mV;split
   ·rename_i ls hls;have h0:=hj ls hls;have:ls.map (vV k)=ls:=by
     clear hls
     induction ls with
     | nil=>rfl
     | cons l r ih =>
      simp only [iF,List.append_eq_nil_iff] at h0;rw [bP,ih h0.2]
      congr 1
      cases l with
      | osl a b=>simp [IE] at h0
      | _=>rfl
    rw [this];obtain ⟨_,_,_,_,_⟩:=A';simp only at hls;subst hls;rfl
   ·rfl
  have keep:∀ {acts:Bk} {E:eD} {L:bG},r ∉ acts.map hI->b7 L r=some A'->b7 (uT acts (E,L)).2 r=some A':=by
   intro acts
   induction acts with
   | nil=>intro E L _ h;exact h
   | cons p acts ih =>
    intro E L hm h;obtain ⟨s,o⟩:=p;simp only [bP,aR,not_or] at hm;cases o with
    | none =>
     refine ih hm.2 ?_;show b7 (pF s (iE L s none)) r=some A';rw [lV,dO (λe=>hm.1 e.symm),h];simp [kill]
    | some B =>
     refine ih hm.2 ?_;show b7 (iE L s (some B)) r=some A';rw [dO (λe=>hm.1 e.symm)];exact h
  have step:∀ L',(∀ p∈acts,b7 L' p.1=b7 L p.1\/∃ A,b7 L' p.1=some A)->∀ p∈acts,∃ A,b7 L' p.1=some A:=λL' hh p hp=>by
   rcases hh p hp with h | h
   ·rw [h];exact hl p (aM _ hp)
   ·exact h
  rcases aR.1 h with h1 | h1
  ·cases h1;obtain ⟨A,hA⟩:=hl _ (aQ ..);show b7 (uT acts (E,iE L r (some A'))).2 r=some A';exact keep hs (iQ hA)
  ·cases o with
   | none =>
    show b7 (uT acts (CV s E,pF s (iE L s none))).2 r=some A';refine Ux (acts:=acts) hn' h1 (step _ λp hp => .inr ?_) hj;have hps:p.1≠s:=λe=>hs (eE.2 ⟨_,hp,e⟩);obtain ⟨A,hA⟩:=hl p (aM _ hp);exact ⟨mV s A,by
     show b7 (pF s (iE L s none)) p.1=_;rw [lV,dO (jL hps),hA];rfl⟩
   | some B =>
    show b7 (uT acts (E,iE L s (some B))).2 r=some A';refine Ux (acts:=acts) hn' h1 (step _ λp hp => .inl ?_) hj;have hps:p.1≠s:=λe=>hs (eE.2 ⟨_,hp,e⟩);exact dO (jL hps)
theorem DF (hR:bT n K w0 G w a E L V own) {A:dD} {v:Value} (h:kZ w0 G L V A v):∀ r∈EU L A,∃ B,b7 L r=some B:=by
 unfold EU;split
 ·rename_i r o t;obtain ⟨B,ls,b,off,hB,hls,_⟩:=h;simp only [hB,hls];intro s hs;rcases aR.1 hs with rfl | hs
  ·exact ⟨B,hB⟩
  ·exact (hR.boxs r B ls hB hls).live s hs
 ·exact G6 h
theorem DG (hR:bT n K w0 G w a E L V own):∀ {caps:List (Bool×Ty)} {ats:List dD} {x:uO caps} {us:List Nat} {vs:List Value},yY L caps ats=some (x,us)->rQ w0 G L V ats vs->∀ r∈us,∃ A,b7 L r=some A
 | [],[],x,us,vs,h,_,r,hr=>by cases h;cases hr
 | (true,t) :: c,A :: s,x,us,vs,h,⟨v,q,_,h1,h2⟩,r,hr=>by
  simp only [yY] at h;split at h
  ·rename_i y z us' hy hz;cases h;rcases bU.1 hr with hr | hr
   ·exact DF hR h1 r hr
   ·exact DG hR hz h2 r hr
  ·cases h
 | (false,t) :: c,A :: s,x,us,vs,h,⟨v,q,_,h1,h2⟩,r,hr=>by
  simp only [yY] at h;split at h
  ·rename_i y z us' hy hz;cases h;exact DG hR hz h2 r hr
  ·cases h
 | [],_ :: _,_,_,_,h,_,_,_=>by cases h
 | (true,_) :: _,[],_,_,_,h,_,_,_=>by cases h
 | (false,_) :: _,[],_,_,_,h,_,_,_=>by cases h
theorem aFW (hR:bT n K w0 G w a E L V own) {o:AT} {p:PV} {x:o.den} {us vs:List Nat} {v:Value} (hp:kH w0 G L V p v) (h:sH L o p=some (x,us,vs)):(∀ r∈vs,∃ A,b7 L r=some A)/\∀ r∈us,∃ A,b7 L r=some A:=by
 cases o with
 | v t=>cases p with
  | a A=>simp only [sH] at h;split at h <;> cases h;exact ⟨DF hR hp,λr hr=>by cases hr⟩
  | tup _=>cases h
  | fn _ _=>cases h
 | p t=>cases p with
  | a A=>simp only [sH] at h;split at h <;> cases h;exact ⟨DF hR hp,λr hr=>by cases hr⟩
  | tup _=>cases h
  | fn _ _=>cases h
 | fns fs=>cases p with
  | a A =>
   simp only [sH] at h;split at h
   ·split at h <;> cases h
    exact ⟨DF hR hp,λr hr=>by cases hr⟩
   ·cases h
  | tup _=>cases h
  | fn _ _=>cases h
 | fn f c=>cases p with
  | a A=>cases h
  | tup _=>cases h
  | fn _ _ =>
   simp only [sH] at h;split at h
   ·rename_i q' us'' hfg hq;cases h;obtain ⟨vs,hv,hr⟩:=hp;exact ⟨DG hR hq hr,λr hr=>by cases hr⟩
   ·cases h
 | own t=>cases p with
  | a A =>
   cases A with
   | osl r rg=>cases rg with
    | none =>
     simp only [sH] at h;split at h
     ·rename_i B hB;split at h
      ·cases h
      ·split at h
       ·cases h;exact ⟨(λr hr=>by cases hr),λs hs=>by rw [bI.1 hs];exact ⟨B,hB⟩⟩
       ·cases h
     ·cases h
    | some _=>cases h
   | _=>cases h
  | tup _=>cases h
  | fn _ _=>cases h
 | pb t=>cases p with
  | a A =>
   simp only [sH] at h;split at h
   ·rename_i x1 us1 hpb;cases h;obtain ⟨_,r,B,b,off,e1,_,e3,_⟩:=G4 (q:=false) hR (cE.refl _ _) hp hpb (λh=>by cases h);exact ⟨(λr hr=>by cases hr),λs hs=>by rw [e1] at hs;rw [bI.1 hs];exact ⟨B,e3⟩⟩
   ·cases h
  | tup _=>cases h
  | fn _ _=>cases h
 | po t=>cases p with
  | a A =>
   simp only [sH] at h;split at h
   ·rename_i x1 us1 hpo;cases h;exact ⟨(λr hr=>by cases hr),(G5 hR (cE.refl _ _) hp hpo).2.1⟩
   ·cases h
  | tup _=>cases h
  | fn _ _=>cases h
 | sv t=>cases p with
  | a A =>
   simp only [sH] at h;split at h
   ·rename_i x1 us1 hsv;cases h;exact ⟨(λr hr=>by cases hr),(Lk hR (cE.refl _ _) hp hsv).2⟩
   ·cases h
  | tup _=>cases h
  | fn _ _=>cases h
theorem rD (hR:bT n K w0 G w a E L V own):∀ {sig:List AT} {ps:List PV} {vs:List Value} {x:fX sig} {os:List (List Nat)} {us:List Nat},zY w0 G L V ps vs->sR L sig ps=some (x,os,us) ->
  (∀ r∈us,∃ A,b7 L r=some A)/\(∀ r∈os.flatten,∃ A,b7 L r=some A)
 | [],[],vs,x,os,us,hp,h=>by cases h;cases hp;exact ⟨(λr hr=>by cases hr),(λr hr=>by cases hr)⟩
 | t :: q,y :: s,vs,x,os,us,⟨v,vs',hvs,hpy,hps⟩,h=>by
  subst hvs;simp only [sR] at h;split at h
  ·rename_i z o u zs os' us' h1 h2;cases h;obtain ⟨i1,i2⟩:=rD hR hps h2;obtain ⟨k1,k2⟩:=aFW hR hpy h1;refine ⟨λr hr => ?_,λr hr => ?_⟩
   ·rcases bU.1 hr with hr | hr
    ·exact k1 r hr
    ·exact i1 r hr
   ·rw [bK] at hr;rcases bU.1 hr with hr | hr
    ·exact k2 r hr
    ·exact i2 r hr
  ·cases h
 | [],_ :: _,_,_,_,_,_,h=>by cases h
 | _ :: _,[],_,_,_,_,_,h=>by cases h
theorem nJ (own:Nat->List Nat):∀ os:List (List Nat),(sI own os).flatten=(os.flatten.map own).flatten
 | []=>rfl
 | o :: os=>by
  have:=nJ own os;simp only [sI,bP,bK,gQ,fK] at this ⊢;rw [this]
theorem Gd (hR:bT n K w0 G w a E L V own):∀ {rs:List Nat},rs.Nodup->(∀ r∈rs,∃ A,b7 L r=some A)->(rs.map own).flatten.Nodup
 | [],_,_=>fS
 | r :: rs,hn,hl=>by
  obtain ⟨h1,h2⟩:=j7.1 hn;obtain ⟨A,hA⟩:=hl r (aQ ..);simp only [bP,bK];rw [iO];refine ⟨hR.nodup r A hA,Gd hR h2 (λs hs=>hl s (aM _ hs)),λb hb c hc e => ?_⟩;subst e;obtain ⟨l,hl',hbl⟩:=iH.1 hc;obtain ⟨s,hs,rfl⟩:=eE.1 hl';obtain ⟨B,hB⟩:=hl s (aM _ hs);exact hR.apart r s A B hA hB (λe=>h1 (e ▸ hs)) b hb hbl
theorem Lr {G:Nat->Prop}:∀ {ats:List dD} {rs:List Value},rQ w0 G L V ats rs->kH w0 G L V (TY ats) (ER rs)
 | [],rs,h=>by subst h;exact ⟨[],rfl,rfl⟩
 | [A],rs,⟨v,s,h,h1,h2⟩=>by subst h;cases h2;exact h1
 | A :: B :: ats,rs,h=>by
  obtain ⟨v,s,hs,h1,h2⟩:=h;obtain ⟨v',s',hs',h1',h2'⟩:=h2;subst hs hs';exact ⟨_,rfl,_,_,rfl,h1,_,_,rfl,h1',h2'⟩
theorem Ls (hR:bT n K w0 G w a E L V own) {S:Spec} {ps:List PV} {vs:List Value} {x:fX S.sig} {os:List (List Nat)} {us:List Nat} {cd:List Prop} {acts:Bk} {ex:List (Nat×aY)} {e:Ending} {w':World}
  (hps:zY w0 G L V ps vs) (hd:sR L S.sig ps=some (x,os,us)) (hnd:os.flatten.Nodup) (hko:SV S.kds=true\/us=[]) (hpl:BS L (nZ L S.sig ps) S.sig ps os (S.upd x)=some (cd,acts,ex)) (hc:eZ cd)
  (hpost:aHr w (sI own os).flatten (Er G own us) (Ut K G (nZ L S.sig ps)) S.kds (S.res x) (Cy S.sig) (S.upd x) (iL S.sig vs) e w') :
  ∃ v w0' G' V' own',e = .returned v/\cE (sI own os).flatten w w'/\bT n K w0' G' w' a (uT acts (E,L)).1 (SW ex (uT acts (E,L)).2++(IH (SW ex (uT acts (E,L)).2).length S.kds (S.res x)).2) V' own' /\
   kH w0' G' (SW ex (uT acts (E,L)).2++(IH (SW ex (uT acts (E,L)).2).length S.kds (S.res x)).2) V' (TY (IH (SW ex (uT acts (E,L)).2).length S.kds (S.res x)).1) v:=by
 obtain ⟨rs,ubs,rbs,F,rfl,hk,hrr,hur,hnn,hgg,hF⟩:=hpost;obtain ⟨l1,l2⟩:=rD hR hps hd;have hH:∀ b∈(sI own os).flatten,∃ r∈os.flatten,b∈own r:=λb hb=>by
  rw [nJ] at hb;obtain ⟨l,hl,hbl⟩:=iH.1 hb;obtain ⟨r,hr,rfl⟩:=eE.1 hl;exact ⟨r,hr,hbl⟩
 have hg:∀ b∈(sI own os).flatten,Out K G b:=λb hb=>by
  obtain ⟨r,hr,hbr⟩:=hH b hb;obtain ⟨A,hA⟩:=l2 r hr;exact hR.good r A hA b hbr
 have hout:∀ b,¬ Good w (sI own os).flatten b->Out K G b:=λb h1=>by
  by_cases hm:b∈(sI own os).flatten
  ·exact hg b hm
  ·exact hR.out_new (Nat.le_of_not_lt λhlt=>h1 ⟨hlt,hm⟩)
 have hfar:∀ r A,b7 L r=some A->r ∉ os.flatten->∀ b∈own r,b<w.heap.size/\b ∉ (sI own os).flatten:=λr A hA hr b hb=>by
  refine ⟨hR.own_lt hA b hb,λhm => ?_⟩;obtain ⟨s,hs,hbs⟩:=hH b hm;obtain ⟨B,hB⟩:=l2 s hs;exact hR.apart r s A B hA hB (λe=>hr (e ▸ hs)) b hb hbs
 have hGk:∀ b,G b->w'.heap[b]? = w0.heap[b]? := λb hb=>(hk.block b (hR.glt b hb) (λhm=>(hg b hm).2 hb)).trans (hR.gref b hb);have hGq:∀ b,Ut K G (nZ L S.sig ps) b->G b:=λb hb=>by
  unfold Ut at hb;split at hb
  ·exact hR.gsub b hb
  ·exact hb
 have hGs:nZ L S.sig ps=true->∀ b,Ut K G (nZ L S.sig ps) b->K.G0 b:=λhq b hb=>by
  unfold Ut at hb
  rwa [if_pos hq] at hb
 obtain ⟨bss,exs,k1,k2,k3,k4,k5,k6,k7,k8⟩:=Lq (w':=w') hR hGq hGs hGk hps hd hpl hc hur hnd;have hall:((bss.flatten++exs.flatten)++rbs.flatten).Perm (ubs.flatten++rbs.flatten):=List.Perm.append_right _ k3;have hnn2:=hall.nodup_iff.2 hnn;have hn12:=iO.1 hnn2;have hn1:=iO.1 hn12.1;have hmem:∀ b,b∈bss.flatten\/b∈exs.flatten\/b∈rbs.flatten->b∈ubs.flatten++rbs.flatten:=λb hb=>by
  refine hall.mem_iff.1 ?_;rcases hb with hb | hb | hb
  ·exact bQ _ (bQ _ hb)
  ·exact bQ _ (bF _ hb)
  ·exact bF _ hb
 have hp:J9 n K w0 G w' a E L V own (acts.map hI) (λc=>c∈bss.flatten\/(c∈exs.flatten\/(c∈rbs.flatten\/F c))):=by
  rw [k5];refine ⟨hR.glob,?_,hR.size,hR.defers,λb hb=>cK (hR.glt b hb) hk.size,hGk,hR.gsub,hR.gold,hR.gup,λr A hA hr => ?_,λr A hA _=>hR.good r A hA,λr A hA _=>hR.nodup r A hA,λr s A B h1 h2 _ _=>hR.apart r s A B h1 h2,λr A ls hA hr hls => ?_,λr A q hA hr hq => ?_,hR.env,l2,λr A hA hr b hb hm => ?_⟩
  ·refine ⟨hk.os.trans hR.kept.os,hk.tape.trans hR.kept.tape,hk.output.trans hR.kept.output,cO hR.kept.size hk.size,λb hb ho => ?_⟩;rw [hk.block b (cK hb hR.kept.size) (λhm=>(hg b hm).1 ⟨hb,ho⟩)];exact hR.kept.block b hb ho
  ·exact (hR.heap r A hA).keep λb hb=>hk.block b (hfar r A hA hr b hb).1 (hfar r A hA hr b hb).2
  ·exact (hR.boxs r A ls hA hls).keepB λb off hv=>hk.block b (hfar r A hA hr b ((hR.heap r A hA).block hv (aT _))).1 (hfar r A hA hr b ((hR.heap r A hA).block hv (aT _))).2
  ·obtain ⟨g1,g2⟩:=hR.small r A q hA hq;exact ⟨g1,λe=>⟨(g2 e).1,(g2 e).2.keep λb hb=>hk.block b (hfar r A hA hr b hb).1 (hfar r A hA hr b hb).2⟩⟩
  ·rcases hm with hm | hm | hm | hm
   ·exact hgg b (hmem b (.inl hm)) (hfar r A hA hr b hb)
   ·exact hgg b (hmem b (.inr (.inl hm))) (hfar r A hA hr b hb)
   ·exact hgg b (hmem b (.inr (.inr hm))) (hfar r A hA hr b hb)
   ·exact (hF b hm).2.1 (hfar r A hA hr b hb)
 obtain ⟨own1,r1,d1⟩:=Lp hp (by rw [k5];exact hnd) k1 k4 hn1.1 (λc hc hm=>by
  rcases hm with hm | hm | hm
  ·exact hn1.2.2 c hc c hm rfl
  ·exact hn12.2.2 c (bQ _ hc) c hm rfl
  ·exact (hF c hm).2.2 (hmem c (.inl hc))) (λb hb=>hout b (hgg b (hmem b (.inl hb))))
 have hin:aXn (uT acts (E,L)).2 ex:=λp hp'=>by
  obtain ⟨ls,hls⟩:=k8 p hp';refine ⟨ls,Ux (by rw [k5];exact hnd) hls (λz hz=>l2 z.1 (by rw [<- k5];exact eE.2 ⟨_,hz,rfl⟩)) λl hl => ?_⟩;cases hl;have key:∀ {acts:Bk} {bss:List (List Nat)},vX K w0 G w' V acts bss->∀ r A' l,(r,some A')∈acts->A'.ls=some l->iF l=[]:=by
   intro acts
   induction acts with
   | nil=>intro bss _ r A' l hm;cases hm
   | cons z s ih =>
    intro bss h r A' l hm hl;obtain ⟨r0,o⟩:=z;cases o with
    | none =>
     rcases aR.1 hm with hm | hm
     ·cases hm
     ·exact ih (bss:=bss) h r A' l hm hl
    | some B =>
     obtain ⟨b,t,_,_,h3,_,h5⟩:=h;rcases aR.1 hm with hm | hm
     ·cases hm;exact (h3 l hl).1
     ·exact ih h5 r A' l hm hl
  exact key k1 _ _ _ hls rfl
 obtain ⟨V2,own2,r2,d2⟩:=Xg (rest:=λc=>c∈rbs.flatten\/F c) r1 k2 hin k7 hn1.2.1 (λc hc hm=>by
  rcases hm with hm | hm
  ·exact hn12.2.2 c (bF _ hc) c hm rfl
  ·exact (hF c hm).2.2 (hmem c (.inr (.inl hc)))) (λb hb=>hout b (hgg b (hmem b (.inr (.inl hb))))) (λr A hA b hb=>⟨λhm=>d1 r A hA b hb (.inl hm),λhm=>d1 r A hA b hb (.inr hm)⟩)
 have hrout:∀ b∈rbs.flatten,Out K G b:=λb hb=>hout b (hgg b (hmem b (.inr (.inr hb))));rcases hko with hko | hus
 ·obtain ⟨V3,own3,r3,_,a3⟩:=PH r2 (.inl hko) hrr hn12.2.1 hrout (λr A hA b hb hm=>d2 r A hA b hb (.inl hm));exact ⟨_,w0,G,V3,own3,rfl,hk,r3,Lr a3⟩
 ·have r2':=r2.widen (F:=F) (λb hb=>(hF b hb).1) (λb hb=>(hout b (hF b hb).2.1).1) (λb hb r A hA hm=>d2 r A hA b hm (.inr hb));have hrout':∀ b∈rbs.flatten,Out K (λc=>G c\/F c) b:=λb hb=>by
   obtain ⟨h1,h2⟩:=hrout b hb;exact ⟨h1,λh=>h.elim h2 λhf=>(hF b hf).2.2 (hmem b (.inr (.inr hb)))⟩
  obtain ⟨V3,own3,r3,_,a3⟩:=PH r2' (.inr ⟨λc hc=>by
   rcases hc with hc | hc
   ·rcases hc with hc | ⟨r,hr,_⟩
    ·exact .inl hc
    ·rw [hus] at hr;cases hr
   ·exact .inr hc,rfl⟩) hrr hn12.2.1 hrout' (λr A hA b hb hm=>d2 r A hA b hb (.inl hm))
  exact ⟨_,w',_,V3,own3,rfl,hk,r3,Lr a3⟩
theorem DH:∀ {ext:sE} (hX:nQ P ext) (hR:bT n K w0 G w a E L V own) {f:FuncId} {ps:List PV} {vs:List Value} {cs:List Prop} {pv:PV} {E':eD} {L':bG}
  (hps:zY w0 G L V ps vs) (h:TZ ext E L f ps=some (cs,pv,E',L')) (hc:eZ cs),
  uS P f/\Calls P f vs.toArray w λe w'=>∃ v w0' G' V' own',e = .returned v/\bT n K w0' G' w' a E' L' V' own'/\kH w0' G' L' V' pv v
 | [],_,_,_,_,_,_,_,_,_,_,h,_=>by cases h
 | (g,S) :: r,hX,hR,f,ps,vs,cs,pv,E',L',hps,h,hc=>by
  obtain ⟨⟨hcall,hcon⟩,hX'⟩:=hX;simp only [TZ] at h;split at h
  ·rename_i hfg;obtain rfl:=aX hfg;split at h
   ·rename_i x os us hd;split at h
    ·rename_i cd acts ex hdis hpl;cases h;obtain ⟨hpre,hc⟩:=hc;simp only [aJ,j8,lQ] at hdis;obtain ⟨⟨hdj,hnb⟩,hko⟩:=hdis;have hnd:=BQ hnb;obtain ⟨l1,l2⟩:=rD hR hps hd;have hH:∀ b∈(sI own os).flatten,∃ r∈os.flatten,b∈own r:=λb hb=>by
      rw [nJ] at hb;obtain ⟨l,hl,hbl⟩:=iH.1 hb;obtain ⟨r,hr,rfl⟩:=eE.1 hl;exact ⟨r,hr,hbl⟩
     have hg:∀ b∈(sI own os).flatten,Out K G b:=λb hb=>by
      obtain ⟨r,hr,hbr⟩:=hH b hb;obtain ⟨A,hA⟩:=l2 r hr;exact hR.good r A hA b hbr
     have hGood:∀ b,Er G own us b->Good w (sI own os).flatten b:=by
      rintro b (hb | ⟨r,hr,hb⟩)
      ·exact ⟨hR.glt b hb,λhm=>(hg b hm).2 hb⟩
      ·obtain ⟨A,hA⟩:=l1 r hr;refine ⟨hR.own_lt hA b hb,λhm => ?_⟩;obtain ⟨s,hs,hbs⟩:=hH b hm;obtain ⟨B,hB⟩:=l2 s hs;have hrs:r≠s:=λe=>IF hdj s hs (e ▸ hr);exact hR.apart r s A B hA hB hrs b hb hbs
     have hargs:=xO (q:=nZ L S.sig ps) hR (cE.refl [] w) (G':=Er G own us) (λb hb => .inl hb) hps hd (λh=>h) (λr hr b hb => .inr ⟨r,hr,hb⟩);have hnd':(sI own os).flatten.Nodup:=by rw [nJ];exact Gd hR hnd l2
     refine ⟨hcall,(hcon w (Er G own us) (Ut K G (nZ L S.sig ps)) x _ _ (hR.gok (cE.refl _ _) hg) hGood (λb hb => .inl ?_) hpre hargs hnd').mono ?_⟩
     ·unfold Ut at hb;split at hb
      ·exact hR.gsub b hb
      ·exact hb
     ·intro e w' hpost;obtain ⟨v,w0',G',V',own',h1,_,h2,h3⟩:=Ls hR hps hd hnd hko hpl hc hpost;exact ⟨v,w0',G',V',own',h1,h2,h3⟩
    ·exact DH hX' hR hps h hc
   ·exact DH hX' hR hps h hc
  ·exact DH hX' hR hps h hc
end
theorem aH8 {w0 w:World} {G:Nat->Prop} {t:Ty} {bor:Bool} {x:t.den} {cs:List Value} {bi:List Nat} (h:lO w0 G w t bor x cs bi):∀ c∈cs,c.oneCell'=true:=by
 revert h;unfold lO;cases bor with
 | true=>exact λh=>h.1.one
 | false=>exact λh=>h.one
theorem aFX {w0 w w':World} {G G':Nat->Prop} {t:Ty} {bor bor':Bool} {x:t.den} {cs:List Value} {bi:List Nat} (hf:t.flat=true) (h:lO w0 G w t bor x cs bi):lO w0 G' w' t bor' x cs []:=by
 have h1:dW w0 G t x cs:=by
  revert h;unfold lO;cases bor with
  | true=>exact λh=>h.1
  | false=>exact λh=>(h.flat (w':=w0) (G:=G) hf).1
 unfold lO;cases bor' with
 | true=>exact ⟨h1.flat hf,rfl⟩
 | false=>exact h1.own hf
theorem qD {P:Program}:∀ (vs:List Value) (w:World) (b o i:Nat) (cur:Array Value) (ty:TypeId) (fz:Nat×Nat),w.heap[b]? = some (.cells cur ty fz)->aHp fz cur.size->o+i+vs.length<=cur.size->(∀ v∈vs,v.oneCell'=true) ->
  ∃ w' cur',(storeCells ⟨b,o,none⟩ vs i).run P w = .ok () w'/\w'.heap[b]? = some (.cells cur' ty fz)/\cur'.toList=fJ cur.toList (o+i) vs/\cE [b] w w'/\w'.heap.size=w.heap.size
 | [],w,b,o,i,cur,ty,fz,hb,_,_,_=>⟨w,cur,rfl,hb,by simp [fJ],cE.refl _ _,rfl⟩
 | v :: vs,w,b,o,i,cur,ty,fz,hb,hf,hl,h1=>by
  simp only [bA] at hl;have hcell:w.cell? ⟨b,o+i,none⟩=some (cur[o+i]'(by omega)):=by
   simp only [fQ, hb];simp [gJ (show o+i<cur.size by omega)]
  have hfr:w.frozen? ⟨b,o+i,none⟩=false:=by
   simp only [World.frozen?, hb];have:=hf (o+i) (by omega);simp only [Bool.and_eq_false_iff,decide_eq_false_iff_not];by_cases h:fz.1<=o+i
   ·exact .inr λh'=>this ⟨h,h'⟩
   ·exact .inl h
  have hblt:b<w.heap.size:=by
   rcases eK b w.heap.size with h | h
   ·exact h
   ·rw [cZ h] at hb;cases hb
  have iE:(w.setCell ⟨b,o+i,none⟩ v).heap[b]? = some (.cells (cur.setIfInBounds (o+i) v) ty fz):=by
   have hbe:w.heap[b] = .cells cur ty fz:=by
    rw [gJ hblt] at hb;exact pK hb
   simp only [nP,Array.getElem?_modify,if_pos,hb];simp [hbe]
  obtain ⟨w',cur',h2,h3,h4,h5,h6⟩:=qD (P:=P) vs (w.setCell ⟨b,o+i,none⟩ v) b o (i+1) (cur.setIfInBounds (o+i) v) ty fz iE (by simpa using hf) (by simp;omega) (λu hu=>h1 u (aM _ hu));refine ⟨w',cur',?_,h3,?_,?_,?_⟩
  ·unfold storeCells;simp only [bO,fH,run_store P w _ v _ (h1 v (aQ ..)),hcell,hfr,dJ,if_false,aW];exact h2
  ·rw [h4];have hlt:o+i<cur.toList.length:=by rw [cT];omega
   simp only [fJ,Ao,bA];rw [show o+(i+1)=o+i+1 from by omega,gY];simp only [Dq hlt,tU,bS,oC,kU];rw [H2 (aT _),H3 (by omega),show o+i+1+vs.length=o+i+(vs.length+1) from by omega]
  ·have hk1:cE [b] w (w.setCell ⟨b,o+i,none⟩ v):=⟨rfl,rfl,rfl,by simp [nP],λk hk hkb=>Go.RowKit.Below.heap_setCell w ⟨b,o+i,none⟩ v k (by simpa using hkb)⟩;exact hk1.trans h5
  ·rw [h6];simp [nP]
def vY {α:Type} (R:α->List Value->List Nat->Prop) (sz:Nat):List α->List (List Value)->List (List Nat)->Prop
 | [],css,bss=>css=[]/\bss=[]
 | y :: ys,css,bss=>∃ c cs b bs,css=c :: cs/\bss=b :: bs/\c.length=sz/\R y c b/\vY R sz ys cs bs
theorem vY.len {α:Type} {R:α->List Value->List Nat->Prop} {sz:Nat}:∀ {ys:List α} {css:List (List Value)} {bss:List (List Nat)},vY R sz ys css bss->css.length=ys.length/\bss.length=ys.length/\css.flatten.length=ys.length*sz
 | [],_,_,⟨h1,h2⟩=>by subst h1 h2;simp
 | y :: ys,_,_,⟨c,cs,b,bs,h1,h2,h3,h4,h5⟩=>by
  subst h1 h2;obtain ⟨e1,e2,e3⟩:=h5.len;refine ⟨by simp [e1],by simp [e2],?_⟩;simp [h3,e3,dL,Kz]
theorem vY.mono {α:Type} {R R':α->List Value->List Nat->Prop} {sz:Nat}:∀ {ys:List α} {css:List (List Value)} {bss:List (List Nat)},(∀ y c b,b∈bss->R y c b->R' y c b)->vY R sz ys css bss->vY R' sz ys css bss
 | [],_,_,_,h=>h
 | y :: ys,_,_,hm,⟨c,cs,b,bs,h1,h2,h3,h4,h5⟩=>⟨c,cs,b,bs,h1,h2,h3,hm _ _ _ (by rw [h2];exact aQ ..) h4,h5.mono (λy c b hb=>hm y c b (by rw [h2];exact aM _ hb))⟩
theorem vY.nil {α:Type} {R R':α->List Value->List Nat->Prop} {sz:Nat}:∀ {ys:List α} {css:List (List Value)} {bss:List (List Nat)},(∀ y c b,R y c b->R' y c [])->vY R sz ys css bss->∃ bss',vY R' sz ys css bss'/\bss'.flatten=[]
 | [],css,_,_,h=>⟨[],⟨h.1,rfl⟩,rfl⟩
 | y :: ys,_,_,hm,⟨c,cs,b,bs,h1,h2,h3,h4,h5⟩=>by
  obtain ⟨bs',h6,h7⟩:=h5.nil hm;exact ⟨[] :: bs',⟨c,cs,[],bs',h1,rfl,h3,hm _ _ _ h4,h6⟩,by simp [h7]⟩
theorem vY.append {α:Type} {R:α->List Value->List Nat->Prop} {sz:Nat}:∀ {ys zs:List α} {cs ds:List (List Value)} {bs es:List (List Nat)},vY R sz ys cs bs->vY R sz zs ds es->vY R sz (ys++zs) (cs++ds) (bs++es)
 | [],_,_,_,_,_,⟨h1,h2⟩,h=>by subst h1 h2;exact h
 | y :: ys,_,_,_,_,_,⟨c,cs,b,bs,h1,h2,h3,h4,h5⟩,h=>by
  subst h1 h2;exact ⟨c,_,b,_,rfl,rfl,h3,h4,h5.append h⟩
theorem vY.get {α:Type} {R:α->List Value->List Nat->Prop} {sz:Nat}:∀ {ys:List α} {css:List (List Value)} {bss:List (List Nat)},vY R sz ys css bss->∀ i y bi,ys[i]? = some y->bss[i]? = some bi ->
  ∃ c,c.length=sz/\R y c bi/\∀ j v,c[j]? = some v->css.flatten[i*sz+j]? = some v
 | [],_,_,_,i,y,bi,h,_=>by simp at h
 | y :: ys,_,_,⟨c,cs,b,bs,h1,h2,h3,h4,h5⟩,0,z,bi,hy,hb=>by
  subst h1 h2;cases hy;cases hb;refine ⟨c,h3,h4,λj v hj => ?_⟩;have:j<c.length:=(bH.1 hj).1;simp only [Nat.zero_mul,cV,bK];rw [bV this];exact hj
 | y :: ys,_,_,⟨c,cs,b,bs,h1,h2,h3,h4,h5⟩,i+1,z,bi,hy,hb=>by
  subst h1 h2;obtain ⟨d,e1,e2,e3⟩:=h5.get i z bi (by simpa using hy) (by simpa using hb);refine ⟨d,e1,e2,λj v hj => ?_⟩;simp only [bK];rw [cH (by rw [h3,dL];omega),h3,show (i+1)*sz+j - sz=i*sz+j from by rw [dL];omega];exact e3 j v hj
theorem aBm {α:Type} {R:α->List Value->List Nat->Prop} {sz:Nat} {f:Nat->Option Value}:∀ (ys:List α) (bss:List (List Nat)) (off:Nat),bss.length=ys.length ->
  (∀ i y bi,ys[i]? = some y->bss[i]? = some bi->∃ cs,cs.length=sz/\(∀ j c,cs[j]? = some c->f (off+i*sz+j)=some c)/\R y cs bi) ->
  ∃ css,vY R sz ys css bss/\∀ j c,css.flatten[j]? = some c->f (off+j)=some c
 | [],bss,off,hl,_=>⟨[],⟨rfl,b5 hl⟩,λj c h=>by simp at h⟩
 | y :: ys,[],_,hl,_=>by simp at hl
 | y :: ys,b :: bs,off,hl,h=>by
  obtain ⟨c,hc1,hc2,hc3⟩:=h 0 y b rfl rfl;obtain ⟨cs,hr,hcs⟩:=aBm ys bs (off+sz) (by simpa using hl) (λi z bi hz hb=>by
   obtain ⟨d,e1,e2,e3⟩:=h (i+1) z bi (by simpa using hz) (by simpa using hb);refine ⟨d,e1,λj v hj => ?_,e3⟩;have:=e2 j v hj
   rwa [show off+(i+1)*sz+j=off+sz+i*sz+j from by rw [dL];omega] at this)
  refine ⟨c :: cs,⟨c,cs,b,bs,rfl,rfl,hc1,hc3,hr⟩,λj v hj => ?_⟩;simp only [bK] at hj;by_cases hlt:j<c.length
  ·rw [bV hlt] at hj;have:=hc2 j v hj;simpa using this
  ·rw [cH (by omega)] at hj;have:=hcs _ v hj
   rwa [hc1,show off+sz+(j - sz)=off+j from by omega] at this
theorem rE {w:World} {α:Type} {R:α->List Value->List Nat->Prop} {sz:Nat} {xs:List α} {css:List (List Value)} {bss:List (List Nat)} (h:vY R sz xs css bss) {b off cap:Nat} {cur:Array Value} {ty:TypeId} {fz:Nat×Nat}
  (hl:xs.length<=maxLen) (h1:xs.length<=cap) (h2:cap<=maxLen) (h3:off+cap*sz<=cur.size) (h4:w.heap[b]? = some (.cells cur ty fz)) (h5:EQ sz fz cur.size)
  (h6:∀ j c,css.flatten[j]? = some c->cur[off+j]? = some c):vK w R sz xs (.slice (some ⟨b,off,none⟩) xs.length cap) (b :: bss.flatten):=by
 refine ⟨hl,.inr ⟨b,off,cap,cur,ty,fz,bss,rfl,h1,h2,h3,h4,h5,h.len.2.1,rfl,λi x bi hx hb => ?_⟩⟩;obtain ⟨c,e1,e2,e3⟩:=h.get i x bi hx hb;refine ⟨c,e1,λj v hj => ?_,e2⟩;rw [dV];exact h6 _ _ (e3 j v hj)
theorem vY.one {α:Type} {R:α->List Value->List Nat->Prop} {sz:Nat} (hR:∀ y c b,R y c b->∀ v∈c,v.oneCell'=true):∀ {ys:List α} {css:List (List Value)} {bss:List (List Nat)},vY R sz ys css bss->∀ v∈css.flatten,v.oneCell'=true
 | [],_,_,⟨h1,h2⟩,v,hv=>by subst h1;cases hv
 | y :: ys,_,_,⟨c,cs,b,bs,h1,h2,h3,h4,h5⟩,v,hv=>by
  subst h1;simp only [bK,bU] at hv;rcases hv with hv | hv
  ·exact hR _ _ _ h4 v hv
  ·exact h5.one hR v hv
theorem vY.take {α:Type} {R:α->List Value->List Nat->Prop} {sz:Nat}:∀ {ys:List α} {css:List (List Value)} {bss:List (List Nat)} (k:Nat),vY R sz ys css bss->vY R sz (ys.take k) (css.take k) (bss.take k)
 | _,_,_,0,_=>⟨by simp,by simp⟩
 | [],_,_,k+1,⟨h1,h2⟩=>by subst h1 h2;exact ⟨rfl,rfl⟩
 | y :: ys,_,_,k+1,⟨c,cs,b,bs,h1,h2,h3,h4,h5⟩=>by
  subst h1 h2;exact ⟨c,_,b,_,rfl,rfl,h3,h4,h5.take k⟩
theorem vY.drop {α:Type} {R:α->List Value->List Nat->Prop} {sz:Nat}:∀ {ys:List α} {css:List (List Value)} {bss:List (List Nat)} (k:Nat),vY R sz ys css bss->vY R sz (ys.drop k) (css.drop k) (bss.drop k)
 | _,_,_,0,h=>h
 | [],_,_,k+1,⟨h1,h2⟩=>by subst h1 h2;exact ⟨rfl,rfl⟩
 | y :: ys,_,_,k+1,⟨c,cs,b,bs,h1,h2,h3,h4,h5⟩=>by
  subst h1 h2;exact h5.drop k
theorem vL {α:Type} (l:List α):∀ (n j:Nat),(b6 n l).flatten[j]? = if j<n*l.length then l[j % l.length]? else none
 | 0,j=>by simp
 | n+1,j=>by
  rw [H5,bK];by_cases h:j<l.length
  ·rw [bV h,Nat.mod_eq_of_lt h,if_pos];rw [dL];omega
  ·rw [cH (by omega),vL l n];have e:(j - l.length) % l.length=j % l.length:=by
    rw [<- Nat.mod_eq_sub_mod (by omega)]
   rw [e];have:(j - l.length<n*l.length)↔(j<(n+1)*l.length):=by rw [dL];omega
   by_cases hh:j - l.length<n*l.length
   ·rw [if_pos hh,if_pos (this.1 hh)]
   ·rw [if_neg hh,if_neg (λh'=>hh (this.2 h'))]
theorem PL (z:Array Value) (n:Nat):((aAK (n*z.size)).map (z[· % z.size]!)).toList=(b6 n z.toList).flatten:=by
 apply u6;intro j;rw [vL,cX];simp only [Array.getElem?_map,cT];by_cases h:j<n*z.size
 ·rw [if_pos h];have hz:0<z.size:=by
   rcases Nat.eq_zero_or_pos z.size with h0 | h0
   ·rw [h0,Nat.mul_zero] at h;omega
   ·exact h0
  have hm:j % z.size<z.size:=Nat.mod_lt _ hz;simp [GG,h,hm,getElem!_pos,cX]
 ·rw [if_neg h];simp [GG,h]
theorem Bl {w0 w:World} {G:Nat->Prop} (t:Ty) (bor:Bool):∀ n:Nat,vY (lO w0 G w t bor) t.size (b6 n t.dflt) (b6 n (eF t)) (b6 n [])
 | 0=>⟨rfl,rfl⟩
 | n+1=>by
  refine ⟨eF t,_,[],_,rfl,rfl,(iK w G t).length,?_,Bl t bor n⟩;unfold lO;cases bor with
  | true=>exact ⟨iK w0 G t,rfl⟩
  | false=>exact own_dcells t
where
 own_dcells {w:World}:∀ t:Ty,gB w t t.dflt (eF t) []
 | .int k=>⟨rfl,by cases k <;> simp [cC,oI,oJ,mY,kO,Ty.dflt],rfl⟩
 | .bool=>⟨rfl,rfl⟩
 | .fn=>⟨rfl,rfl⟩
 | .str=>⟨rfl,bW _,rfl⟩
 | .sl e=>⟨_,rfl,bW _,.inl ⟨_,rfl,rfl,rfl⟩⟩
 | .unit=>⟨rfl,rfl⟩
 | .cons a b=>⟨_,_,[],[],rfl,rfl,own_dcells a,own_dcells b⟩
theorem vY.set {α:Type} {R:α->List Value->List Nat->Prop} {sz:Nat} {y':α} {c':List Value} {b':List Nat} (h1:c'.length=sz) (h2:R y' c' b'):∀ {ys:List α} {css:List (List Value)} {bss:List (List Nat)} (i:Nat),vY R sz ys css bss ->
  vY R sz (ys.set i y') (css.set i c') (bss.set i b')
 | [],_,_,i,⟨e1,e2⟩=>by subst e1 e2;exact ⟨rfl,rfl⟩
 | y :: ys,_,_,0,⟨c,cs,b,bs,e1,e2,e3,e4,e5⟩=>by subst e1 e2;exact ⟨c',cs,b',bs,rfl,rfl,h1,h2,e5⟩
 | y :: ys,_,_,i+1,⟨c,cs,b,bs,e1,e2,e3,e4,e5⟩=>by subst e1 e2;exact ⟨c,_,b,_,rfl,rfl,e3,e4,e5.set h1 h2 i⟩
theorem NL {sz:Nat} {c':List Value} (h1:c'.length=sz):∀ {css:List (List Value)} {i:Nat},(∀ c∈css,c.length=sz)->i<css.length->fJ css.flatten (i*sz) c'=(css.set i c').flatten
 | [],i,_,h=>by simp at h
 | c :: cs,0,h,_=>by
  have:=h c (aQ ..);simp [fJ,h1, <- this]
 | c :: cs,i+1,h,hi=>by
  have hc:=h c (aQ ..);have ih:=NL h1 (css:=cs) (i:=i) (λd hd=>h d (aM _ hd)) (by simpa using hi);simp only [fJ,bK,List.set_cons_succ] at ih ⊢;rw [<- ih,dL,qY,Kz (i*sz) sz];rw [<- hc,Cf,oD];simp [fR,jZ,dV,show c.length+(i*c.length+c'.length) - c.length=i*c.length+c'.length from by omega]
theorem vY.lens {α:Type} {R:α->List Value->List Nat->Prop} {sz:Nat}:∀ {ys:List α} {css:List (List Value)} {bss:List (List Nat)},vY R sz ys css bss->∀ c∈css,c.length=sz
 | [],_,_,⟨e1,e2⟩,c,hc=>by subst e1;cases hc
 | y :: ys,_,_,⟨d,cs,b,bs,e1,e2,e3,e4,e5⟩,c,hc=>by
  subst e1;rcases aR.1 hc with rfl | hc
  ·exact e3
  ·exact e5.lens c hc
def aXp (lv:Bool) (t:Ty) (A:dD):Option hY :=
 match lv && !t.flat,BF t A with
 | false,some x=>some ⟨t,[x],true,none,some false⟩
 | _,_=>match Un t A with
  | some ls=>some ⟨t,[],false,some ls,none⟩
  | none=>none
def SX:PV->PV
 | .fn f [] => .a (.val (.func (.func f) #[] #[]))
 | p=>p
def aML (tab:List TI) (lv:Bool) (T:TypeId) (p:PV):Option hY:=match SX p with
 | .a A=>match (iZ tab T).ty with
  | some t=>aXp lv t A
  | none=>none
 | _=>none
def Uy (tab:List TI) (T:TypeId):Option hY :=
 match (iZ tab T).ty with
 | some t=>match t.flat with
  | true=>some ⟨t,[t.dflt],true,none,some false⟩
  | false=>some ⟨t,[],false,some (zLs t),none⟩
 | none=>none
def PM (k:Nat) (A:hY):dD :=
 match A.ls with
 | some _ => .bptr k 0 A.t
 | none => .optr k 0 []
def aBn (t:Ty):List t.den->List (Nat×PV)->Option (List t.den)
 | xs,[]=>some xs
 | xs,(i,.a A) :: r=>match LA i xs.length,BF t A with
  | true,some y=>aBn t (xs.set i y) r
  | _,_=>none
 | _,_=>none
def Ge (tab:List TI) (T:TypeId) (n:Nat) (parts:List (Nat×PV)):Option hY :=
 match iZ tab T with
 | .slice _ t _=>match zC (n*t.size) 16777216&&zC 1 t.size,aBn t (b6 n t.dflt) (parts.map λp=>(p.1,SX p.2)) with
  | true,some xs=>some ⟨t,xs, !t.flat && !(cG n 0),none,none⟩
  | _,_=>none
 | _=>none
def aE6 (tab:List TI) (T:TypeId) (l c:PV):Option (List Prop×hY) :=
 match iZ tab T,l,c with
 | .slice _ t by',.a (.val (.int .i64 l)),.a (.val (.int .i64 c))=>some ([0<=l,l<=c,(by':Int)*c<=281474976710656],⟨t,b6 l.toNat t.dflt,false,none,none⟩)
 | _,_,_=>none
def aXq (A:hY) (t:Ty):Bool :=
 match A.sm with
 | some true=>t.flat
 | _=>true
def Uz (tab:List TI) (L:bG) (T:TypeId):PV->PV->Option bG
 | .a (.optr r i p),.a B=>match (iZ tab T).ty,b7 L r with
  | some t,some A=>match (A.bor||t.flat)&&aXq A t,A.ls,BF t B with
   | true,none,some y=>match SO A.t (A.xs.getD i A.t.dflt) p ⟨t,y⟩ with
    | some x=>some (iE L r (some ⟨A.t,A.xs.set i x,A.bor,none,A.sm⟩))
    | none=>none
   | _,_,_=>none
  | _,_=>none
 | .a (.bptr r o t'),.a B=>match (iZ tab T).ty,b7 L r with
  | some t,some A=>match decide (t'=t),A.ls,Un t B with
   | true,some ls,some l=>some (iE L r (some ⟨A.t,A.xs,A.bor,some (Cz ls o l),A.sm⟩))
   | _,_,_=>none
  | _,_=>none
 | _,_=>none
section
variable {P:Program} {n:Nat} {K:jK} {G:Nat->Prop} {w0 w:World} {a:Act} {E:eD} {L:bG} {V:Nat->Value} {own:Nat->List Nat}
theorem bT.fresh (hR:bT n K w0 G w a E L V own) {w':World} (hk:cE [] w w') {A0:hY} {v:Value} {bs:List Nat} (h:fW w0 G w' A0 v bs) (hn:bs.Nodup) (hb:∀ b∈bs,w.heap.size<=b)
  (hbox:∀ ls,A0.ls=some ls->Bh w0 G w' L V A0.t ls v:=by intro ls h;cases h) (hsm:∀ q,A0.sm=some q->(∃ b off,v = .slice (some ⟨b,off,none⟩) 1 1)/\(q=true->A0.bor=true/\fW w0 K.G0 w' A0 v bs):=by intro q h;cases h) :
  bT n K w0 G w' a E (L++[some A0]) (CW V L.length v) (CW own L.length bs) :=
 (hR.ext hk).grow h hn (λb hb'=>hR.out_new (hb b hb')) (λr A hA b hb' hm=>by have:=hb b hm;have:=hR.own_lt hA b hb';omega) hbox hsm
structure New (L:bG) (w w':World) (V V':Nat->Value) (own own':Nat->List Nat):Prop where
 kept:cE [] w w'
 same:∀ r,r<L.length->V' r=V r/\own' r=own r
 fresh:∀ r,L.length<=r->∀ A L',b7 (L++L') r=some A->L'.length<=1->∀ b∈own' r,w.heap.size<=b
def Xh (n:Nat) (K:jK) (w0:World) (G:Nat->Prop) (w w':World) (a:Act) (E:eD) (L L':bG) (V V':Nat->Value) (own own':Nat->List Nat):Prop :=
 bT n K w0 G w' a E L' V' own'/\New L w w' V V' own own'
theorem bT.freshN (hR:bT n K w0 G w a E L V own) {w':World} (hk:cE [] w w') {A0:hY} {v:Value} {bs:List Nat} (h:fW w0 G w' A0 v bs) (hn:bs.Nodup) (hb:∀ b∈bs,w.heap.size<=b)
  (hbox:∀ ls,A0.ls=some ls->Bh w0 G w' L V A0.t ls v:=by intro ls h;cases h) (hsm:∀ q,A0.sm=some q->(∃ b off,v = .slice (some ⟨b,off,none⟩) 1 1)/\(q=true->A0.bor=true/\fW w0 K.G0 w' A0 v bs):=by intro q h;cases h) :
  Xh n K w0 G w w' a E L (L++[some A0]) V (CW V L.length v) own (CW own L.length bs) :=
 ⟨hR.fresh hk h hn hb hbox hsm,hk,λr hr=>⟨dI _ _ (by omega),dI _ _ (by omega)⟩,λr hr A L' hg hl b hb'=>by
  have hlt:=uN hg;rw [aO] at hlt;have:r=L.length:=by omega
  subst this;rw [eA] at hb';exact hb b hb'⟩
theorem DI {A:dD} {v:Value} (hb:rS w0 G A v) {t:Ty} {x:t.den} (h:BF t A=some x) (bor:Bool) (hf:bor=false->t.flat=true):∃ cs,v=gH t cs/\cs.length=t.size/\dW w0 G t x cs/\∀ w,lO w0 G w t bor x cs []:=by
 obtain ⟨cs,hr,hv⟩:=zR hb h;refine ⟨cs,hv,hr.length,hr,λw => ?_⟩;unfold lO;cases bor with
 | true=>exact ⟨hr,rfl⟩
 | false=>exact hr.own (hf rfl)
theorem AA (w:World) (o:Obj):(w.alloc o).heap[w.heap.size]? = some o:=heap_alloc_new w o
theorem T3 (n:Nat):aHp (0,0) n:=λj _ h=>by omega
theorem AB (sz n:Nat):EQ sz (0,0) n:=⟨T3 _,.inr (T3 _)⟩
theorem aMM {w:World} {t:Ty} {bor:Bool} {sm:Option Bool} {x:t.den} {cs:List Value} (h:∀ w,lO w0 G w t bor x cs []) (hl:cs.length=t.size) (ty:TypeId) :
  fW w0 G (w.alloc (.cells cs.toArray ty)) ⟨t,[x],bor,none,sm⟩ (.slice (some ⟨w.heap.size,0,none⟩) 1 1) [w.heap.size]:=by
 have hrow:vY (lO w0 G (w.alloc (.cells cs.toArray ty)) t bor) t.size [x] [cs] [[]]:=⟨cs,[],[],[],rfl,rfl,hl,h _,rfl,rfl⟩;have:=rE hrow (b:=w.heap.size) (off:=0) (cap:=1) (cur:=cs.toArray) (ty:=ty) (fz:=(0,0)) (by simp [maxLen]) (by simp) (by simp [maxLen]) (by simp [hl]) (AA _ _) (AB _ _) (by simp);simpa [fW] using this
theorem DJ {t:Ty} {cs:List Value} {x:t.den} (h:dW w0 G t x cs):(gH t cs).cells=cs.toArray:=by
 have:=congrArg kL (qB h);simpa using this
theorem aE7 (hR:bT n K w0 G w a E L V own) {t:Ty} {A:hY} {cs:List Value} (T:TypeId) (hl:cs.length=t.size)
  (h:(∃ x,A=⟨t,[x],true,none,some false⟩/\dW w0 G t x cs)\/∃ ls,A=⟨t,[],false,some ls,none⟩/\ls.length=t.size/\gV w0 G L V ls cs) :
  ∃ V' own',Xh n K w0 G w (w.alloc (.cells cs.toArray T)) a E L (L++[some A]) V V' own own'/\kH w0 G (L++[some A]) V' (.a (PM L.length A)) (.pointer (some ⟨w.heap.size,0,none⟩)):=by
 rcases h with ⟨x,rfl,hr⟩ | ⟨ls,rfl,hll,hr⟩
 ·have hE:=aMM (w:=w) (sm:=some false) (bor:=true) (x:=x) (λw=>(⟨hr,rfl⟩:lO w0 G w t true x cs [])) hl T;refine ⟨_,_,hR.freshN ((cE.refl [] w).alloc _) hE (by simp) (by simp) (hsm:=λq hq=>⟨⟨_,_,rfl⟩,λe=>by subst e;cases hq⟩),?_⟩;exact ⟨_,Eu _ _,by simp,w.heap.size,0,1,1,0,t,eA _ _ _,rfl,by simp⟩
 ·have hE:fW w0 G (w.alloc (.cells cs.toArray T)) ⟨t,[],false,some ls,none⟩ (.slice (some ⟨w.heap.size,0,none⟩) 0 1) [w.heap.size] :=
   ⟨by simp [maxLen],.inr ⟨w.heap.size,0,1,cs.toArray,T,(0,0),[],rfl,bW _,by simp [maxLen],by simp [hl],AA _ _,AB _ _,rfl,rfl,λi y bi hy=>by simp at hy⟩⟩
  refine ⟨_,_,hR.freshN ((cE.refl [] w).alloc _) hE (by simp) (by simp) (hbox:=λl hl' => ?_),?_⟩
  ·cases hl';refine ⟨w.heap.size,0,cs,rfl,hl,hll,λj c hj => ?_,hr⟩;simp only [fQ, AA];simpa using hj
  ·exact ⟨_,ls,w.heap.size,0,Eu _ _,rfl,eA _ _ _,rfl,by simp⟩
theorem aFY (hR:bT n K w0 G w a E L V own) (x:Operand) {A:dD} (hA:SX (opnd E x) = .a A):kZ w0 G L V A (a.eval x):=by
 unfold SX at hA;split at hA
 ·rename_i f hq;cases hA;have hv:=hR.opnd x;rw [hq] at hv;obtain ⟨us,hu,hr⟩:=hv;cases hr;exact ⟨hu,trivial⟩
 ·exact hR.atom hA
theorem Xi (hR:bT n K w0 G w a E L V own) (x:Operand) {A:dD} (hA:SX (opnd E x) = .a A) {t:Ty} {y:t.den} (hd:BF t A=some y):rS w0 G A (a.eval x):=by
 unfold SX at hA;split at hA
 ·rename_i f hq;cases hA;have hv:=hR.opnd x;rw [hq] at hv;obtain ⟨us,hu,hr⟩:=hv;cases hr;exact ⟨hu,trivial⟩
 ·exact oS (hR.atom hA) hd
theorem Xj {tab:List TI} (hT:jP P tab) (hR:bT n K w0 G w a E L V own) {lv:Bool} {T:TypeId} {x:Operand} {A:hY} (h:aML tab lv T (opnd E x)=some A) :
  ∃ v w' V' own',(aHl T (a.eval x)).run P w = .ok v w'/\Xh n K w0 G w w' a E L (L++[some A]) V V' own own'/\kH w0 G (L++[some A]) V' (.a (PM L.length A)) v:=by
 unfold aML at h;split at h
 ·rename_i B hB;split at h
  ·rename_i t ht;have key:∃ cs,cs.length=t.size/\(a.eval x).cells=cs.toArray/\((∃ y,A=⟨t,[y],true,none,some false⟩/\dW w0 G t y cs)\/∃ ls,A=⟨t,[],false,some ls,none⟩/\ls.length=t.size/\gV w0 G L V ls cs):=by
    unfold aXp at h;split at h
    ·rename_i y _ hy;cases h;obtain ⟨cs,hv,hl,hrep,hcs⟩:=DI (Xi hR x hB hy) hy true (λh=>by cases h);exact ⟨cs,hl,by rw [hv];exact DJ hrep,.inl ⟨y,rfl,hrep⟩⟩
    ·split at h
     ·rename_i ls hls;cases h;obtain ⟨cs,e1,e2,e3,e4,e5⟩:=Oz (aFY hR x hB) hls;exact ⟨cs,e3,by rw [<- e5],.inr ⟨ls,rfl,e2,e4⟩⟩
     ·cases h
   obtain ⟨cs,hl,hc,hcase⟩:=key;obtain ⟨V',own',h1,h2⟩:=aE7 hR T hl hcase;refine ⟨_,_,V',own',?_,h1,h2⟩;simp only [aHl,newVar,newRow,bO,run_newObj,aW,cM,hc];rfl
  ·cases h
 ·cases h
theorem PN {tab:List TI} (hT:jP P tab) (hR:bT n K w0 G w a E L V own) {T:TypeId} {A:hY} (h:Uy tab T=some A) :
  ∃ v w' V' own',(GH T true (.tuple #[])).run P w = .ok v w'/\Xh n K w0 G w w' a E L (L++[some A]) V V' own own'/\kH w0 G (L++[some A]) V' (.a (PM L.length A)) v:=by
 unfold Uy at h;split at h
 ·rename_i t ht;have hd:=iK w0 G t;have key:(∃ y,A=⟨t,[y],true,none,some false⟩/\dW w0 G t y (eF t))\/∃ ls,A=⟨t,[],false,some ls,none⟩/\ls.length=t.size/\gV w0 G L V ls (eF t):=by
   split at h
   ·cases h;exact .inl ⟨_,rfl,hd⟩
   ·cases h;exact .inr ⟨_,rfl,DB,O7⟩
  obtain ⟨V',own',h1,h2⟩:=aE7 hR T hd.length key;refine ⟨_,_,V',own',?_,h1,h2⟩;simp only [GH,newVar,newRow,bO,run_newObj,aW,cM,(TI.ty_ok (hT T) ht).zero_run,DJ hd];rfl
 ·cases h
theorem Xk {t:Ty} {bor:Bool} (hbor:bor=false->t.flat=true):∀ {parts:List (Nat×PV)} {vs:List (Nat×Value)} {xs xs':List t.den} {css:List (List Value)} {bss:List (List Nat)},
  aBn t xs parts=some xs'->CT w0 G parts vs->(∀ w,vY (lO w0 G w t bor) t.size xs css bss)->bss.flatten=[] ->
  ∃ css' bss',qX (λi=>some (i*t.size,t.size)) css.flatten.toArray vs=some css'.flatten.toArray/\(∀ w,vY (lO w0 G w t bor) t.size xs' css' bss')/\bss'.flatten=[]/\xs'.length=xs.length
 | [],vs,xs,xs',css,bss,h,hv,hr,hb=>by
  cases hv;cases h;exact ⟨css,bss,rfl,hr,hb,rfl⟩
 | (i,.a A) :: r,vs,xs,xs',css,bss,h,hv,hr,hb=>by
  obtain ⟨v,s,rfl,h1,h2⟩:=hv;simp only [aBn] at h;split at h
  ·rename_i y hlt hy;have hlt:i<xs.length:=by simpa using hlt
   obtain ⟨cs,hv,hl,hrep,hcs⟩:=DI (h1 A rfl _ _ hy) hy bor hbor;obtain ⟨e1,e2,e3⟩:=(hr w0).len;have iE:∀ w,vY (lO w0 G w t bor) t.size (xs.set i y) (css.set i cs) (bss.set i []):=λw=>(hr w).set hl (hcs w) i;have hbn:(bss.set i []).flatten=[]:=by
    rw [oE] at hb ⊢;intro l hl';rcases List.mem_or_eq_of_mem_set hl' with h | h
    ·exact hb l h
    ·exact h
   obtain ⟨css',bss',e4,e5,e6,e7⟩:=Xk hbor h h2 iE hbn;refine ⟨css',bss',?_,e5,e6,by rw [e7];simp⟩;rw [Lj _ css.flatten i (i*t.size) v cs t.size s rfl (by rw [hv];exact qB hrep) hl (by rw [e3];have:=dA t.size hlt;rw [Nat.succ_mul] at this;exact this),
    NL hl (hr w0).lens (by rw [e1];exact hlt)]
   exact e4
  ·cases h
 | (_,.tup _) :: _,_,_,_,_,_,h,_,_,_=>by cases h
 | (_,.fn _ _) :: _,_,_,_,_,_,h,_,_,_=>by cases h
theorem Ja {w:World} {t:Ty} {bor:Bool} {sm:Option Bool} {xs:List t.den} {css:List (List Value)} {bss:List (List Nat)} {rest:List Value} {cap:Nat} {ty:TypeId} (hr:vY (lO w0 G (w.alloc (.cells (css.flatten++rest).toArray ty)) t bor) t.size xs css bss) (hb:bss.flatten=[])
  (hl:xs.length<=cap) (hm:cap<=maxLen) (hc:cap*t.size<=(css.flatten++rest).length) :
  fW w0 G (w.alloc (.cells (css.flatten++rest).toArray ty)) ⟨t,xs,bor,none,sm⟩ (.slice (some ⟨w.heap.size,0,none⟩) xs.length cap) [w.heap.size]:=by
 have:=rE hr (b:=w.heap.size) (off:=0) (cap:=cap) (cur:=(css.flatten++rest).toArray) (ty:=ty) (fz:=(0,0)) (by omega) hl hm (by rw [cV];simpa using hc) (AA _ _) (AB _ _) (λj c hj=>by
  rw [cV,pU,bV (bH.1 hj).1];exact hj)
 rw [hb] at this;exact this
theorem DK (t:Ty):(gH t (eF t)).cells=(eF t).toArray:=DJ (w0:=default) (G:=λ_=>True) (iK default (λ_=>True) t)
theorem AC (t:Ty) (k:Nat) (z:Array Value) (hz:k*t.size≠0->z=(eF t).toArray):((aAK (k*t.size)).map (z[· % z.size]!))=(b6 k (eF t)).flatten.toArray:=by
 have hl:(eF t).length=t.size:=(iK default (Good default []) t).length;by_cases h:k*t.size=0
 ·rw [h];have:(b6 k (eF t)).flatten=[]:=by
   apply b5;simp [hl,h]
  rw [this];simp
 ·have:=hz h;subst this;have hs:(eF t).toArray.size=t.size:=by simp [hl]
  have e:=PL (eF t).toArray k;rw [hs] at e ⊢;exact Array.toList_inj.1 e
theorem Xl (hR:bT n K w0 G w a E L V own):∀ (l:List (Nat×Operand)),CT w0 G ((l.map λp=>(p.1,opnd E p.2)).map λp=>(p.1,SX p.2)) (l.map λp=>(p.1,a.eval p.2))
 | []=>rfl
 | p :: r=>⟨a.eval p.2,_,rfl,λA hA t x hd=>Xi hR p.2 hA hd,Xl hR r⟩
theorem Hc {tab:List TI} (hT:jP P tab) (hR:bT n K w0 G w a E L V own) {T:TypeId} {k:Nat} {parts:Array (Nat×Operand)} {A:hY} (h:Ge tab T k (parts.toList.map λp=>(p.1,opnd E p.2))=some A) :
  ∃ v w' V' own',(Mw T k (parts.map λp=>(p.1,a.eval p.2))).run P w = .ok v w'/\Xh n K w0 G w w' a E L (L++[some A]) V V' own own'/\kH w0 G (L++[some A]) V' (.a (.osl L.length none)) v:=by
 unfold Ge at h;split at h
 ·rename_i e t by' ht
  split at h
  ·rename_i xs hle hlit;cases h;have hS:=hT T;rw [ht] at hS;obtain ⟨_,hu,he,_⟩:=hS;simp only [aJ,Nat.ble_eq] at hle;obtain ⟨hle,hsz⟩:=hle;have hkm:k<=maxLen:=by have:=Nat.le_mul_of_pos_right k hsz;unfold maxLen;omega
   have hb0:(b6 k ([]:List Nat)).flatten=[]:=by simp
   have hbor:(!t.flat && !(cG k 0))=false->t.flat=true\/k=0:=by
    intro hh;cases hf:t.flat with
    | true=>exact .inl rfl
    | false=>rw [hf] at hh;simp at hh;exact .inr hh
   have hfill:∃ css' bss',qX (λi=>some (i*t.size,t.size)) (b6 k (eF t)).flatten.toArray (parts.toList.map λp=>(p.1,a.eval p.2))=some css'.flatten.toArray/\(∀ w,vY (lO w0 G w t (!t.flat && !(cG k 0))) t.size xs css' bss')/\bss'.flatten=[]/\xs.length=k:=by
    by_cases hk:k=0
    ·subst hk;have:parts.toList=[]:=by
      cases hp:parts.toList with
      | nil=>rfl
      | cons q r =>
       exfalso;rw [hp] at hlit;simp only [bP,List.replicate_zero] at hlit;cases hq:opnd E q.2 with
       | a A=>rw [hq] at hlit;simp [SX,aBn,LA] at hlit
       | tup _=>rw [hq] at hlit;simp [SX,aBn] at hlit
       | fn _ cs=>rw [hq] at hlit;cases cs <;> simp [SX,aBn,LA] at hlit
     rw [this] at hlit ⊢;cases hlit;exact ⟨[],[],rfl,λw=>⟨rfl,rfl⟩,rfl,rfl⟩
    ·obtain ⟨css',bss',e1,e2,e3,e4⟩:=Xk (bor := !t.flat && !(cG k 0)) (λhh=>(hbor hh).resolve_right hk) hlit (Xl hR parts.toList) (λw=>Bl t _ k) hb0;exact ⟨css',bss',e1,e2,e3,by rw [e4];simp⟩
   obtain ⟨css,bss,hf,hrow,hbn,hlen⟩:=hfill;obtain ⟨l1,l2,l3⟩:=(hrow w).len;have hent:=Ja (w:=w) (sm:=none) (ty:=e) (rest:=[]) (cap:=k) (hrow _) hbn (by omega) hkm (by simp [l3,hlen]);rw [c6] at hent;refine ⟨_,_,_,_,?_,hR.freshN ((cE.refl [] w).alloc _) hent (by simp) (by simp),sJ (w0:=w0) (G:=G) (u:=w0) (G':=G) hent⟩;have e1:(parts.map λp=>(p.1,a.eval p.2)).toList=parts.toList.map λp=>(p.1,a.eval p.2):=by simp
   unfold Mw;simp only [bO,run_underlying hu,aW,he.size_run];rw [if_neg (by omega)];by_cases h0:k*t.size=0
   ·have hz:=AC t k #[] (λh=>absurd h0 h);rw [if_pos h0];simp only [bO,cM,aW,hz,e1,hf,newRow,run_newObj,hlen];rfl
   ·have hz:=AC t k (eF t).toArray (λ_=>rfl);rw [if_neg h0];simp only [bO,cM,aW,he.zero_run,DK,hz,e1,hf,newRow,run_newObj,hlen];rfl
  ·cases h
 ·cases h
end
def cY (s:ByteArray):List Int:=s.data.toList.map λb=>(b.toNat:Int)
def aMN (tab:List TI) (src dst:TypeId):PV->Option hY
 | .a (.val (.string s))=>match iZ tab src,iZ tab dst with
  | .scal .str,.slice _ (.int .u8) _=>some ⟨.int .u8,cY s,false,none,none⟩
  | _,_=>none
 | _=>none
def aQ5 (tab:List TI) (L:bG) (src dst:TypeId):PV->Option ByteArray
 | .a A=>match iZ tab src,iZ tab dst,aFU L (.sl (.int .u8)) A with
  | .slice _ (.int .u8) _,.scal .str,some xs=>some (lU xs)
  | _,_,_=>none
 | _=>none
section
variable {P:Program} {n:Nat} {K:jK} {G:Nat->Prop} {w0 w:World} {a:Act} {E:eD} {L:bG} {V:Nat->Value} {own:Nat->List Nat}
theorem aMO {n:Int} (h:cC .i64 n) : -9223372036854775808<=n/\n<=9223372036854775807:=by
 simpa [cC,oI,oJ,mY,kO] using h
theorem T4 {tab:List TI} (hT:jP P tab) (hR:bT n K w0 G w a E L V own) {T:TypeId} {l c:Operand} {cs:List Prop} {A:hY} (h:aE6 tab T (opnd E l) (opnd E c)=some (cs,A)) (hc:eZ cs) :
  ∃ v w' V' own',(OP T (a.eval l) (a.eval c)).run P w = .ok v w'/\Xh n K w0 G w w' a E L (L++[some A]) V V' own own'/\kH w0 G (L++[some A]) V' (.a (.osl L.length none)) v:=by
 unfold aE6 at h;split at h
 ·rename_i e t by' li ci ht hl hcc
  cases h;simp only [eZ] at hc;obtain ⟨h0,h1,h2,_⟩:=hc;obtain ⟨e1,o1⟩:=hR.valEq hl;obtain ⟨e2,o2⟩:=hR.valEq hcc;have hS:=hT T;rw [ht] at hS;obtain ⟨_,hu,he,hby⟩:=hS;obtain ⟨i,hi,hbi⟩:∃ i,P.info? e=some i/\i.bytes=by':=by
   cases hi:P.info? e with
   | none=>rw [hi] at hby;cases hby
   | some i=>rw [hi] at hby;simp at hby;exact ⟨i,rfl,hby⟩
  have hcm:ci.toNat<=maxLen:=by have:=(aMO o2).2;unfold maxLen;omega
  have hdl:(eF t).length=t.size:=(iK default (Good default []) t).length;have hsplit:(b6 ci.toNat (eF t)).flatten=(b6 li.toNat (eF t)).flatten++(b6 (ci.toNat - li.toNat) (eF t)).flatten:=by
   rw [<- fK,List.replicate_append_replicate]
   congr 2;omega
  have hent:=Ja (w:=w) (sm:=none) (ty:=e) (rest:=(b6 (ci.toNat - li.toNat) (eF t)).flatten) (cap:=ci.toNat) (Bl (w0:=w0) (G:=G) t false li.toNat) (by simp) (by simp;omega) hcm (by
   rw [<- hsplit];simp [hdl])
  rw [<- hsplit,List.length_replicate] at hent;refine ⟨_,_,_,_,?_,hR.freshN ((cE.refl [] w).alloc _) hent (by simp) (by simp),sJ (w0:=w0) (G:=G) (u:=w0) (G':=G) hent⟩;rw [e1,e2];unfold OP;have hnl:¬ ((by':Int)*ci>281474976710656):=by omega
  simp only [bO,run_underlying hu,aW,asInt,asIntOf,cM,typeInfo,run_program,hi,hbi,lJ o1,lJ o2];rw [if_neg (by simp;omega)];simp only [bO,run_askRoom,aW,he.size_run];by_cases hz:ci.toNat*t.size=0
  ·have hzl:=AC t ci.toNat #[] (λh=>absurd hz h);rw [if_pos hz];simp only [bO,cM,aW,hzl,newRow,run_newObj];rfl
  ·have hzl:=AC t ci.toNat (eF t).toArray (λ_=>rfl);rw [if_neg hz];simp only [bO,cM,aW,he.zero_run,DK,hzl,newRow,run_newObj];rfl
 ·cases h
theorem aBo {w:World} {G:Nat->Prop} {t t':Ty} (h:t'=t) {x:t'.den} {cs:List Value} (hp:dW w G t' x cs):dW w G t (h ▸ x) cs:=by
 subst h;exact hp
theorem aBp {w:World} {t t':Ty} (h:t'=t) {x:t'.den} {cs:List Value} {bs:List Nat} (hp:gB w t' x cs bs):gB w t (h ▸ x) cs bs:=by
 subst h;exact hp
theorem DL {cs c:List Value} (h:cs.length=c.length):fJ cs 0 c=c:=by
 simp [fJ, <- h]
theorem NM {c1 c2 c:List Value} {o:Nat} (h:o+c.length<=c1.length):fJ (c1++c2) o c=fJ c1 o c++c2:=by
 unfold fJ;rw [List.take_append_of_le_length (by omega),oK (by omega)];simp [bS]
theorem Jb {c1 c2 c:List Value} {o:Nat}:fJ (c1++c2) (c1.length+o) c=c1++fJ c2 o c:=by
 unfold fJ;rw [Cf,fR (by omega),oD,jZ (by omega)];simp [show c1.length+o - c1.length=o from by omega,show c1.length+o+c.length - c1.length=o+c.length from by omega]
theorem lK {cs c:List Value} {o:Nat} (h:o+c.length<=cs.length):(fJ cs o c).length=cs.length:=by
 simp [fJ];omega
theorem Ey {w:World} {G:Nat->Prop} {d:aY} {c:List Value} (hd:dW w G d.t d.x c):∀ {t:Ty} {x x':t.den} {p:List Nat} {cs:List Value},SO t x p d=some x'->dW w G t x cs ->
  ∃ o,jT p t=some (o,d.t)/\dW w G t x' (fJ cs o c)/\o+c.length<=cs.length
 | t,x,x',[],cs,h,hr=>by
  have h':(if h:d.t=t then some (h ▸ d.x) else none:Option t.den)=some x':=by
   cases t <;> exact h
  split at h'
  ·rename_i ht;cases h';have hl:cs.length=c.length:=by rw [hr.length,hd.length,ht]
   refine ⟨0,by rw [ht];rfl,?_,by omega⟩;rw [DL hl];exact aBo ht hd
  ·cases h'
 | .cons a b,x,x',0 :: p,cs,h,hr=>by
  obtain ⟨c1,c2,rfl,h1,h2⟩:=hr;simp only [SO] at h;split at h
  ·rename_i y hy;cases h;obtain ⟨o,ho,hr',hl⟩:=Ey hd (t:=a) hy h1;refine ⟨o,by simp [jT,kI,ho],?_,by rw [aO];omega⟩;rw [NM hl];exact ⟨_,_,rfl,hr',h2⟩
  ·cases h
 | .cons a b,x,x',(k+1) :: p,cs,h,hr=>by
  obtain ⟨c1,c2,rfl,h1,h2⟩:=hr;simp only [SO] at h;split at h
  ·rename_i y hy;cases h;obtain ⟨o,ho,hr',hl⟩:=Ey hd (t:=b) hy h2;have hp:jT ((k+1) :: p) (.cons a b)=some (a.size+o,d.t):=by
    simp only [jT] at ho ⊢;simp only [kI];split at ho
    ·rename_i o1 t1 h3;split at ho
     ·rename_i o2 t2 h4;cases ho;simp [h4,dV]
     ·cases ho
    ·cases ho
   refine ⟨a.size+o,hp,?_,by rw [aO,h1.length];omega⟩;rw [<- h1.length,Jb];exact ⟨_,_,rfl,h1,hr'⟩
  ·cases h
 | .int _,_,_,0 :: _,_,h,_=>by cases h
 | .bool,_,_,0 :: _,_,h,_=>by cases h
 | .fn,_,_,0 :: _,_,h,_=>by cases h
 | .str,_,_,0 :: _,_,h,_=>by cases h
 | .sl _,_,_,0 :: _,_,h,_=>by cases h
 | .unit,_,_,0 :: _,_,h,_=>by cases h
 | .int _,_,_,(_+1) :: _,_,h,_=>by cases h
 | .bool,_,_,(_+1) :: _,_,h,_=>by cases h
 | .fn,_,_,(_+1) :: _,_,h,_=>by cases h
 | .str,_,_,(_+1) :: _,_,h,_=>by cases h
 | .sl _,_,_,(_+1) :: _,_,h,_=>by cases h
 | .unit,_,_,(_+1) :: _,_,h,_=>by cases h
theorem Jc {w:World} {d:aY} {c:List Value} (hf:d.t.flat=true) (hd:gB w d.t d.x c []):∀ {t:Ty} {x x':t.den} {p:List Nat} {cs:List Value} {bs:List Nat},SO t x p d=some x'->gB w t x cs bs ->
  ∃ o,jT p t=some (o,d.t)/\gB w t x' (fJ cs o c) bs/\o+c.length<=cs.length
 | t,x,x',[],cs,bs,h,hr=>by
  have h':(if h:d.t=t then some (h ▸ d.x) else none:Option t.den)=some x':=by
   cases t <;> exact h
  split at h'
  ·rename_i ht;cases h';have hl:cs.length=c.length:=by rw [hr.length,hd.length,ht]
   have hb:=(hr.flat (w':=w) (G:=λ_=>True) (by rw [<- ht];exact hf)).2;refine ⟨0,by rw [ht];rfl,?_,by omega⟩;rw [DL hl,hb];exact aBp ht hd
  ·cases h'
 | .cons a b,x,x',0 :: p,cs,bs,h,hr=>by
  obtain ⟨c1,c2,b1,b2,rfl,rfl,h1,h2⟩:=hr;simp only [SO] at h;split at h
  ·rename_i y hy;cases h;obtain ⟨o,ho,hr',hl⟩:=Jc hf hd (t:=a) hy h1;refine ⟨o,by simp [jT,kI,ho],?_,by rw [aO];omega⟩;rw [NM hl];exact ⟨_,_,_,_,rfl,rfl,hr',h2⟩
  ·cases h
 | .cons a b,x,x',(k+1) :: p,cs,bs,h,hr=>by
  obtain ⟨c1,c2,b1,b2,rfl,rfl,h1,h2⟩:=hr;simp only [SO] at h;split at h
  ·rename_i y hy;cases h;obtain ⟨o,ho,hr',hl⟩:=Jc hf hd (t:=b) hy h2;have hp:jT ((k+1) :: p) (.cons a b)=some (a.size+o,d.t):=by
    simp only [jT] at ho ⊢;simp only [kI];split at ho
    ·rename_i o1 t1 h3;split at ho
     ·rename_i o2 t2 h4;cases ho;simp [h4,dV]
     ·cases ho
    ·cases ho
   refine ⟨a.size+o,hp,?_,by rw [aO,h1.length];omega⟩;rw [<- h1.length,Jb];exact ⟨_,_,_,_,rfl,rfl,h1,hr'⟩
  ·cases h
 | .int _,_,_,0 :: _,_,_,h,_=>by cases h
 | .bool,_,_,0 :: _,_,_,h,_=>by cases h
 | .fn,_,_,0 :: _,_,_,h,_=>by cases h
 | .str,_,_,0 :: _,_,_,h,_=>by cases h
 | .sl _,_,_,0 :: _,_,_,h,_=>by cases h
 | .unit,_,_,0 :: _,_,_,h,_=>by cases h
 | .int _,_,_,(_+1) :: _,_,_,h,_=>by cases h
 | .bool,_,_,(_+1) :: _,_,_,h,_=>by cases h
 | .fn,_,_,(_+1) :: _,_,_,h,_=>by cases h
 | .str,_,_,(_+1) :: _,_,_,h,_=>by cases h
 | .sl _,_,_,(_+1) :: _,_,_,h,_=>by cases h
 | .unit,_,_,(_+1) :: _,_,_,h,_=>by cases h
theorem Hd {l c1 c:List Value} {o1 o:Nat} (h:o+c.length<=c1.length) (hl:o1+c1.length<=l.length) (hc:∀ j v,c1[j]? = some v->l[o1+j]? = some v):fJ l (o1+o) c=fJ l o1 (fJ c1 o c):=by
 have hc1:c1=(l.drop o1).take c1.length:=by
  apply u6;intro j;rw [eY];by_cases hj:j<c1.length
  ·rw [if_pos hj,gL,bC hj];exact (hc j _ (bC hj)).symm
  ·rw [if_neg hj,eV (by omega)]
 unfold fJ;have hlen:(c1.take o++c++c1.drop (o+c.length)).length=c1.length:=by simp;omega
 rw [hlen];have e1:l.take (o1+o)=l.take o1++c1.take o:=by
  rw [List.take_add,hc1,GE,Nat.min_eq_left (by omega)]
 have e2:l.drop (o1+o+c.length)=c1.drop (o+c.length)++l.drop (o1+c1.length):=by
  have:l.drop o1=c1++l.drop (o1+c1.length):=by
   conv=>lhs;rw [<- eU c1.length (l.drop o1)]
   rw [<- hc1,mK]
  rw [dV, <- mK,this,oK (by omega)]
 rw [e1,e2];simp [bS]
theorem bT.turn (hR:bT n K w0 G w a E L V own) {w':World} {r b:Nat} {A A':hY} (hA:b7 L r=some A) (hb:b∈own r) (hk:cE [b] w w') (hs:T0 A A') (hE:fW w0 G w' A' (V r) (own r))
  (hbox:∀ ls,A'.ls=some ls->Bh w0 G w' L V A'.t ls (V r)) (hsm:∀ q,A'.sm=some q->(∃ b off,V r = .slice (some ⟨b,off,none⟩) 1 1)/\(q=true->A'.bor=true/\fW w0 K.G0 w' A' (V r) (own r))):bT n K w0 G w' a E (iE L r (some A')) V own:=by
 have hag:∀ s,mN L V (iE L r (some A')) V s:=Ln hA hs V;have hnot:∀ s C,b7 L s=some C->s≠r->∀ d∈own s,d≠b:=λs C hs hsr d hd e=>by
  subst e;exact hR.apart s r C A hs hA hsr d hd hb
 have hsplit:∀ s C,b7 (iE L r (some A')) s=some C->(s≠r/\b7 L s=some C)\/(s=r/\C=A'):=by
  intro s C hs;by_cases hsr:s=r
  ·subst hsr;rw [iQ hA] at hs;cases hs;exact .inr ⟨rfl,rfl⟩
  ·exact .inl ⟨hsr,by rwa [dO (jL hsr)] at hs⟩
 have hGb:∀ c,G c->c≠b:=λc hc e=>(hR.good r A hA b hb).2 (e ▸ hc);refine ⟨hR.glob,?_,hR.size,hR.defers,λc hc=>cK (hR.glt c hc) hk.size,λc hc=>(hk.block c (hR.glt c hc) (by simp [hGb c hc])).trans (hR.gref c hc),hR.gsub,hR.gold,hR.gup,?_,?_,?_,?_,?_,?_,λi=>oT (hR.env i) λs _=>hag s⟩
 ·refine ⟨hk.os.trans hR.kept.os,hk.tape.trans hR.kept.tape,hk.output.trans hR.kept.output,cO hR.kept.size hk.size,λk hk' hkO => ?_⟩;rw [hk.block k (cK hk' hR.kept.size) (by simp;exact λe=>(hR.good r A hA b hb).1 (e ▸ ⟨hk',hkO⟩))];exact hR.kept.block k hk' hkO
 ·intro s C hs;rcases hsplit s C hs with ⟨e1,e2⟩ | ⟨rfl,rfl⟩
  ·exact (hR.heap s C e2).keep λd hd=>hk.block d (hR.own_lt e2 d hd) (by simp [hnot s C e2 e1 d hd])
  ·exact hE
 ·intro s C hs;rcases hsplit s C hs with ⟨e1,e2⟩ | ⟨rfl,rfl⟩
  ·exact hR.good s C e2
  ·exact hR.good s A hA
 ·intro s C hs;rcases hsplit s C hs with ⟨e1,e2⟩ | ⟨rfl,rfl⟩
  ·exact hR.nodup s C e2
  ·exact hR.nodup s A hA
 ·intro s u C D hs hu' hsu;rcases hsplit s C hs with ⟨e1,e2⟩ | ⟨rfl,rfl⟩
  ·rcases hsplit u D hu' with ⟨e3,e4⟩ | ⟨rfl,rfl⟩
   ·exact hR.apart s u C D e2 e4 hsu
   ·exact hR.apart s u C A e2 hA hsu
  ·rcases hsplit u D hu' with ⟨e3,e4⟩ | ⟨rfl,rfl⟩
   ·exact hR.apart s u A D hA e4 hsu
   ·exact absurd rfl hsu
 ·intro s C ls hs hl;rcases hsplit s C hs with ⟨e1,e2⟩ | ⟨rfl,rfl⟩
  ·refine ((hR.boxs s C ls e2 hl).keepB λd off hv => ?_).agree λu _=>hag u;have hd:=(hR.heap s C e2).block hv (aT _);exact hk.block d (hR.own_lt e2 d hd) (by simp [hnot s C e2 e1 d hd])
  ·exact (hbox ls hl).agree λu _=>hag u
 ·intro s C q hs hq;rcases hsplit s C hs with ⟨e1,e2⟩ | ⟨rfl,rfl⟩
  ·obtain ⟨g1,g2⟩:=hR.small s C q e2 hq;exact ⟨g1,λe=>⟨(g2 e).1,(g2 e).2.keep λd hd=>hk.block d (hR.own_lt e2 d hd) (by simp [hnot s C e2 e1 d hd])⟩⟩
  ·exact hsm q hq
theorem T5 {w w':World} {A:hY} {v:Value} {bs:List Nat} (hent:fW w0 G w A v bs) (hnd:bs.Nodup) {i b off m cap po:Nat} {p:List Nat} {t:Ty} {z:t.den} {x':A.t.den} {c:List Value} {cur cur':Array Value} {ty:TypeId} {fz:Nat×Nat} {ls:Option (List fT)} {sm:Option Bool}
  (hi:i<A.xs.length) (hv:v = .slice (some ⟨b,off,none⟩) m cap) (hp:jT p A.t=some (po,t)) (hbf:A.bor=true\/t.flat=true) (hrc:dW w0 G t z c) (hst:SO A.t (A.xs.getD i A.t.dflt) p ⟨t,z⟩=some x')
  (h5:w.heap[b]? = some (.cells cur ty fz)) (hs2:w'.heap[b]? = some (.cells cur' ty fz)) (hs3:cur'.toList=fJ cur.toList (off+i*A.t.size+po) c) (hs4:cE [b] w w'):fW w0 G w' ⟨A.t,A.xs.set i x',A.bor,ls,sm⟩ v bs:=by
 rcases hent.2 with ⟨_,_,h1,_⟩ | ⟨b',off',cap',cur0,ty0,fz0,bss,h1,h2,h3,h4,h5',h6,h7,h8,h9⟩
 ·rw [h1] at hi;simp at hi
 ·rw [h1] at hv;simp only [j0,fF,sM] at hv;obtain ⟨⟨q1,q2,_⟩,_,q3⟩:=hv;subst q1 q2 q3;rw [h5] at h5';cases h5';have hib:i<bss.length:=by rw [h7];exact hi
  obtain ⟨cs,hcs1,hcs2,hcs3⟩:=h9 i _ _ (oP A.xs i A.t.dflt hi) (bC hib);have hnew:(∀ w,lO w0 G w A.t A.bor (A.xs.getD i A.t.dflt) cs bss[i]->lO w0 G w A.t A.bor x' (fJ cs po c) bss[i])/\po+c.length<=cs.length:=by
   cases hbor:A.bor with
   | true =>
    rw [hbor] at hcs3;obtain ⟨o,e1,e2,e3⟩:=Ey (d:=⟨t,z⟩) hrc hst hcs3.1;rw [hp] at e1;cases e1;exact ⟨λw hh=>⟨e2,hh.2⟩,e3⟩
   | false =>
    rw [hbor] at hcs3 hbf;have hfl:t.flat=true:=hbf.resolve_left (by simp);obtain ⟨o,e1,e2,e3⟩:=Jc (d:=⟨t,z⟩) hfl (hrc.own hfl (w':=w)) hst hcs3;rw [hp] at e1;cases e1;refine ⟨λw' hh => ?_,e3⟩;obtain ⟨o',e1',e2',_⟩:=Jc (d:=⟨t,z⟩) hfl (hrc.own hfl (w':=w')) hst hh;rw [hp] at e1';cases e1';exact e2'
  obtain ⟨hnw,hol⟩:=hnew;have hsz:i*A.t.size+A.t.size<=cap'*A.t.size:=by
   have:(i+1)*A.t.size<=cap'*A.t.size:=dA _ (by omega);rw [dL,qY] at this;exact this
  have hcl:cur.toList.length=cur.size:=cT;have hcurlen:cur'.size=cur.size:=by
   have:=congrArg aN hs3;rw [lK (by omega)] at this;simpa using this
  have hnb:∀ d∈bss.flatten,d≠b':=λd hd e=>by
   rw [h8,j7] at hnd;exact hnd.1 (e ▸ hd)
  refine ⟨by simpa using hent.1,.inr ⟨b',off',cap',cur',ty,fz,bss,by simpa using h1,by simpa using h2,h3,by rw [hcurlen];exact h4,hs2,by rw [hcurlen];exact h6,by simpa using h7,h8,λj y bj hy hbj => ?_⟩⟩;have hkeep:∀ d∈bj,w'.heap[d]? = w.heap[d]? := λd hd=>by
   have hm:=oO hbj d hd;exact hs4.block d (hent.lt d (by rw [h8];exact aM _ hm)) (by simp [hnb d hm])
  have hkeepR:∀ {yy:A.t.den} {cc:List Value},lO w0 G w A.t A.bor yy cc bj->lO w0 G w' A.t A.bor yy cc bj:=λhh=>TH (λ_ h=>h) (λ_ _=>rfl) hkeep hh;have hb2:off'+i*A.t.size+cs.length<=cur.toList.length:=by rw [hcs1];omega
  have hcsg:∀ j v,cs[j]? = some v->cur.toList[off'+i*A.t.size+j]? = some v:=λj v hj=>by rw [cX];exact hcs2 j v hj
  have hs3':cur'.toList=fJ cur.toList (off'+i*A.t.size) (fJ cs po c):=by
   rw [hs3];exact Hd hol hb2 hcsg
  have hspl:(fJ cs po c).length=cs.length:=lK hol;simp only at hy;rw [List.getElem?_set] at hy;by_cases hij:i=j
  ·subst hij;rw [if_pos rfl,if_pos hi] at hy;cases hy;rw [bC hib] at hbj;cases hbj;refine ⟨fJ cs po c,by rw [hspl,hcs1],λk v hk => ?_,hkeepR (hnw w hcs3)⟩;have hk':k<cs.length:=by rw [<- hspl];exact (bH.1 hk).1
   rw [<- cX,hs3',fJ,bS,cH (by simp;omega)];rw [bV (by simp only [cJ];omega)];have:off'+i*A.t.size+k - (cur.toList.take (off'+i*A.t.size)).length=k:=by simp only [cJ];omega
   rw [this];exact hk
  ·rw [if_neg hij] at hy;obtain ⟨ds,e1,e2,e3⟩:=h9 j y bj hy hbj;refine ⟨ds,e1,λk v hk => ?_,hkeepR e3⟩;have hk':k<A.t.size:=by rw [<- e1];exact (bH.1 hk).1
   show cur'[off'+j*A.t.size+k]? = some v;have:=e2 k v hk;rw [<- cX] at this;rw [<- cX,hs3',fJ,hspl,hcs1];rcases Nat.lt_or_gt_of_ne hij with hlt | hgt
   ·have hle:(i+1)*A.t.size<=j*A.t.size:=dA _ hlt;rw [dL,qY] at hle;rw [cH (by simp only [aO,cJ,hspl,hcs1];omega),gL];simp only [aO,cJ,hspl,hcs1];rw [show off'+i*A.t.size+A.t.size+(off'+j*A.t.size+k - (min (off'+i*A.t.size) cur.toList.length+A.t.size))=off'+j*A.t.size+k from by omega];exact this
   ·have hle:(j+1)*A.t.size<=i*A.t.size:=dA _ hgt;rw [dL,qY] at hle;rw [bS,bV (by simp only [cJ];omega),eY,if_pos (by omega)];exact this
def tgt:PV->Option Nat
 | .a (.optr r _ _)=>some r
 | .a (.bptr r _ _)=>some r
 | _=>none
theorem PO {tab:List TI} (hT:jP P tab) (hR:bT n K w0 G w a E L V own) {T:TypeId} {x y:Operand} {L':bG} (h:Uz tab L T (opnd E x) (opnd E y)=some L') :
  ∃ w',(xH T (a.eval x) (a.eval y)).run P w = .ok () w'/\bT n K w0 G w' a E L' V own/\∃ r,tgt (opnd E x)=some r/\cE (own r) w w':=by
 unfold Uz at h;split at h
 ·rename_i r i p B hx hy;split at h
  ·rename_i t A ht hA;split at h
   ·rename_i z hbf hls hz;split at h
    ·rename_i x' hst;cases h;simp only [aJ,j8] at hbf;obtain ⟨hbf,hsmok⟩:=hbf;obtain ⟨A',hA',hi,b,off,m,cap,po,t',hv,hp,he⟩:=hR.atom hx;rw [hA] at hA';cases hA';obtain ⟨c,hrc,hvc⟩:=zR (oS (hR.atom hy) hz) hz;have hcl:=hrc.length;have hent:=hR.heap r A hA;have hb:b∈own r:=by
      rcases hent.2 with ⟨_,_,h1,_⟩ | ⟨b',off',cap',cur,ty,fz,bss,h1,h2,h3,h4,h5,h6,h7,h8,h9⟩
      ·rw [h1] at hi;simp at hi
      ·rw [h1] at hv;cases hv;rw [h8];exact aQ ..
     -- the place of the part
     have hpt:t'=t/\po+t.size<=A.t.size:=by
      obtain ⟨cs,bi,hc,ho,_⟩:=Ov hent hv (oP A.xs i A.t.dflt hi);revert ho;unfold lO;cases A.bor with
      | true =>
       intro ho;obtain ⟨o,e1,e2,e3⟩:=Ey (d:=⟨t,z⟩) hrc hst ho.1;rw [hp] at e1;cases e1;rw [ho.1.length,hcl] at e3;exact ⟨rfl,e3⟩
      | false =>
       intro ho;obtain ⟨o,e1,e2,e3⟩:=Ey (w:=w) (G:=λ_=>True) (d:=⟨t,z⟩) (hrc.keep (w':=w) (λ_ _=>trivial) (λc hc=>hR.gref c hc)) hst (ho.read (λ_ _=>trivial));rw [hp] at e1;cases e1;rw [ho.length,hcl] at e3;exact ⟨rfl,e3⟩
     obtain ⟨rfl,hps⟩:=hpt;rcases hent.2 with ⟨_,_,h1,_⟩ | ⟨b',off',cap',cur,ty,fz,bss,h1,h2,h3,h4,h5,h6,h7,h8,h9⟩
     ·rw [h1] at hi;simp at hi
     ·rw [h1] at hv;simp only [j0,fF,sM] at hv;obtain ⟨⟨q1,q2,_⟩,_,q3⟩:=hv;subst q1 q2 q3;have hsz:i*A.t.size+A.t.size<=cap'*A.t.size:=by
       have:(i+1)*A.t.size<=cap'*A.t.size:=dA _ (by omega);rw [dL,qY] at this;exact this
      obtain ⟨w',cur',hs1,hs2,hs3,hs4,hs5⟩:=qD (P:=P) c w b' (off'+i*A.t.size+po) 0 cur ty fz h5 h6.1 (by omega) hrc.one;rw [lE] at hs3;refine ⟨w',?_,?_,r,by rw [hx];rfl,hs4.mono λk hk=>by rw [bI.1 hk];exact hb⟩
      ·unfold xH;rw [he,hvc];have hvs:(gH t' c).cells.toList=c:=qB hrc;have hvz:(gH t' c).cells.size=t'.size:=by rw [<- cT,hvs,hcl]
       simp only [iT,bO,cM,aW,storeVar,(TI.ty_ok (hT T) ht).size_run,hvz,hvs];simp only [ne_eq,not_true_eq_false,if_false];exact hs1
      ·refine hR.turn hA hb hs4 ⟨rfl,by simp,λl hl=>by rw [hls] at hl;cases hl⟩ (T5 hent (hR.nodup r A hA) hi h1 hp hbf hrc hst h5 hs2 hs3 hs4) (λl hl=>by cases hl) λq hq => ?_;have hq:A.sm=some q:=hq;obtain ⟨g1,g2⟩:=hR.small r A q hA hq;refine ⟨g1,λe=>⟨(g2 e).1,?_⟩⟩;subst e;have hfl:t'.flat=true:=by simpa [aXq,hq] using hsmok
       exact T5 (g2 rfl).2 (hR.nodup r A hA) hi h1 hp (.inr hfl) (hrc.flat hfl) hst h5 hs2 hs3 hs4
    ·cases h
   ·cases h
  ·cases h
 ·rename_i r o t' B hx hy;split at h
  ·rename_i t A ht hA;split at h
   ·rename_i ls l htt hls hl;obtain rfl:=of_decide_eq_true htt;cases h;obtain ⟨A',ls',b,off,hA',hls',hv,he,hsz⟩:=hR.atom hx;rw [hA] at hA';cases hA';rw [hls] at hls';cases hls';obtain ⟨c,hvc,ell,hcl,hrl,hvs⟩:=Oz (hR.atom hy) hl;obtain ⟨b1,off1,cs,e1,e3,e4,e5,e6⟩:=hR.boxs r A ls hA hls;rw [hv] at e1;cases e1;have hent:=hR.heap r A hA;have hb:=hent.block hv (aT _);rcases hent.2 with ⟨_,h1,_,_⟩ | ⟨b',off',cap',cur,ty,fz,bss,h1,h2,h3,h4,h5,h6,h7,h8,h9⟩
    ·rw [hv] at h1;cases h1
    ·rw [hv] at h1;simp only [j0,fF,sM] at h1;obtain ⟨⟨q1,q2,_⟩,q4,q3⟩:=h1;subst q1 q2 q3;have hx0:A.xs=[]:=b5 q4.symm;have hcsl:cs.length=A.t.size:=e3;obtain ⟨w',cur',hs1,hs2,hs3,hs4,hs5⟩:=qD (P:=P) c w b (off+o) 0 cur ty fz h5 h6.1 (by omega) hrl.one;rw [lE] at hs3;have hcurl:cur.toList.length=cur.size:=cT;have hcurlen:cur'.size=cur.size:=by
      have:=congrArg aN hs3;rw [lK (by omega)] at this;simpa using this
     refine ⟨w',?_,?_,r,by rw [hx];rfl,hs4.mono λk hk=>by rw [bI.1 hk];exact hb⟩
     ·unfold xH;rw [he];have hvz:(a.eval y).cells.size=t'.size:=by rw [<- cT,hvs,hcl]
      simp only [iT,bO,cM,aW,storeVar,(TI.ty_ok (hT T) ht).size_run,hvz,hvs];simp only [ne_eq,not_true_eq_false,if_false];exact hs1
     ·have hE:fW w0 G w' ⟨A.t,A.xs,A.bor,some (Cz ls o l),A.sm⟩ (V r) (own r):=by
       refine ⟨hent.1,.inr ⟨b,off,1,cur',ty,fz,bss,by rw [hv,hx0];rfl,by rw [hx0];exact bW _,h3,by rw [hcurlen];exact h4,hs2,by rw [hcurlen];exact h6,h7,h8,λi y bi hy => ?_⟩⟩;have hy:A.xs[i]? = some y:=hy;rw [hx0] at hy;simp at hy
      refine hR.turn hA hb hs4 ⟨rfl,rfl,λ_ _=>⟨_,rfl⟩⟩ hE (λls2 h2 => ?_) (λq hq => ?_)
      ·cases h2;refine ⟨b,off,fJ cs o c,hv,by rw [lK (by omega)];exact e3,by rw [Eo (by omega)];exact e4,λj v hj => ?_,NJ e6 hrl⟩;have hjl:j<cs.length:=by
        have:=(bH.1 hj).1
        rwa [lK (by omega)] at this
       simp only [fQ, hs2];show cur'[off+j]? = some v;have hcs:cs=(cur.toList.drop off).take cs.length:=by
        apply u6;intro k;rw [eY];by_cases hk:k<cs.length
        ·rw [if_pos hk,gL,bC hk];have:=e5 k _ (bC hk);simp only [fQ, h5] at this;rw [cX];exact this.symm
        ·rw [if_neg hk,eV (by omega)]
       have hcg:∀ j v,cs[j]? = some v->cur.toList[off+j]? = some v:=λj v hj=>by
        have:=e5 j v hj;simp only [fQ, h5] at this;rw [cX];exact this
       rw [<- cX,hs3,Hd (by omega) (by omega) hcg];have hlen:(fJ cs o c).length=cs.length:=lK (by omega);rw [fJ,bS,cH (by simp;omega),bV (by simp only [cJ];omega)];have:off+j - (cur.toList.take off).length=j:=by simp only [cJ];omega
       rw [this];exact hj
      ·have hq:A.sm=some q:=hq;obtain ⟨⟨b2,off2,g1⟩,_⟩:=hR.small r A q hA hq;rw [hv] at g1;cases g1
   ·cases h
  ·cases h
 ·cases h
end
end Go.Am
