/- The abstract machine. -/
import Derived.WalkKit
import Derived.Below
import Derived.Lib.ItoaNum
import Derived.Lib.LaidTab
import Derived.Deep.Quiet
import Derived.OrdersHeld
import Derived.ProofKit
import Derived.Carry
import Derived.HandedShaped
import Derived.Stop.Joined
import Derived.Lib.Repeat
import Derived.Laws.AppendOwn
import Derived.Sort.Row
import Derived.Sort.Grow
import Derived.Lib.Strings
import Derived.Lib.ItoaLen
import Derived.Lib.SplitLaws
import Derived.Lib.Join
import Derived.Stop.LaidErr
set_option linter.unusedVariables false
set_option linter.unusedSimpArgs false
set_option linter.defProp false
open Array renaming getElem?_eq_none->kD,getElem?_toList->eK,length_toList->iB,mapM_eq_mapM_toList->DJ,range->I'
open Bool renaming and_eq_true->aT,not_eq_true'->eZ
open ByteArray renaming empty->aC,size_extract->mW,toList->aB
open Go.Addr renaming add_lit->fX
open Go.Addr.mk renaming injEq->vH
open Go.Builtin renaming append_->iP,firstCells->eQ,lenOf->rU,len_->HI,zeroCells->gS
open Go.Instr renaming alloc->J',box->aH8,build->KP,buildSlice->S3,field->T5,fieldAt->Li,fill->tY,indexAt->Ec,makeSlice->To,slice->q',sliceAt->A5,sliceBounds->Pn,storeAt->Lj,sureAddr->tX
open Go.IntKind renaming bits->oI,max->qI,min->qH,signed->nT,u8->YZ,wrap->mT
open Go.Op renaming bytesLess->bL,eqFields->KR,equalIn->HK,intArith->KO,intBits->Ny,maxDepth->z',stringOp->j'
open Go.Program renaming cellsOf->Tn,fieldsOf->S0
open Go.Result renaming andThen_ok->cJ
open Go.RowKit.Below renaming heap_alloc->nS
open Go.Sem renaming run_bind->dV,run_pure->fP
open Go.Value.slice renaming injEq->kF
open Go.World renaming alloc->K',cell?->iK,cell?_of_block->iM,var?->YX
open List renaming append_assoc->cK,drop_append->AS,drop_append_of_le_length->qJ,drop_drop->pY,drop_left'->Hj,drop_of_length_le->gW,drop_set_of_lt->LX,drop_zero->pZ,eq_nil_of_length_eq_zero->bN,ext_getElem?->yM,flatten_append->pK,flatten_cons->gR,flatten_eq_nil_iff->xE,getElem?_append_left->c6,getElem?_append_right->cY,getElem?_drop->wV,getElem?_eq_getElem->aV,getElem?_eq_some_iff->eH,getElem?_of_mem->iL,getElem?_set_self->HJ,getElem?_take->nU,length->aF,length_append->bS,length_take->fL,map_cons->dY,mem_append->dC,mem_append_left->dE,mem_append_right->dJ,mem_cons->bA,mem_cons_of_mem->aM,mem_cons_self->aR,mem_flatten->kU,mem_map->cW,mem_of_mem_take->iN,mem_singleton->dG,nil_append->fV,nodup_append->lR,nodup_cons->jH,nodup_nil->kE,replicate->aP,replicate_succ->BZ,take_add_one->iC,take_append->AU,take_append_drop->fD,take_left->KN,take_left'->Hi,take_length->nG,take_of_length_le->eA,take_set_of_le->LW,take_take->YY,toArray->rD
open Nat renaming add_assoc->fS,add_mul->fZ,add_sub_cancel_left->lP,add_zero->oJ,beq->cE,ble->pJ,eq_of_beq_eq_true->aZ,le_max_right->SZ,le_mul_of_pos_right->xF,le_refl->aU,le_trans->gI,lt_irrefl->ZK,lt_of_lt_of_le->dZ,lt_or_ge->mS,mul_le_mul_right->cV,one_mul->Dd,sub_self->yL,zero_add->cO,zero_le->aY,zero_mul->kw
open Ne renaming symm->kQ
open Option.some renaming injEq->gQ
open Prod renaming fst->eE
namespace Go.Am
abbrev Γ:=List
abbrev Δ:=ByteArray
theorem ν {c:Prop} {h:Decidable c} (k:¬c) {α:Sort _} {a b:α}:@ite α c h a b=b:=if_neg k
theorem π {c:Prop} {h:Decidable c} (k:c) {α:Sort _} {a b:α}:@ite α c h a b=a:=if_pos k
theorem ε {p:Prop} [Decidable p]:(decide p=true)=p:=decide_eq_true_eq
inductive GK where
 | int (k:IntKind)
 | tab (k:IntKind) (zs:Γ Int)
 | ifc
def aPK:Γ (Nat×GK):=[(0,.int .i64),(1,.ifc),(2,.ifc),(5,.tab .u64 Lib.pow10Tab)]
def aMz:Γ (Nat×GK)->Nat
 | []=>0
 | p::r=>Nat.max (p.1+1) (aMz r)
def GN:Nat:=aMz aPK
def zH(w:World)(g:Nat):GK->Prop
 | .int k=>∃m,w.cell? ⟨g,0,none⟩=some (.int k m)
 | .tab k zs=>∃t fz,w.heap[g]? = some (.cells (zs.map λz=>Value.int k z).toArray t fz)
 | .ifc=>∃t fz u v,w.heap[g]? = some (.cells #[.iface u v] t fz)
def OU(w:World):Γ (Nat×GK)->Prop
 | []=>True
 | p::r=>zH w p.1 p.2/\OU w r
def Eu(w:World):Prop:=OU w aPK
def zH.lt{w:World}{g:Nat}:∀ {k:GK},zH w g k->g<w.heap.size
 | .int k,⟨m,hm⟩=>by
  rcases mS g w.heap.size with h | h
  ·exact h
  ·simp[iK, kD h]at hm
 | .tab k zs,⟨_,_,hm⟩=>by
  rcases mS g w.heap.size with h | h
  ·exact h
  ·rw[kD h]at hm;cases hm
 | .ifc,⟨_,_,_,_,hm⟩=>by
  rcases mS g w.heap.size with h | h
  ·exact h
  ·rw[kD h]at hm;cases hm
theorem zH.keep{w w':World}{g:Nat}(hb:w'.heap[g]? = w.heap[g]?):∀ {k:GK},zH w g k->zH w' g k
 | .int k,⟨m,hm⟩=>⟨m,by simp only[iK]at hm ⊢;rw[hb];exact hm⟩
 | .tab k zs,⟨t,fz,hm⟩=>⟨t,fz,by rw[hb];exact hm⟩
 | .ifc,⟨t,fz,u,v,hm⟩=>⟨t,fz,u,v,by rw[hb];exact hm⟩
theorem OU.keep{w w':World}:∀ {l:Γ (Nat×GK)},OU w l->(∀b,b<aMz l->b<w.heap.size->w'.heap[b]? = w.heap[b]?)->OU w' l
 | [],_,_=>trivial
 | p::r,h,hb=>by
  refine⟨h.1.keep (hb _ ?_ h.1.lt),h.2.keep λb hb'=>hb b ?_⟩
  ·exact dZ (Nat.lt_succ_self _) (Nat.le_max_left _ _)
  ·exact dZ hb' (SZ _ _)
theorem Eu.keep{w w':World}(h:Eu w)(hb:∀b,b<GN->b<w.heap.size->w'.heap[b]? = w.heap[b]?):Eu w':=OU.keep h hb
theorem OU.size{w:World}:∀ {l:Γ (Nat×GK)},OU w l->aMz l<=w.heap.size
 | [],_=>aY _
 | p::r,h=>Nat.max_le.2 ⟨h.1.lt,h.2.size⟩
theorem Eu.size{w:World}(h:Eu w):GN<=w.heap.size:=OU.size h
theorem zH.tab{w:World}{P:Program}{g:Nat}{k:IntKind}{zs:Γ Int}{name:String}(hg:P.globalNamed name=some g)(h:zH w g (.tab k zs)):Lib.TabIs P w name k zs:=by
 obtain⟨t,fz,h⟩:=h;unfold Lib.TabIs YX;rw[hg];show (match w.heap[g]? with | some (.cells cs _ _)=>some cs | _=>none)=_;rw[h]
def zH.ofTab{w:World}{P:Program}{g:Nat}{k:IntKind}{zs:Γ Int}{name:String}(hg:P.globalNamed name=some g)(h:Lib.TabIs P w name k zs):zH w g (.tab k zs):=by
 unfold Lib.TabIs YX at h;rw[hg]at h;have h:(match w.heap[g]? with | some (.cells cs _ _)=>some cs | _=>none)=some (zs.map λz=>Value.int k z).toArray:=h;split at h
 ·rename_i cs t fz he;cases h;exact⟨t,fz,he⟩
 ·cases h
structure Ym (w:World) (O:Γ Nat):Prop where
 inv:Eu w
 size:GN<=w.heap.size
 out:∀b∈O,GN<=b
end Go.Am
namespace Go.Am
open Go.RowKit (Below)
inductive Ty where
 | int (k:IntKind) | bool | fn | str | sl (e:Ty) | unit | cons (a b:Ty)
 deriving DecidableEq
@[reducible] def Ty.den:Ty->Type
 | .int _=>Int
 | .bool=>Bool
 | .fn=>Option Nat
 | .str=>Δ
 | .sl e=>Γ e.den
 | .unit=>Unit
 | .cons a b=>a.den×b.den
def Ty.dflt:(t:Ty)->t.den
 | .int _=>(0:Int)
 | .bool=>false
 | .fn=>(none:Option Nat)
 | .str=>aC
 | .sl _=>[]
 | .unit=>()
 | .cons a b=>(a.dflt,b.dflt)
def Ty.size:Ty->Nat
 | .unit=>0
 | .cons a b=>a.size+b.size
 | _=>1
def Ty.flat:Ty->Bool
 | .sl _=>false
 | .cons a b=>a.flat&&b.flat
 | _=>true
def fnV:Option Nat->Value
 | none => .nilFunc
 | some f => .func (.func f) #[] #[]
theorem Tw(f:Option Nat):(fnV f).oneCell'=true:=by cases f <;> rfl
def aX(k:IntKind)(n:Int):Prop:=k.min<=n/\n<=k.max
def Wf:(t:Ty)->t.den->Prop
 | .int k,n=>aX k n
 | .bool,_=>True
 | .fn,_=>True
 | .str,s=>s.size<=maxLen
 | .sl e,xs=>xs.length<=maxLen/\∀x∈xs,Wf e x
 | .unit,_=>True
 | .cons a b,x=>Wf a x.1/\Wf b x.2
variable {α:Type}
def oA(w:World)(G:Nat->Prop)(R:α->Γ Value->Prop)(sz:Nat)(xs:Γ α)(v:Value):Prop :=
  xs.length<=maxLen /\ ((∃ad, v = .slice ad 0 0 /\ xs = []) \/
   ∃b off cap, v = .slice (some ⟨b, off, none⟩) xs.length cap /\ xs.length<=cap /\ cap<=maxLen /\ G b /\
     ∀i x, xs[i]? = some x -> ∃cs, cs.length = sz /\ (∀j c, cs[j]? = some c->w.cell? ⟨b, off+i*sz+j, none⟩ = some c) /\ R x cs)
def fI(w:World)(G:Nat->Prop):(t:Ty)->t.den->Γ Value->Prop
 | .int k,n,cs=>cs=[.int k n]/\aX k n
 | .bool,b,cs=>cs=[.bool b]
 | .fn,f,cs=>cs=[fnV f]
 | .str,s,cs=>cs=[.string s]/\s.size<=maxLen
 | .sl e,xs,cs=>∃v,cs=[v]/\oA w G (fI w G e) e.size xs v
 | .unit,_,cs=>cs=[]
 | .cons a b,x,cs=>∃c1 c2,cs=c1++c2/\fI w G a x.1 c1/\fI w G b x.2 c2
def aHJ(fz:Nat×Nat)(n:Nat):Prop:=∀j,j<n->¬(fz.1<=j/\j<fz.2)
def OV(sz:Nat)(fz:Nat×Nat)(n:Nat):Prop:=aHJ fz n/\(sz=1\/aHJ fz (n+1))
def Aa(w:World)(R:α->Γ Value->Γ Nat->Prop)(sz:Nat)(xs:Γ α)(v:Value)(bs:Γ Nat):Prop :=
  xs.length<=maxLen /\ ((∃ad, v = .slice ad 0 0 /\ xs = [] /\ bs = []) \/
   ∃(b off cap:Nat) (cur:Array Value) (ty:TypeId) (fz:Nat × Nat) (bss:Γ (Γ Nat)), v = .slice (some ⟨b, off, none⟩) xs.length cap /\ xs.length<=cap /\ cap<=maxLen /\ off+cap*sz<=cur.size /\
     w.heap[b]? = some (.cells cur ty fz) /\ OV sz fz cur.size /\ bss.length = xs.length /\ bs = b::bss.flatten /\
     ∀i x bi, xs[i]? = some x->bss[i]? = some bi -> ∃cs, cs.length = sz /\ (∀j c, cs[j]? = some c->cur[off+i*sz+j]? = some c) /\ R x cs bi)
def iH(w:World):(t:Ty)->t.den->Γ Value->Γ Nat->Prop
 | .int k,n,cs,bs=>cs=[.int k n]/\aX k n/\bs=[]
 | .bool,b,cs,bs=>cs=[.bool b]/\bs=[]
 | .fn,f,cs,bs=>cs=[fnV f]/\bs=[]
 | .str,s,cs,bs=>cs=[.string s]/\s.size<=maxLen/\bs=[]
 | .sl e,xs,cs,bs=>∃v,cs=[v]/\Aa w (iH w e) e.size xs v bs
 | .unit,_,cs,bs=>cs=[]/\bs=[]
 | .cons a b,x,cs,bs=>∃c1 c2 b1 b2,cs=c1++c2/\bs=b1++b2/\iH w a x.1 c1 b1/\iH w b x.2 c2 b2
theorem fI.length{w:World}{G:Nat->Prop}:∀ {t:Ty} {x:t.den} {cs:Γ Value},fI w G t x cs->cs.length=t.size
 | .int _,_,_,h=>by rw[h.1];rfl
 | .bool,_,_,h=>by rw[h];rfl
 | .fn,_,_,h=>by rw[h];rfl
 | .str,_,_,h=>by rw[h.1];rfl
 | .sl _,_,_,⟨_,h,_⟩=>by rw[h];rfl
 | .unit,_,_,h=>by rw[h];rfl
 | .cons _ _,_,_,⟨_,_,h,h1,h2⟩=>by rw[h,bS,h1.length,h2.length];rfl
theorem iH.length{w:World}:∀ {t:Ty} {x:t.den} {cs:Γ Value} {bs:Γ Nat},iH w t x cs bs->cs.length=t.size
 | .int _,_,_,_,h=>by rw[h.1];rfl
 | .bool,_,_,_,h=>by rw[h.1];rfl
 | .fn,_,_,_,h=>by rw[h.1];rfl
 | .str,_,_,_,h=>by rw[h.1];rfl
 | .sl _,_,_,_,⟨_,h,_⟩=>by rw[h];rfl
 | .unit,_,_,_,h=>by rw[h.1];rfl
 | .cons _ _,_,_,_,⟨_,_,_,_,h,_,h1,h2⟩=>by rw[h,bS,h1.length,h2.length];rfl
variable {v:Value}
theorem dw{w:World}{G:Nat->Prop}{e:Ty}{xs:Γ e.den}(ih:∀x cs,fI w G e x cs->Wf e x)(h:oA w G (fI w G e) e.size xs v):Wf (.sl e) xs:=by
 refine⟨h.1,λx hx=>?_⟩;rcases h.2 with ⟨_,_,rfl⟩ | ⟨b,off,cap,_,_,_,_,hr⟩
 ·cases hx
 ·obtain⟨i,hi⟩:=iL hx;obtain⟨cs,_,_,h⟩:=hr i x hi;exact ih x cs h
theorem fI.wf{w:World}{G:Nat->Prop}:∀ {t:Ty} {x:t.den} {cs:Γ Value},fI w G t x cs->Wf t x
 | .int _,_,_,h=>h.2
 | .bool,_,_,_=>trivial
 | .fn,_,_,_=>trivial
 | .str,_,_,h=>h.2
 | .sl _,_,_,⟨_,_,h⟩=>dw (λ_ _=>fI.wf) h
 | .unit,_,_,_=>trivial
 | .cons _ _,_,_,⟨_,_,_,h1,h2⟩=>⟨h1.wf,h2.wf⟩
theorem tn{w:World}{e:Ty}{xs:Γ e.den}{bs:Γ Nat}(ih:∀x cs bs,iH w e x cs bs->Wf e x)(h:Aa w (iH w e) e.size xs v bs):Wf (.sl e) xs:=by
 refine⟨h.1,λx hx=>?_⟩;rcases h.2 with ⟨_,_,rfl,_⟩ | ⟨b,off,cap,cur,ty,fz,bss,_,_,_,_,_,_,hl,_,hr⟩
 ·cases hx
 ·obtain⟨i,hi⟩:=iL hx;have hlt:i<bss.length:=by rw[hl];exact(eH.1 hi).1
  obtain⟨cs,_,_,h⟩:=hr i x _ hi (aV hlt);exact ih x cs _ h
theorem iH.wf{w:World}:∀ {t:Ty} {x:t.den} {cs:Γ Value} {bs:Γ Nat},iH w t x cs bs->Wf t x
 | .int _,_,_,_,h=>h.2.1
 | .bool,_,_,_,_=>trivial
 | .fn,_,_,_,_=>trivial
 | .str,_,_,_,h=>h.2.1
 | .sl _,_,_,_,⟨_,_,h⟩=>tn (λ_ _ _=>iH.wf) h
 | .unit,_,_,_,_=>trivial
 | .cons _ _,_,_,_,⟨_,_,_,_,_,_,h1,h2⟩=>⟨h1.wf,h2.wf⟩
theorem oA.keep{w w':World}{G G':Nat->Prop}{R R':α->Γ Value->Prop}{sz:Nat}{xs:Γ α}
  (hR:∀x cs,R x cs->R' x cs) (hG:∀b,G b->G' b) (hw:∀b,G b->w'.heap[b]? = w.heap[b]?) (h:oA w G R sz xs v):oA w' G' R' sz xs v:=by
 refine⟨h.1,?_⟩;rcases h.2 with h | ⟨b,off,cap,h1,h2,h3,h4,h5⟩
 ·exact .inl h
 ·refine .inr ⟨b,off,cap,h1,h2,h3,hG b h4,λi x hx=>?_⟩;obtain⟨cs,hl,hc,hr⟩:=h5 i x hx;exact⟨cs,hl,λj c hj=>by rw[iM (w:=w) (hw b h4)];exact hc j c hj,hR _ _ hr⟩
theorem fI.keep{w w':World}{G G':Nat->Prop}(hG:∀b,G b->G' b)(hw:∀b,G b->w'.heap[b]? = w.heap[b]?):∀ {t:Ty} {x:t.den} {cs:Γ Value},fI w G t x cs->fI w' G' t x cs
 | .int _,_,_,h=>h
 | .bool,_,_,h=>h
 | .fn,_,_,h=>h
 | .str,_,_,h=>h
 | .sl _,_,_,⟨v,h,h2⟩=>⟨v,h,h2.keep (λ_ _=>fI.keep hG hw) hG hw⟩
 | .unit,_,_,h=>h
 | .cons _ _,_,_,⟨c1,c2,h,h1,h2⟩=>⟨c1,c2,h,h1.keep hG hw,h2.keep hG hw⟩
def qM{bss:Γ (Γ Nat)}{i:Nat}{bi:Γ Nat}(h:bss[i]? = some bi):∀b∈bi,b∈bss.flatten :=
 λb hb=>kU.2 ⟨bi,List.mem_of_getElem? h,hb⟩
theorem Aa.keep{w w':World}{R R':α->Γ Value->Γ Nat->Prop}{sz:Nat}{xs:Γ α}{bs:Γ Nat}
  (hR:∀x cs bi,(∀b∈bi,b∈bs)->R x cs bi->R' x cs bi) (hw:∀b∈bs,w'.heap[b]? = w.heap[b]?) (h:Aa w R sz xs v bs):Aa w' R' sz xs v bs:=by
 refine⟨h.1,?_⟩;rcases h.2 with h | ⟨b,off,cap,cur,ty,fz,bss,h1,h2,h3,h4,h5,h6,h7,h8,h9⟩
 ·exact .inl h
 ·refine .inr ⟨b,off,cap,cur,ty,fz,bss,h1,h2,h3,h4,by rw[hw b (by rw[h8];exact aR ..)];exact h5,h6,h7,h8,λi x bi hx hb=>?_⟩;obtain⟨cs,hl,hc,hr⟩:=h9 i x bi hx hb;exact⟨cs,hl,hc,hR _ _ _ (λb hb'=>by rw[h8];exact aM _ (qM hb b hb')) hr⟩
theorem iH.keep{w w':World}:∀ {t:Ty} {x:t.den} {cs:Γ Value} {bs:Γ Nat},(∀b∈bs,w'.heap[b]? = w.heap[b]?)->iH w t x cs bs->iH w' t x cs bs
 | .int _,_,_,_,_,h=>h
 | .bool,_,_,_,_,h=>h
 | .fn,_,_,_,_,h=>h
 | .str,_,_,_,_,h=>h
 | .sl _,_,_,_,hw,⟨v,h,h2⟩=>⟨v,h,h2.keep (λ_ _ _ hs=>iH.keep (λb hb=>hw b (hs b hb))) hw⟩
 | .unit,_,_,_,_,h=>h
 | .cons _ _,_,_,_,hw,⟨c1,c2,b1,b2,h,hb,h1,h2⟩ =>
  ⟨c1,c2,b1,b2,h,hb,h1.keep (λb hb'=>hw b (by rw[hb];exact dE _ hb')),h2.keep (λb hb'=>hw b (by rw[hb];exact dJ _ hb'))⟩
theorem fI.flat{w w':World}{G G':Nat->Prop}:∀ {t:Ty} {x:t.den} {cs:Γ Value},t.flat=true->fI w G t x cs->fI w' G' t x cs
 | .int _,_,_,_,h=>h
 | .bool,_,_,_,h=>h
 | .fn,_,_,_,h=>h
 | .str,_,_,_,h=>h
 | .unit,_,_,_,h=>h
 | .cons _ _,_,_,hf,⟨c1,c2,h,h1,h2⟩=>by
  simp only[Ty.flat,aT]at hf;exact⟨c1,c2,h,h1.flat hf.1,h2.flat hf.2⟩
theorem iH.flat{w:World}{G:Nat->Prop}{w':World}:∀ {t:Ty} {x:t.den} {cs:Γ Value} {bs:Γ Nat},t.flat=true->iH w t x cs bs->fI w' G t x cs/\bs=[]
 | .int _,_,_,_,_,h=>⟨⟨h.1,h.2.1⟩,h.2.2⟩
 | .bool,_,_,_,_,h=>h
 | .fn,_,_,_,_,h=>h
 | .str,_,_,_,_,h=>⟨⟨h.1,h.2.1⟩,h.2.2⟩
 | .unit,_,_,_,_,h=>h
 | .cons _ _,_,_,_,hf,⟨c1,c2,b1,b2,h,hb,h1,h2⟩=>by
  simp only[Ty.flat,aT]at hf;obtain⟨a1,e1⟩:=h1.flat (w':=w') (G:=G) hf.1;obtain⟨a2,e2⟩:=h2.flat (w':=w') (G:=G) hf.2;exact⟨⟨c1,c2,h,a1,a2⟩,by rw[hb,e1,e2];rfl⟩
theorem fI.own{w w':World}{G:Nat->Prop}:∀ {t:Ty} {x:t.den} {cs:Γ Value},t.flat=true->fI w G t x cs->iH w' t x cs []
 | .int _,_,_,_,h=>⟨h.1,h.2,rfl⟩
 | .bool,_,_,_,h=>⟨h,rfl⟩
 | .fn,_,_,_,h=>⟨h,rfl⟩
 | .str,_,_,_,h=>⟨h.1,h.2,rfl⟩
 | .unit,_,_,_,h=>⟨h,rfl⟩
 | .cons _ _,_,_,hf,⟨c1,c2,h,h1,h2⟩=>by
  simp only[Ty.flat,aT]at hf;exact⟨c1,c2,[],[],h,rfl,h1.own hf.1,h2.own hf.2⟩
theorem Aa.read{w:World}{G:Nat->Prop}{R:α->Γ Value->Γ Nat->Prop}{R':α->Γ Value->Prop}{sz:Nat}{xs:Γ α}{bs:Γ Nat}
  (hR:∀x cs bi,(∀b∈bi,b∈bs)->R x cs bi->R' x cs) (hG:∀b∈bs,G b) (h:Aa w R sz xs v bs):oA w G R' sz xs v:=by
 refine⟨h.1,?_⟩;rcases h.2 with ⟨ad,h1,h2,_⟩ | ⟨b,off,cap,cur,ty,fz,bss,h1,h2,h3,h4,h5,h6,h7,h8,h9⟩
 ·exact .inl ⟨ad,h1,h2⟩
 ·refine .inr ⟨b,off,cap,h1,h2,h3,hG b (by rw[h8];exact aR ..),λi x hx=>?_⟩;have hlt:i<bss.length:=by rw[h7];exact(eH.1 hx).1
  obtain⟨cs,hl,hc,hr⟩:=h9 i x _ hx (aV hlt);refine⟨cs,hl,λj c hj=>?_,hR _ _ _ (λb hb'=>by rw[h8];exact aM _ (qM (aV hlt) b hb')) hr⟩;simp only[iK, h5];exact hc j c hj
theorem iH.read{w:World}{G:Nat->Prop}:∀ {t:Ty} {x:t.den} {cs:Γ Value} {bs:Γ Nat},(∀b∈bs,G b)->iH w t x cs bs->fI w G t x cs
 | .int _,_,_,_,_,h=>⟨h.1,h.2.1⟩
 | .bool,_,_,_,_,h=>h.1
 | .fn,_,_,_,_,h=>h.1
 | .str,_,_,_,_,h=>⟨h.1,h.2.1⟩
 | .sl _,_,_,_,hG,⟨v,h,h2⟩=>⟨v,h,h2.read (λ_ _ _ hs=>iH.read (λb hb=>hG b (hs b hb))) hG⟩
 | .unit,_,_,_,_,h=>h.1
 | .cons _ _,_,_,_,hG,⟨c1,c2,b1,b2,h,hb,h1,h2⟩ =>
  ⟨c1,c2,h,h1.read (λb hb'=>hG b (by rw[hb];exact dE _ hb')),h2.read (λb hb'=>hG b (by rw[hb];exact dJ _ hb'))⟩
theorem iH.lt{w:World}:∀ {t:Ty} {x:t.den} {cs:Γ Value} {bs:Γ Nat},iH w t x cs bs->∀b∈bs,b<w.heap.size
 | .int _,_,_,_,h,b,hb=>by rw[h.2.2]at hb;cases hb
 | .bool,_,_,_,h,b,hb=>by rw[h.2]at hb;cases hb
 | .fn,_,_,_,h,b,hb=>by rw[h.2]at hb;cases hb
 | .str,_,_,_,h,b,hb=>by rw[h.2.2]at hb;cases hb
 | .unit,_,_,_,h,b,hb=>by rw[h.2]at hb;cases hb
 | .sl e,xs,_,bs,⟨v,_,h⟩,b,hb=>by
  rcases h.2 with ⟨_,_,_,h⟩ | ⟨b',off,cap,cur,ty,fz,bss,h1,h2,h3,h4,h5,h6,h7,h8,h9⟩
  ·rw[h]at hb;cases hb
  ·rw[h8]at hb;rcases bA.1 hb with rfl | hb
   ·rcases mS b w.heap.size with hlt | hge
    ·exact hlt
    ·rw[kD hge]at h5;cases h5
   ·obtain⟨bi,hm,hbi⟩:=kU.1 hb;obtain⟨i,hi⟩:=iL hm;have hlt:i<xs.length:=by rw[<- h7];exact(eH.1 hi).1
    obtain⟨cs,_,_,hr⟩:=h9 i _ bi (aV hlt) hi;exact iH.lt hr b hbi
 | .cons _ _,_,_,_,⟨c1,c2,b1,b2,_,hb',h1,h2⟩,b,hb=>by
  rw[hb']at hb;rcases dC.1 hb with hb | hb
  ·exact h1.lt b hb
  ·exact h2.lt b hb
end Go.Am
namespace Go.Am
structure aS where
 t:Ty
 x:t.den
inductive gB where
 | val (v:Value)
 | sl (t:Ty) (xs:Γ t.den)
 | osl (r:Nat) (rg:Option (Nat×Nat))
 | junk
inductive c7 where
 | val (v:Value)
 | sl (t:Ty) (xs:Γ t.den)
 | ptr (t:Ty) (x:t.den)
 | st (t:Ty) (x:t.den)
 | osl (r:Nat) (rg:Option (Nat×Nat))
 | optr (r i:Nat) (p:Γ Nat)
 | rcd (t:Ty) (ls:Γ gB)
 | bptr (r o:Nat) (t:Ty)
 | junk
inductive PV where
 | a (x:c7)
 | tup (xs:Γ c7)
 | fn (f:FuncId) (caps:Γ c7)
structure iE where
 t:Ty
 xs:Γ t.den
 bor:Bool:=false
 ls:Option (Γ gB):=none
 sm:Option Bool:=none
structure jD where
 t:Ty
 xs:Γ t.den
abbrev gH:=Γ (Nat×PV)
abbrev bM:=Γ (Option iE)
def gH.get:gH->Nat->PV
 | [],_ => .a .junk
 | (j,p)::r,i=>cond (cE j i) p (gH.get r i)
def gH.set(E:gH)(i:Nat)(p:PV):gH:=(i,p)::E.filter λq => !(cE q.1 i)
def bZ:bM->Nat->Option iE
 | [],_=>none
 | a::_,0=>a
 | _::l,n+1=>bZ l n
def jT:bM->Nat->Option iE->bM
 | [],_,_=>[]
 | _::l,0,a=>a::l
 | b::l,n+1,a=>b::jT l n a
theorem zI{i j:Nat}(h:¬i=j):cE i j=false:=Bool.eq_false_iff.2 λhb=>h (aZ hb)
theorem gH.get_set(E:gH)(i j:Nat)(p:PV):(E.set i p).get j=if i=j then p else E.get j:=by
 unfold gH.set;simp only[gH.get];by_cases h:i=j
 ·simp_all
 ·rw[ν h];have hb:cE i j=false:=zI h;rw[hb]
  induction E with
  | nil=>rfl
  | cons q r ih =>
   obtain⟨k,u⟩:=q;by_cases hk:k=i
   ·have:cE k k=true:=by simp
    simp[List.filter_cons,gH.get]
    lia
   ·have:cE k i=false:=zI hk;simp[this,gH.get]
    lia
theorem Zc(L:bM)(r s:Nat)(a:Option iE):bZ (jT L r a) s=if r=s/\r<L.length then a else bZ L s:=by
 induction L generalizing r s with
 | nil=>simp[jT]
 | cons b l ih =>
  cases r with
  | zero=>cases s with
   | zero=>rfl
   | succ s=>rfl
  | succ r=>cases s with
   | zero=>rfl
   | succ s=>simp[jT,bZ,ih]
theorem xL{L:bM}{r:Nat}{A:iE}(h:bZ L r=some A):r<L.length:=by
 induction L generalizing r with
 | nil=>cases h
 | cons b l ih=>cases r with
  | zero=>simp
  | succ r=>grind [bZ]
theorem nC(L M:bM)(r:Nat):bZ (L++M) r=if r<L.length then bZ L r else bZ M (r-L.length):=by
 induction L generalizing r with
 | nil=>rfl
 | cons b l ih=>cases r with
  | zero=>rfl
  | succ r=>simp[bZ,ih]
structure dD (O:Γ Nat) (w w':World):Prop where
 os:w'.os=w.os
 tape:w'.tape=w.tape
 output:w'.output=w.output
 size:w.heap.size<=w'.heap.size
 block:∀k,k<w.heap.size->k ∉ O->w'.heap[k]? = w.heap[k]?
theorem dD.refl(O:Γ Nat)(w:World):dD O w w:=⟨rfl,rfl,rfl,aU _,λ_ _ _=>rfl⟩
theorem dD.trans{O:Γ Nat}{a b c:World}(h:dD O a b)(k:dD O b c):dD O a c :=
 ⟨k.os.trans h.os,k.tape.trans h.tape,k.output.trans h.output,gI h.size k.size,λi hi ho=>(k.block i (dZ hi h.size) ho).trans (h.block i hi ho)⟩
theorem dD.mono{O O':Γ Nat}{a b:World}(h:dD O a b)(hO:∀k∈O,k∈O'):dD O' a b :=
 ⟨h.os,h.tape,h.output,h.size,λi hi ho=>h.block i hi λhk=>ho (hO i hk)⟩
def dD.of_nil{O:Γ Nat}{a b:World}(h:dD [] a b):dD O a b:=h.mono (λ_ h=>by grind)
theorem dD.drew{O:Γ Nat}{a w:World}(h:dD O a w):dD O a w.drew:=⟨h.os,h.tape,h.output,h.size,h.block⟩
def dD.below{a b:World}(h:dD [] a b):Go.RowKit.Below a.heap.size a b:=⟨h.os,h.tape,h.output,h.size,λk hk=>h.block k hk (by simp)⟩
def dD.of_below{a b:World}(h:Go.RowKit.Below a.heap.size a b):dD [] a b:=⟨h.os,h.tape,h.output,h.size,λk hk _=>h.block k hk⟩
theorem dD.alloc{O:Γ Nat}{a w:World}(h:dD O a w)(o:Obj):dD O a (w.alloc o) :=
 h.trans ⟨rfl,rfl,rfl,by simp,λk hk _=>nS _ _ _ hk⟩
def Good(w0:World)(O:Γ Nat)(b:Nat):Prop:=b<w0.heap.size/\b ∉ O
theorem dD.good{O:Γ Nat}{w0 w:World}(h:dD O w0 w):∀b,Good w0 O b->w.heap[b]? = w0.heap[b]? := λb hb=>h.block b hb.1 hb.2
def OR:Value->Prop
 | .int k n=>aX k n
 | .string s=>s.size<=maxLen
 | .slice none n c=>n=0/\c=0
 | _=>True
def aAU(f:Option Nat):OR (fnV f):=by cases f <;> trivial
def aFy:(t:Ty)->t.den->Nat->Option aS
 | .cons a _,x,0=>some ⟨a,x.1⟩
 | .cons _ b,x,n+1=>aFy b x.2 n
 | _,_,_=>none
def OW:Γ Nat->aS->Option aS
 | [],d=>some d
 | f::p,d=>match aFy d.t d.x f with
  | some d'=>OW p d'
  | none=>none
def kT:Ty->Nat->Option (Nat×Ty)
 | .cons a _,0=>some (0,a)
 | .cons a b,n+1=>match kT b n with
  | some (o,t)=>some (a.size+o,t)
  | none=>none
 | _,_=>none
def kY:Γ Nat->Ty->Option (Nat×Ty)
 | [],t=>some (0,t)
 | f::p,t=>match kT t f with
  | some (o,t')=>match kY p t' with
   | some (o',t'')=>some (o+o',t'')
   | none=>none
  | none=>none
def Yn:(t:Ty)->t.den->Γ Nat->aS->Option t.den
 | t,_,[],d=>if h:d.t=t then some (h ▸ d.x)else none
 | .cons a b,x,0::p,d=>match Yn a x.1 p d with
  | some y=>some (y,x.2)
  | none=>none
 | .cons a b,x,(n+1)::p,d=>match Yn b x.2 (n::p) d with
  | some y=>some (x.1,y)
  | none=>none
 | _,_,_,_=>none
def jY:(t:Ty)->t.den->c7
 | .int k,n => .val (.int k n)
 | .bool,b => .val (.bool b)
 | .fn,f => .val (fnV f)
 | .str,s => .val (.string s)
 | .sl e,xs => .sl e xs
 | .unit,x => .st .unit x
 | .cons a b,x => .st (.cons a b) x
def aS.atom(d:aS):c7:=jY d.t d.x
def zJ:Option (Nat×Nat)->Nat
 | some (lo,_)=>lo
 | none=>0
def Ht(n:Nat):Option (Nat×Nat)->Nat
 | some (_,hi)=>hi
 | none=>n
def aDw(sz n:Nat)(V:Value)(lo hi:Nat)(v:Value):Prop :=
 lo<=hi/\hi<=n/\((∃ad ad',V = .slice ad 0 0/\v = .slice ad' 0 0/\n=0/\ad'=ad) \/
  ∃b off m cap o c,V = .slice (some ⟨b,off,none⟩) m cap/\v = .slice (some ⟨b,o,none⟩) (hi-lo) c/\hi-lo<=c/\((o=off+lo*sz/\lo+c<=cap)\/(c=0/\o<=off+cap*sz)))
def aZK(t:Ty)(n:Nat)(V:Value)(i:Nat)(p:Γ Nat)(v:Value):Prop :=
 i<n/\∃b off m cap po t',V = .slice (some ⟨b,off,none⟩) m cap/\kY p t=some (po,t')/\v = .pointer (some ⟨b,off+i*t.size+po,none⟩)
def kZ(w:World)(b off:Nat)(cs:Γ Value):Prop:=∀j c,cs[j]? = some c->w.cell? ⟨b,off+j,none⟩=some c
def IG(w:World)(G:Nat->Prop)(t:Ty)(x:t.den)(v:Value):Prop :=
 ∃b off cs,v = .pointer (some ⟨b,off,none⟩)/\G b/\kZ w b off cs/\fI w G t x cs
def yZ(w:World)(G:Nat->Prop):c7->Value->Prop
 | .val u,v=>v=u/\OR u
 | .sl t xs,v=>oA w G (fI w G t) t.size xs v
 | .ptr t x,v=>IG w G t x v
 | .st t x,v=>∃cs,v = .agg cs.toArray/\fI w G t x cs
 | .junk,_=>True
 | _,_=>False
def QW(L:bM)(V:Nat->Value)(r:Nat)(rg:Option (Nat×Nat))(v:Value):Prop :=
 ∃A,bZ L r=some A/\(rg=none->v=V r)/\aDw A.t.size A.xs.length (V r) (zJ rg) (Ht A.xs.length rg) v
def U3(w0:World)(G:Nat->Prop)(L:bM)(V:Nat->Value):gB->Value->Prop
 | .val u,v=>v=u/\OR u/\u.oneCell'=true
 | .sl t xs,v=>oA w0 G (fI w0 G t) t.size xs v
 | .osl r rg,v=>QW L V r rg v
 | .junk,v=>v.oneCell'=true
def iG(w0:World)(G:Nat->Prop)(L:bM)(V:Nat->Value):Γ gB->Γ Value->Prop
 | [],vs=>vs=[]
 | x::xs,vs=>∃v r,vs=v::r/\U3 w0 G L V x v/\iG w0 G L V xs r
def nE(w0:World)(G:Nat->Prop)(L:bM)(V:Nat->Value):c7->Value->Prop
 | .osl r rg,v=>QW L V r rg v
 | .optr r i p,v=>∃A,bZ L r=some A/\aZK A.t A.xs.length (V r) i p v
 | .rcd t ls,v=>∃cs,v = .agg cs.toArray/\ls.length=t.size/\iG w0 G L V ls cs
 | .bptr r o t,v=>∃A ls b off,bZ L r=some A/\A.ls=some ls/\V r = .slice (some ⟨b,off,none⟩) 0 1/\v = .pointer (some ⟨b,off+o,none⟩)/\o+t.size<=A.t.size
 | x,v=>yZ w0 G x v
def uS(w0:World)(G:Nat->Prop)(L:bM)(V:Nat->Value):Γ c7->Γ Value->Prop
 | [],vs=>vs=[]
 | x::xs,vs=>∃v r,vs=v::r/\nE w0 G L V x v/\uS w0 G L V xs r
def mK(w0:World)(G:Nat->Prop)(L:bM)(V:Nat->Value):PV->Value->Prop
 | .a x,v=>nE w0 G L V x v
 | .tup xs,v=>∃vs,v = .tuple vs.toArray/\uS w0 G L V xs vs
 | .fn f caps,v=>∃vs,v = .func (.func f) #[] vs.toArray/\uS w0 G L V caps vs
def pO(w0:World)(G:Nat->Prop)(w:World)(t:Ty)(bor:Bool)(x:t.den)(cs:Γ Value)(bi:Γ Nat):Prop :=
 match bor with
 | true=>fI w0 G t x cs/\bi=[]
 | false=>iH w t x cs bi
def iI(w0:World)(G:Nat->Prop)(w:World)(A:iE)(v:Value)(bs:Γ Nat):Prop:=Aa w (pO w0 G w A.t A.bor) A.t.size A.xs v bs
def Zd{w0 w w1 w':World}{G G':Nat->Prop}{t:Ty}{bor:Bool}{x:t.den}{cs:Γ Value}{bi:Γ Nat}(hG:∀b,G b->G' b)(h0:∀b,G b->w1.heap[b]? = w0.heap[b]?)(hw:∀b∈bi,w'.heap[b]? = w.heap[b]?)(h:pO w0 G w t bor x cs bi):pO w1 G' w' t bor x cs bi:=by
 revert h;unfold pO;cases bor with
 | true=>exact λh=>⟨h.1.keep hG h0,h.2⟩
 | false=>grind [iH.keep]
variable {v:Value} {bs:Γ Nat}
def iI.keepG{w0 w w1 w':World}{G G':Nat->Prop}{A:iE}(hG:∀b,G b->G' b)(h0:∀b,G b->w1.heap[b]? = w0.heap[b]?)(hw:∀b∈bs,w'.heap[b]? = w.heap[b]?)(h:iI w0 G w A v bs):iI w1 G' w' A v bs :=
 Aa.keep (λx cs bi hs hr=>Zd hG h0 (λb hb=>hw b (hs b hb)) hr) hw h
theorem iI.keep{w0 w w':World}{G:Nat->Prop}{A:iE}(hw:∀b∈bs,w'.heap[b]? = w.heap[b]?)(h:iI w0 G w A v bs):iI w0 G w' A v bs :=
 h.keepG (λ_ h=>h) (λ_ _=>rfl) hw
theorem iI.lt{w0 w:World}{G:Nat->Prop}{A:iE}{v:Value}{bs:Γ Nat}(h:iI w0 G w A v bs):∀b∈bs,b<w.heap.size:=by
 intro b hb;rcases h.2 with ⟨_,_,_,h⟩ | ⟨b',off,cap,cur,ty,fz,bss,h1,h2,h3,h4,h5,h6,h7,h8,h9⟩
 ·grind
 ·rw[h8]at hb;rcases bA.1 hb with rfl | hb
  ·grind
  ·obtain⟨bi,hm,hbi⟩:=kU.1 hb;obtain⟨i,hi⟩:=iL hm;have hlt:i<A.xs.length:=by grind
   obtain⟨cs,_,_,hr⟩:=h9 i _ bi (aV hlt) hi;unfold pO at hr;cases hbor:A.bor with
   | true=>grind
   | false=>rw[hbor]at hr;exact hr.lt b hbi
theorem iI.len{w0 w:World}{G:Nat->Prop}{A:iE}(h:iI w0 G w A v bs):A.xs.length<=maxLen:=h.1
theorem iI.wf{w0 w:World}{G:Nat->Prop}{A:iE}{v:Value}{bs:Γ Nat}(h:iI w0 G w A v bs):Wf (.sl A.t) A.xs:=by
 refine⟨h.1,λx hx=>?_⟩;rcases h.2 with ⟨_,_,h,_⟩ | ⟨b,off,cap,cur,ty,fz,bss,_,_,_,_,_,_,hl,_,hr⟩
 ·grind
 ·obtain⟨i,hi⟩:=iL hx;have hlt:i<bss.length:=by grind
  obtain⟨cs,_,_,h⟩:=hr i x _ hi (aV hlt);cases hbor:A.bor with
  | true=>rw[hbor]at h;exact h.1.wf
  | false=>rw[hbor]at h;exact h.wf
def iI.own{w0 w:World}{G:Nat->Prop}{t:Ty}{xs:Γ t.den}{ls:Option (Γ gB)}{sm:Option Bool}:iI w0 G w ⟨t,xs,false,ls,sm⟩ v bs↔iH w (.sl t) xs [v] bs :=
 ⟨λh=>⟨v,rfl,h⟩,λ⟨v',hv,h⟩=>by cases hv;exact h⟩
def Dk(w0:World)(G:Nat->Prop)(w:World)(L:bM)(V:Nat->Value)(t:Ty)(ls:Γ gB)(v:Value):Prop :=
 ∃b off cs,v = .slice (some ⟨b,off,none⟩) 0 1/\cs.length=t.size/\ls.length=t.size/\kZ w b off cs/\iG w0 G L V ls cs
structure fG where
 w0:World
 O:Γ Nat
 G0:Nat->Prop
 Ga:Nat->Prop
def Out(K:fG)(G:Nat->Prop)(b:Nat):Prop:=¬Good K.w0 K.O b/\¬G b
structure bQ (n:Nat) (K:fG) (w0:World) (G:Nat->Prop) (w:World) (a:Act) (E:gH) (L:bM) (V:Nat->Value) (own:Nat->Γ Nat):Prop where
 glob:Ym K.w0 K.O
 kept:dD K.O K.w0 w
 size:a.tmps.size=n
 defers:a.defers=[]
 glt:∀b,G b->b<w.heap.size
 gref:∀b,G b->w.heap[b]? = w0.heap[b]?
 gsub:∀b,K.G0 b->G b
 gold:∀b,K.G0 b->Good K.w0 K.O b
 gup:∀b,G b->K.Ga b\/¬Good K.w0 K.O b
 heap:∀r A,bZ L r=some A->iI w0 G w A (V r) (own r)
 good:∀r A,bZ L r=some A->∀b∈own r,Out K G b
 nodup:∀r A,bZ L r=some A->(own r).Nodup
 apart:∀r s A B,bZ L r=some A->bZ L s=some B->r≠s->∀b∈own r,b ∉ own s
 boxs:∀r A ls,bZ L r=some A->A.ls=some ls->Dk w0 G w L V A.t ls (V r)
 small:∀r A q,bZ L r=some A->A.sm=some q->(∃b off,V r = .slice (some ⟨b,off,none⟩) 1 1)/\(q=true->A.bor=true/\iI w0 K.G0 w A (V r) (own r))
 env:∀i,mK w0 G L V (E.get i) (a.tmps.getD i undef)
section
variable {n:Nat} {K:fG} {G:Nat->Prop} {w0 w w':World} {a:Act} {E:gH} {L:bM} {V:Nat->Value} {own:Nat->Γ Nat}
theorem kZ.keepB{w w':World}{b off:Nat}{cs:Γ Value}(hb:w'.heap[b]? = w.heap[b]?)(h:kZ w b off cs):kZ w' b off cs :=
 λj c hj=>by rw[iM (w:=w) hb];exact h j c hj
theorem iI.block{A:iE}{v:Value}{bs:Γ Nat}(h:iI w0 G w A v bs){b off m cap:Nat}(hv:v = .slice (some ⟨b,off,none⟩) m cap)(hc:1<=cap):b∈bs:=by
 rcases h.2 with ⟨_,h1,_,_⟩ | ⟨b',off',cap',cur,ty,fz,bss,h1,h2,h3,h4,h5,h6,h7,h8,h9⟩
 all_goals grind
theorem Dk.keepB{t:Ty}{ls:Γ gB}{v:Value}(h:Dk w0 G w L V t ls v)(hw:∀b off,v = .slice (some ⟨b,off,none⟩) 0 1->w'.heap[b]? = w.heap[b]?):Dk w0 G w' L V t ls v:=by
 obtain⟨b,off,cs,h1,h3,h4,h5,h6⟩:=h;exact⟨b,off,cs,h1,h3,h4,h5.keepB (hw b off h1),h6⟩
def bQ.own_lt(hR:bQ n K w0 G w a E L V own){r:Nat}{A:iE}(h:bZ L r=some A):∀b∈own r,b<w.heap.size:=(hR.heap r A h).lt
theorem bQ.ext(h:bQ n K w0 G w a E L V own)(k:dD [] w w'):bQ n K w0 G w' a E L V own where
 glob:=h.glob
 kept:=h.kept.trans k.of_nil
 size:=h.size
 defers:=h.defers
 glt:=λb hb=>dZ (h.glt b hb) k.size
 gref:=λb hb=>(k.block b (h.glt b hb) (by simp)).trans (h.gref b hb)
 gsub:=h.gsub
 gold:=h.gold
 gup:=h.gup
 heap:=λr A hr=>(h.heap r A hr).keep λb hb=>k.block b (h.own_lt hr b hb) (by simp)
 good:=h.good
 nodup:=h.nodup
 apart:=h.apart
 boxs:=λr A ls hr hl=>(h.boxs r A ls hr hl).keepB λb off hv=>k.block b (h.own_lt hr b ((h.heap r A hr).block hv (aU _))) (by simp)
 small:=λr A q hr hs=>⟨(h.small r A q hr hs).1,λe=>⟨((h.small r A q hr hs).2 e).1,((h.small r A q hr hs).2 e).2.keep λb hb=>k.block b (h.own_lt hr b hb) (by simp)⟩⟩
 env:=h.env
theorem bQ.put(h:bQ n K w0 G w a E L V own){d:Nat}{p:PV}{v:Value}(hd:d<n)(hv:mK w0 G L V p v):bQ n K w0 G w (a.put (some d) v) (E.set d p) L V own where
 glob:=h.glob
 kept:=h.kept
 size:=by simp[Act.put,h.size]
 defers:=h.defers
 glt:=h.glt
 gref:=h.gref
 gsub:=h.gsub
 gold:=h.gold
 gup:=h.gup
 heap:=h.heap
 good:=h.good
 nodup:=h.nodup
 apart:=h.apart
 boxs:=h.boxs
 small:=h.small
 env:=λi=>by
  rw[gH.get_set];simp[Act.put];by_cases hi:d=i
  ·have hs:d<a.tmps.size:=by rw[h.size];lia
   simp_all
  ·have:=h.env i;simp_all
theorem bQ.ginv(h:bQ n K w0 G w a E L V own):Eu w :=
 h.glob.inv.keep λb hb hs=>h.kept.block b hs λho=>by have:=h.glob.out b ho;lia
theorem bQ.gok(h:bQ n K w0 G w a E L V own){w':World}(k:dD [] w w'){O':Γ Nat}(hO:∀b∈O',Out K G b):Ym w' O' where
 inv:=(h.ext k).ginv
 size:=gI h.glob.size (gI h.kept.size k.size)
 out:=λb hb=>by
  have h1:=(hO b hb).1;rcases mS b K.w0.heap.size with hlt | hge
  ·by_cases ho:b∈K.O
   ·exact h.glob.out b ho
   ·exact absurd ⟨hlt,ho⟩ h1
  ·exact gI h.glob.size hge
theorem bQ.out_new(h:bQ n K w0 G w a E L V own){b:Nat}(hb:w.heap.size<=b):Out K G b :=
 ⟨λhg=>by have:=hg.1;have:=h.kept.size;lia,λhg=>by have:=h.glt b hg;lia⟩
end
inductive AT where
 | v (t:Ty)
 | p (t:Ty)
 | own (t:Ty)
 | po (t:Ty)
 | sv (t:Ty)
 | fn (f:FuncId) (caps:Γ (Bool×Ty))
@[reducible] def vL:Γ (Bool×Ty)->Type
 | []=>Unit
 | (_,t)::r=>t.den×vL r
@[reducible] def AT.den:AT->Type
 | .v t=>t.den
 | .p t=>t.den
 | .own t=>Γ t.den
 | .po t=>t.den
 | .sv t=>t.den
 | .fn _ caps=>vL caps
@[reducible] def eF:Γ AT->Type
 | []=>Unit
 | a::r=>a.den×eF r
def B4(w:World)(G:Nat->Prop):(caps:Γ (Bool×Ty))->vL caps->Γ Value->Prop
 | [],_,vs=>vs=[]
 | (true,t)::r,x,vs=>∃v s,vs=v::s/\IG w G t x.1 v/\B4 w G r x.2 s
 | (false,t)::r,x,vs=>∃v s,vs=v::s/\yZ w G (jY t x.1) v/\B4 w G r x.2 s
def aM1(w:World)(t:Ty)(x:t.den)(v:Value)(bs:Γ Nat):Prop :=
 ∃b off,v = .pointer (some ⟨b,off,none⟩)/\Aa w (iH w t) t.size [x] (.slice (some ⟨b,off,none⟩) 1 1) bs
def aRU(w:World)(t:Ty)(x:t.den)(v:Value)(bs:Γ Nat):Prop :=
 ∃cs,v = .agg cs.toArray/\iH w t x cs bs
def aHK(w:World)(G G0:Nat->Prop):(a:AT)->a.den->Value->Γ Nat->Prop
 | .v t,x,v,bs=>bs=[]/\yZ w G (jY t x) v
 | .p t,x,v,bs=>bs=[]/\IG w G t x v
 | .own t,xs,v,bs=>iH w (.sl t) xs [v] bs
 | .po t,x,v,bs=>aM1 w t x v bs
 | .sv t,x,v,bs=>aRU w t x v bs
 | .fn f caps,x,v,bs=>bs=[]/\∃vs,v = .func (.func f) #[] vs.toArray/\B4 w G caps x vs
def IH(w:World)(G G0:Nat->Prop):(sig:Γ AT)->eF sig->Γ Value->Γ (Γ Nat)->Prop
 | [],_,vs,bss=>vs=[]/\bss=[]
 | a::r,x,vs,bss=>∃v s b bs,vs=v::s/\bss=b::bs/\aHK w G G0 a x.1 v b/\IH w G G0 r x.2 s bs
def DM(w:World)(G:Nat->Prop)(sig:Γ AT)(x:eF sig)(vs:Γ Value)(bss:Γ (Γ Nat)):Prop:=IH w G G sig x vs bss
inductive RK where
 | own | frz
def RK.hd:Γ RK->RK
 | [] => .own
 | k::_=>k
structure Spec where
 sig:Γ AT
 pre:eF sig->Prop
 upd:eF sig->Γ (Option jD):=λ_=>[]
 res:eF sig->Γ aS
 kds:Γ RK:=[]
def H8(t:Ty)(cs:Γ Value)(v:Value):Prop :=
 match t with
 | .unit | .cons _ _=>v = .agg cs.toArray
 | _=>cs=[v]
def Dl(w:World):Γ aS->Γ Value->Γ (Γ Nat)->Prop
 | [],vs,bss=>vs=[]/\bss=[]
 | d::r,vs,bss=>∃v s b bs cs,vs=v::s/\bss=b::bs/\iH w d.t d.x cs b/\H8 d.t cs v/\Dl w r s bs
def U4(w:World)(G F:Nat->Prop):RK->aS->Value->Γ Nat->Prop
 | .own,d,v,b=>∃cs,iH w d.t d.x cs b/\H8 d.t cs v
 | .frz,d,v,b=>b=[]/\∃cs,fI w (λk=>G k\/F k) d.t d.x cs/\H8 d.t cs v
def Yo(w:World)(G F:Nat->Prop):Γ RK->Γ aS->Γ Value->Γ (Γ Nat)->Prop
 | _,[],vs,bss=>vs=[]/\bss=[]
 | ks,d::r,vs,bss=>∃v s b bs,vs=v::s/\bss=b::bs/\U4 w G F (RK.hd ks) d v b/\Yo w G F ks.tail r s bs
def zK(w:World):Γ (Option jD)->Γ Value->Γ (Γ Nat)->Prop
 | [],vs,bss=>vs=[]/\bss=[]
 | none::r,vs,bss=>∃v s bs,vs=v::s/\bss=[]::bs/\zK w r s bs
 | some A::r,vs,bss=>∃v s b bs,vs=v::s/\bss=b::bs/\iH w (.sl A.t) A.xs [v] b/\zK w r s bs
def kO:Γ AT->Γ Value->Γ Value
 | .own _::r,v::s=>v::kO r s
 | .po _::r,v::s=>v::kO r s
 | .sv _::r,v::s=>v::kO r s
 | _::r,_::s=>kO r s
 | _,_=>[]
def CA:Γ AT->Γ AT
 | .own t::r => .own t::CA r
 | .po t::r => .po t::CA r
 | .sv t::r => .sv t::CA r
 | _::r=>CA r
 | []=>[]
def aAV(w:World)(G0:Nat->Prop):AT->jD->Value->Γ Nat->Prop
 | .own t,A,v,b=>iH w (.sl A.t) A.xs [v] b
 | .po t,A,v,b=>∃x,A=⟨t,[x]⟩/\aM1 w t x v b
 | .sv t,A,v,b=>∃x,A=⟨t,[x]⟩/\aRU w t x v b
 | _,_,_,_=>False
def T9(w:World)(G0:Nat->Prop):Γ AT->Γ (Option jD)->Γ Value->Γ (Γ Nat)->Prop
 | _,[],vs,bss=>vs=[]/\bss=[]
 | o::os,none::r,vs,bss=>∃v s bs,vs=v::s/\bss=[]::bs/\T9 w G0 os r s bs
 | o::os,some A::r,vs,bss=>∃v s b bs,vs=v::s/\bss=b::bs/\aAV w G0 o A v b/\T9 w G0 os r s bs
 | [],_::_,_,_=>False
def II:Γ Value->Value
 | [v]=>v
 | vs => .tuple vs.toArray
def aHL(w:World)(H:Γ Nat)(G G0:Nat->Prop)(kds:Γ RK)(ds:Γ aS)(os:Γ AT)(us:Γ (Option jD))(ovs:Γ Value)(e:Ending)(w':World):Prop :=
 ∃(rs:Γ Value) (ubs rbs:Γ (Γ Nat)) (F:Nat->Prop),e = .returned (II rs)/\dD H w w'/\Yo w' G F kds ds rs rbs/\T9 w' G0 os us ovs ubs /\
  (ubs.flatten++rbs.flatten).Nodup/\(∀b∈ubs.flatten++rbs.flatten,¬Good w H b)/\∀b,F b->b<w'.heap.size/\¬Good w H b/\b ∉ ubs.flatten++rbs.flatten
def jZ(P:Program)(f:FuncId)(S:Spec):Prop :=
 ∀(w:World) (G G0:Nat->Prop) (x:eF S.sig) (vs:Γ Value) (bss:Γ (Γ Nat)),Ym w bss.flatten->(∀b,G b->Good w bss.flatten b)->(∀b,G0 b->G b)->S.pre x->IH w G G0 S.sig x vs bss->bss.flatten.Nodup ->
  Calls P f vs.toArray w (aHL w bss.flatten G G0 S.kds (S.res x) (CA S.sig) (S.upd x) (kO S.sig vs))
def Br(P:Program)(f:FuncId)(S:Spec):Prop :=
 ∀(w:World) (x:eF S.sig) (vs:Γ Value) (bss:Γ (Γ Nat)),Ym w bss.flatten->S.pre x->DM w (Good w bss.flatten) S.sig x vs bss->bss.flatten.Nodup ->
  Calls P f vs.toArray w λe w'=>∃rs ubs rbs,e = .returned (II rs)/\dD bss.flatten w w'/\Dl w' (S.res x) rs rbs/\zK w' (S.upd x) (kO S.sig vs) ubs /\
   (ubs.flatten++rbs.flatten).Nodup/\∀b∈ubs.flatten++rbs.flatten,¬Good w bss.flatten b
def Ev:Γ AT->Bool
 | .po _::_=>false
 | .sv _::_=>false
 | _::r=>Ev r
 | []=>true
theorem IG.keepB{w w':World}{G G':Nat->Prop}(hG:∀b,G b->G' b)(hw:∀b,G b->w'.heap[b]? = w.heap[b]?){t:Ty}{x:t.den}{v:Value}(h:IG w G t x v):IG w' G' t x v:=by
 obtain⟨b,off,cs,rfl,hb,hc,hr⟩:=h;exact⟨b,off,cs,rfl,hG b hb,hc.keepB (hw b hb),hr.keep hG hw⟩
theorem pP{w w':World}{G G':Nat->Prop}(hG:∀b,G b->G' b)(hw:∀b,G b->w'.heap[b]? = w.heap[b]?){A:c7}{v:Value}(h:yZ w G A v):yZ w' G' A v:=by
 cases A with
 | val u=>exact h
 | sl t xs=>exact oA.keep (λ_ _=>fI.keep hG hw) hG hw h
 | ptr t x=>exact IG.keepB hG hw h
 | st t x =>
  obtain⟨cs,rfl,hr⟩:=h;exact⟨cs,rfl,hr.keep hG hw⟩
 | junk=>trivial
 | osl _ _=>exact h
 | optr _ _ _=>exact h
 | rcd _ _=>exact h
 | bptr _ _ _=>exact h
theorem B4.keepB{w w':World}{G G':Nat->Prop}(hG:∀b,G b->G' b)(hw:∀b,G b->w'.heap[b]? = w.heap[b]?):∀ {caps:Γ (Bool×Ty)} {x:vL caps} {vs:Γ Value},B4 w G caps x vs->B4 w' G' caps x vs
 | [],_,_,h=>h
 | (true,t)::r,x,vs,⟨v,s,h1,h2,h3⟩=>⟨v,s,h1,h2.keepB hG hw,h3.keepB hG hw⟩
 | (false,t)::r,x,vs,⟨v,s,h1,h2,h3⟩=>⟨v,s,h1,pP hG hw h2,h3.keepB hG hw⟩
theorem IH.mono{w:World}{G G' G0 G0':Nat->Prop}(hG:∀b,G b->G' b):∀ {sig:Γ AT} {x:eF sig} {vs:Γ Value} {bss:Γ (Γ Nat)},Ev sig=true->IH w G G0 sig x vs bss->IH w G' G0' sig x vs bss
 | [],_,_,_,_,h=>h
 | a::r,x,vs,bss,hp,⟨v,s,b,bs,h1,h2,h3,h4⟩=>by
  have hp':Ev r=true:=by cases a <;> first | exact hp | cases hp
  refine⟨v,s,b,bs,h1,h2,?_,h4.mono hG hp'⟩;cases a with
  | v t=>exact⟨h3.1,pP hG (λ_ _=>rfl) h3.2⟩
  | p t=>exact⟨h3.1,h3.2.keepB hG (λ_ _=>rfl)⟩
  | own t=>exact h3
  | fn f c=>obtain⟨e,vs',e2,h⟩:=h3;exact⟨e,vs',e2,h.keepB hG (λ_ _=>rfl)⟩
  | po t=>cases hp
  | sv t=>cases hp
theorem Dl.toK{w:World}{G F:Nat->Prop}:∀ {ds:Γ aS} {rs:Γ Value} {rbs:Γ (Γ Nat)},Dl w ds rs rbs->Yo w G F [] ds rs rbs
 | [],_,_,h=>h
 | d::r,_,_,⟨v,s,b,bs,cs,h1,h2,h3,h4,h5⟩=>⟨v,s,b,bs,h1,h2,⟨cs,h3,h4⟩,h5.toK⟩
theorem zK.toK{w:World}{G0:Nat->Prop}{n0:Unit}:∀ {sig:Γ AT} {us:Γ (Option jD)} {vs:Γ Value} {ubs:Γ (Γ Nat)},Ev sig=true->vs.length=sig.length->zK w us (kO sig vs) ubs->T9 w G0 (CA sig) us (kO sig vs) ubs
 | [],us,vs,ubs,_,hl,h=>by
  cases us with
  | nil=>exact h
  | cons u us=>cases u with
   | none=>obtain⟨_,_,_,h,_⟩:=h;cases h
   | some A=>obtain⟨_,_,_,_,h,_⟩:=h;cases h
 | .v t::r,us,v::vs,ubs,hp,hl,h=>zK.toK (sig:=r) (n0:=n0) hp (by grind) h
 | .p t::r,us,v::vs,ubs,hp,hl,h=>zK.toK (sig:=r) (n0:=n0) hp (by grind) h
 | .fn f c::r,us,v::vs,ubs,hp,hl,h=>zK.toK (sig:=r) (n0:=n0) hp (by grind) h
 | .own t::r,us,v::vs,ubs,hp,hl,h=>by
  cases us with
  | nil=>exact h
  | cons u us=>cases u with
   | none =>
    obtain⟨v',s,bs,h1,h2,h3⟩:=h;obtain⟨rfl,rfl⟩:=h1;exact⟨_,_,_,rfl,h2,zK.toK (sig:=r) (n0:=n0) hp (by grind) h3⟩
   | some A =>
    obtain⟨v',s,b,bs,h1,h2,h3,h4⟩:=h;obtain⟨rfl,rfl⟩:=h1;exact⟨_,_,_,_,rfl,h2,h3,zK.toK (sig:=r) (n0:=n0) hp (by grind) h4⟩
 | .v t::r,us,[],ubs,hp,hl,h=>by grind
 | .p t::r,us,[],ubs,hp,hl,h=>by grind
 | .fn f c::r,us,[],ubs,hp,hl,h=>by grind
 | .own t::r,us,[],ubs,hp,hl,h=>by grind
 | .po t::r,us,_,ubs,hp,hl,h=>by cases hp
 | .sv t::r,us,_,ubs,hp,hl,h=>by cases hp
theorem U5{w:World}{G G0:Nat->Prop}:∀ {sig:Γ AT} {x:eF sig} {vs:Γ Value} {bss:Γ (Γ Nat)},IH w G G0 sig x vs bss->vs.length=sig.length
 | [],_,_,_,h=>by obtain⟨rfl,_⟩:=h;rfl
 | a::r,x,vs,bss,⟨v,s,b,bs,h1,h2,h,h3⟩=>by subst h1;simp[U5 h3]
variable {P:Program}
theorem Br.up{f:FuncId}{S:Spec}(hp:Ev S.sig=true)(hk:S.kds=[])(h:Br P f S):jZ P f S:=by
 intro w G G0 x vs bss hg hG hG0 hpre ha hn;have hl:=U5 ha;refine(h w x vs bss hg hpre (ha.mono hG hp) hn).mono ?_;rintro e w' ⟨rs,ubs,rbs,h1,h2,h3,h4,h5,h6⟩;refine⟨rs,ubs,rbs,λ_=>False,h1,h2,?_,h4.toK (n0:=()) hp hl,h5,h6,λb hb=>hb.elim⟩;rw[hk];exact h3.toK
def Ty.agg:Ty->Bool
 | .unit | .cons _ _=>true
 | _=>false
def fN:Ty->Γ Value
 | .int k=>[.int k 0]
 | .bool=>[.bool false]
 | .fn=>[.nilFunc]
 | .str=>[.string aC]
 | .sl _=>[.slice none 0 0]
 | .unit=>[]
 | .cons a b=>fN a++fN b
def gY(t:Ty)(cs:Γ Value):Value:=if t.agg then .agg cs.toArray else cs.headD undef
def xM:TypeDesc->Ty->Bool
 | .bool,.bool | .func _ _ _,.fn | .string,.str | .slice _,.sl _ | .struct _,.unit | .struct _,.cons _ _=>true
 | .int k,.int k'=>k==k'
 | _,_=>false
structure rL (P:Program) (T:TypeId) (t:Ty):Prop where
 und:∃d,P.underlying T=some d/\xM d t=true
 info:∃i,P.info? T=some i/\i.size=t.size/\∃z,i.zero=some z/\z.cells.toList=fN t/\z=gY t (fN t)
def IJ(P:Program):Γ Field->Ty->Nat->Prop
 | [],.unit,_=>True
 | f::fs,.cons a b,o=>f.offset=o/\rL P f.type a/\a.size≠0/\IJ P fs b (o+a.size)
 | _,_,_=>False
inductive TI where
 | scal (t:Ty)
 | slice (e:TypeId) (t:Ty) (bytes:Nat)
 | struct (t:Ty)
 | other
def TI.ty:TI->Option Ty
 | .scal t=>some t
 | .slice _ t _=>some (.sl t)
 | .struct t=>some t
 | .other=>none
def vEq:Value->Value->Bool
 | .int k a,.int k' b=>k==k'&&a==b
 | .bool a,.bool b=>a==b
 | .string a,.string b=>a.size==0&&b.size==0
 | .slice none 0 0,.slice none 0 0=>true
 | .nilFunc,.nilFunc=>true
 | _,_=>false
def aHM:Γ Value->Γ Value->Bool
 | [],[]=>true
 | a::r,b::s=>vEq a b&&aHM r s
 | _,_=>false
theorem aRV{a b:Value}(h:vEq a b=true):a=b:=by
 unfold vEq at h;split at h
 all_goals simp_all
theorem dx:∀ {a b:Γ Value},aHM a b=true->a=b
 | [],[],_=>rfl
 | a::r,b::s,h=>by
  simp[aHM]at h;rw[aRV h.1,dx h.2]
 | [],_::_,h=>by cases h
 | _::_,[],h=>by cases h
def aDx:Value->Γ Value->Bool
 | .agg cs,l=>aHM cs.toList l
 | _,_=>false
def U6(z:Value)(t:Ty):Bool:=if t.agg then aDx z (fN t)else aHM [z] (fN t)
theorem Yp{z:Value}{t:Ty}(h:U6 z t=true):z.cells.toList=fN t/\z=gY t (fN t):=by
 unfold U6 at h;unfold gY;by_cases ha:t.agg=true
 ·rw[π ha]at h ⊢;unfold aDx at h;split at h
  ·have:=dx h;refine⟨by grind [Value.cells],by rw[<- this]⟩
  lia
 ·rw[ν ha]at h ⊢;have hz:=dx h;cases z with
  | agg cs=>cases t <;> simp[fN,Ty.agg]at hz ha
  | _=>grind [Value.cells]
def DN(P:Program)(T:TypeId)(t:Ty):Bool :=
 (match P.underlying T with | some d=>xM d t | none=>false) &&
 (match P.info? T with | some i=>cE i.size t.size&&(match i.zero with | some z=>U6 z t | none=>false) | none=>false)
theorem zL{T:TypeId}{t:Ty}(h:DN P T t=true):rL P T t:=by
 simp[DN]at h;obtain⟨h1,h2⟩:=h;split at h1
 ·rename_i d hd;split at h2
  ·rename_i i hi;simp only[aT]at h2;obtain⟨h2,h3⟩:=h2;split at h3
   ·rename_i z hz;exact⟨⟨d,hd,h1⟩,⟨i,hi,aZ h2,z,hz,Yp h3⟩⟩
   lia
  lia
 lia
def dy(k:IntKind):Option TypeDesc->Bool
 | some (.int k')=>decide (k'=k)
 | _=>false
def Tx:Option TypeDesc->Bool
 | some .bool=>true
 | _=>false
def dz:Option TypeDesc->Bool
 | some .string=>true
 | _=>false
variable {d:Option TypeDesc}
theorem QX{k:IntKind}(h:dy k d=true):d=some (.int k):=by
 unfold dy at h
 lia
theorem Lv(h:Tx d=true):d=some .bool:=by
 grind [Tx]
theorem QY(h:dz d=true):d=some .string:=by
 grind [dz]
def eqD:(t:Ty)->t.den->t.den->Bool
 | .int _,x,y=>(x:Int)==y
 | .bool,x,y=>(x:Bool)==y
 | .fn,x,y=>(x:Option Nat)==y
 | .str,x,y=>aB x==aB y
 | .sl _,_,_=>false
 | .unit,_,_=>true
 | .cons a b,x,y=>eqD a x.1 y.1&&eqD b x.2 y.2
def dep:Ty->Nat
 | .cons a b=>Nat.max (dep a+1) (dep b)
 | _=>0
def LZ(P:Program)(agg:Bool)(T:TypeId)(k:TypeId ⊕ (Γ Field×Nat)->Bool):Bool :=
 match agg with
 | true=>match P.underlying T with
  | some (.struct fs) => !P.stoodInHeld T&&k (.inr (fs.toList,0))
  | _=>false
 | false=>k (.inl T)
def Ze(P:Program):Ty->TypeId ⊕ (Γ Field×Nat)->Bool
 | .int k,.inl T=>dy k (P.underlying T)
 | .bool,.inl T=>Tx (P.underlying T)
 | .str,.inl T=>dz (P.underlying T)
 | .unit,.inr ([],_)=>true
 | .cons a b, .inr (f :: fs, o) => f.name != "_" && (cE f.offset o && (DN P f.type a && (LZ P a.agg f.type (Ze P a) && Ze P b (.inr (fs, o + a.size)))))
 | _,_=>false
def eqT(P:Program)(t:Ty)(T:TypeId):Bool:=pJ (dep t) 9999&&(!P.eqGuardType P.depth T&&LZ P t.agg T (Ze P t))
def Hu(P:Program)(T:TypeId):TI->Prop
 | .scal t=>rL P T t
 | .slice e t by'=>rL P T (.sl t)/\P.underlying T=some (.slice e)/\rL P e t/\(P.info? e).map (·.bytes)=some by'
 | .struct t=>rL P T t/\∃fs,P.underlying T=some (.struct fs)/\IJ P fs.toList t 0/\(t.flat=true->eqT P t T=true)
 | .other=>True
def jO:Γ TI->Nat->TI
 | [],_ => .other
 | a::_,0=>a
 | _::r,n+1=>jO r n
def kW(P:Program)(tab:Γ TI):Prop:=∀T,Hu P T (jO tab T)
def DP(P:Program):Γ Field->Ty->Nat->Bool
 | [],.unit,_=>true
 | f::fs,.cons a b,o=>cE f.offset o&&DN P f.type a && !(cE a.size 0)&&DP P fs b (o+a.size)
 | _,_,_=>false
theorem IK{P:Program}:∀ {fs:Γ Field} {t:Ty} {o:Nat},DP P fs t o=true->IJ P fs t o
 | [],.unit,_,_=>trivial
 | f::fs,.cons a b,o,h=>by
  simp only[DP,aT]at h;obtain⟨⟨⟨h1,h2⟩,h3⟩,h4⟩:=h;exact⟨aZ h1,zL h2,λe=>by simp_all,IK h4⟩
 | [],.int _,_,h=>by cases h
 | [],.bool,_,h=>by cases h
 | [],.fn,_,h=>by cases h
 | [],.str,_,h=>by cases h
 | [],.sl _,_,h=>by cases h
 | [],.cons _ _,_,h=>by cases h
 | _::_,.int _,_,h=>by cases h
 | _::_,.bool,_,h=>by cases h
 | _::_,.fn,_,h=>by cases h
 | _::_,.str,_,h=>by cases h
 | _::_,.sl _,_,h=>by cases h
 | _::_,.unit,_,h=>by cases h
def Tz(P:Program)(T:TypeId):TI->Bool
 | .scal t=>DN P T t
 | .slice e t by'=>DN P T (.sl t)&&(match P.underlying T with | some (.slice e')=>cE e e' | _=>false)&&DN P e t&&(match P.info? e with | some i=>cE i.bytes by' | none=>false)
 | .struct t=>DN P T t&&(match P.underlying T with | some (.struct fs)=>DP P fs.toList t 0&&(!t.flat||eqT P t T) | _=>false)
 | .other=>true
theorem aAW{T:TypeId}{i:TI}(h:Tz P T i=true):Hu P T i:=by
 cases i with
 | scal t=>exact zL h
 | slice e t by' =>
  simp[Tz]at h;obtain⟨⟨⟨h1,h2⟩,h3⟩,h4⟩:=h;refine⟨zL h1,?_,zL h3,?_⟩
  all_goals grind [aZ]
 | struct t =>
  simp[Tz]at h;refine⟨zL h.1,?_⟩;have h2:=h.2;split at h2
  ·grind [IK]
  lia
 | other=>trivial
def xN(P:Program):Γ TI->Nat->Bool
 | [],_=>true
 | i::r,T=>Tz P T i&&xN P r (T+1)
theorem H9{P:Program}:∀ {tab:Γ TI} {S:Nat},xN P tab S=true->∀T,Hu P (S+T) (jO tab T)
 | [],_,_,_=>trivial
 | i::r,S,h,0=>by
  simp[xN]at h;exact aAW h.1
 | i::r,S,h,T+1=>by
  simp[xN]at h;have:=H9 h.2 T
  rwa [show S+(T+1)=S+1+T from by lia]
theorem U7{tab:Γ TI}(h:xN P tab 0=true):kW P tab:=λT=>by
 have:=H9 h T
 lia
section
variable {P:Program} {w:World}
variable {T:TypeId} {t:Ty}
theorem rL.size_run(h:rL P T t)(w:World):(sizeOf T).run P w = .ok t.size w:=by
 obtain⟨i,hi,hs,_⟩:=h.info;simp[sizeOf,typeInfo,hi,hs]
theorem rL.agg_run(h:rL P T t)(w:World):(isAgg T).run P w = .ok t.agg w:=by
 obtain⟨d,hd,hf⟩:=h.und;unfold isAgg;simp[run_underlying hd];cases d <;> cases t <;> simp_all [xM,Ty.agg]
theorem rL.zero_run(h:rL P T t)(w:World):(zeroValue T).run P w = .ok (gY t (fN t)) w:=by
 obtain⟨i,hi,_,z,hz,_,hv⟩:=h.info;simp[zeroValue,typeInfo,hi,hz,hv]
theorem IL(h:rL P T t){b off:Nat}{cs:Γ Value}(hl:cs.length=t.size)(hc:kZ w b off cs) :
  (loadVar T ⟨b,off,none⟩).run P w = .ok (gY t cs) w:=by
 unfold loadVar gY;simp[h.agg_run];cases ha:t.agg with
 | true =>
  have:=run_loadCells_list (P:=P) w ⟨b,off,none⟩ cs (λj v hj=>by rw[fX];exact hc j v hj);simp[h.size_run, <- hl,this]
 | false =>
  have h1:t.size=1:=by cases t <;> simp_all [Ty.agg,Ty.size]
  rw[h1]at hl
  match cs,hl with
  | [c],_ =>
   have:=hc 0 c rfl;simp_all
theorem fI.repB{G:Nat->Prop}{x:t.den}{cs:Γ Value}(h:fI w G t x cs):yZ w G (jY t x) (gY t cs):=by
 cases t with
 | int k=>obtain⟨rfl,h⟩:=h;exact⟨rfl,h⟩
 | bool=>cases h;exact⟨rfl,trivial⟩
 | fn=>cases h;exact⟨rfl,aAU x⟩
 | str=>obtain⟨rfl,h⟩:=h;exact⟨rfl,h⟩
 | sl e=>obtain⟨v,rfl,h⟩:=h;exact h
 | unit=>exact⟨cs,rfl,h⟩
 | cons a b=>exact⟨cs,rfl,h⟩
theorem K9{G:Nat->Prop}:∀ {t:Ty} {x:t.den} {n:Nat} {d:aS} {cs:Γ Value},aFy t x n=some d->fI w G t x cs ->
  ∃o,kT t n=some (o,d.t)/\fI w G d.t d.x ((cs.drop o).take d.t.size)/\o+d.t.size<=cs.length
 | .cons a b,x,0,d,cs,h,hr=>by
  obtain⟨c1,c2,rfl,h1,h2⟩:=hr;cases h;refine⟨0,rfl,?_,by rw[bS,h1.length];lia⟩;simp;rw[<- h1.length,KN]
  lia
 | .cons a b,x,n+1,d,cs,h,hr=>by
  obtain⟨c1,c2,rfl,h1,h2⟩:=hr;obtain⟨o,ho,hro,hl⟩:=K9 (t:=b) h h2;refine⟨a.size+o,by grind [kT],?_,by rw[bS,h1.length];lia⟩;rw[<- h1.length,AS,gW (by lia),fV,lP]
  lia
 | .int _,_,_,_,_,h,_=>by cases h
 | .bool,_,_,_,_,h,_=>by cases h
 | .fn,_,_,_,_,h,_=>by cases h
 | .str,_,_,_,_,h,_=>by cases h
 | .sl _,_,_,_,_,h,_=>by cases h
 | .unit,_,_,_,_,h,_=>by cases h
theorem CB:∀ {fs:Γ Field} {t:Ty} {o n:Nat} {fo:Nat} {ft:Ty},IJ P fs t o->kT t n=some (fo,ft) ->
  ∃f,fs[n]? = some f/\f.offset=o+fo/\rL P f.type ft/\ft.size≠0
 | f::fs,.cons a b,o,0,fo,ft,h,h2=>by
  cases h2;exact⟨f,rfl,h.1,h.2.1,h.2.2.1⟩
 | f::fs,.cons a b,o,n+1,fo,ft,h,h2=>by
  simp[kT]at h2;split at h2
  ·rename_i o' t' h3;cases h2;obtain⟨g,h4,h5,h6,h7⟩:=CB (n:=n) h.2.2.2 h3;exact⟨g,by simpa using h4,by omega,h6,h7⟩
  ·cases h2
 | [],.unit,_,_,_,_,_,h2=>by cases h2
 | [],.int _,_,_,_,_,h,_=>h.elim
 | [],.bool,_,_,_,_,h,_=>h.elim
 | [],.fn,_,_,_,_,h,_=>h.elim
 | [],.str,_,_,_,_,h,_=>h.elim
 | [],.sl _,_,_,_,_,h,_=>h.elim
 | [],.cons _ _,_,_,_,_,h,_=>h.elim
 | _::_,.int _,_,_,_,_,h,_=>h.elim
 | _::_,.bool,_,_,_,_,h,_=>h.elim
 | _::_,.fn,_,_,_,_,h,_=>h.elim
 | _::_,.str,_,_,_,_,h,_=>h.elim
 | _::_,.sl _,_,_,_,_,h,_=>h.elim
 | _::_,.unit,_,_,_,_,h,_=>h.elim
theorem IM{S:TypeId}(h:Hu P S (.struct t)){n fo:Nat}{ft:Ty}(hf:kT t n=some (fo,ft))(b off:Nat) :
  (Li S (.pointer (some ⟨b,off,none⟩)) n).run P w = .ok (.pointer (some ⟨b,off+fo,none⟩)) w:=by
 obtain⟨_,fs,hu,hfs,_⟩:=h;obtain⟨f,h1,h2,h3,h4⟩:=CB hfs hf;have h1':fs[n]? = some f:=by grind
 unfold Li;simp[run_underlying hu,h1',tX,fieldPlace,h3.size_run,ν h4,fX]
theorem U8(h:rL P T t)(cs:Γ Value)(o:Nat)(hl:o+t.size<=cs.length) :
  (part T cs.toArray o).run P w = .ok (gY t ((cs.drop o).take t.size)) w:=by
 unfold part gY;simp[h.agg_run];cases ha:t.agg with
 | true=>simp[h.size_run]
 | false =>
  have h1:t.size=1:=by cases t <;> simp_all [Ty.agg,Ty.size]
  rw[h1]at hl ⊢;have hlt:o<cs.length:=by lia
  simp[hlt,List.take_one]
theorem Zf{S:TypeId}(h:Hu P S (.struct t)){n fo:Nat}{ft:Ty}(hf:kT t n=some (fo,ft))(cs:Γ Value)(hl:fo+ft.size<=cs.length) :
  (T5 S (.agg cs.toArray) n).run P w = .ok (gY ft ((cs.drop fo).take ft.size)) w:=by
 obtain⟨_,fs,hu,hfs,_⟩:=h;obtain⟨f,h1,h2,h3,h4⟩:=CB hfs hf;unfold T5;simp[run_underlying hu,asAgg]
 grind [U8]
theorem Si{T e:TypeId}{by':Nat}(h:Hu P T (.slice e t by')){k:IntKind}{i:Int}(b off len cap:Nat)(h0:0<=i)(h1:i<len) :
  (Ec T (.slice (some ⟨b,off,none⟩) len cap) (.int k i)).run P w = .ok (.pointer (some ⟨b,off+i.toNat*t.size,none⟩)) w:=by
 obtain⟨_,hu,he,_⟩:=h;unfold Ec;simp[asIntOf,run_underlying hu,h0,h1,he.size_run,fX]
end
def gZ:Γ Prop->Prop
 | []=>True
 | p::r=>p/\gZ r
theorem gZ.append{l m:Γ Prop}:gZ (l++m)↔gZ l/\gZ m:=by
 induction l with
 | nil=>simp[gZ]
 | cons p r ih=>simp[gZ,ih,and_assoc]
theorem u9(k:IntKind)(n:Int):aX k (k.wrap n):=by
 cases k <;> simp[aX,mT,qH,qI,oI,nT] <;> (try split) <;> omega
theorem qD{k:IntKind}{n:Int}(h:aX k n):k.wrap n=n:=by
 cases k <;> simp[aX,mT,qH,qI,oI,nT]at h ⊢ <;> (try split) <;> omega
def Sj(op:BinOp)(k:IntKind)(x y:Int):Int :=
 let a:=BitVec.ofInt k.bits x
 let b:=BitVec.ofInt k.bits y
 match op with
 | .and=>k.wrap (a &&& b).toNat
 | .or=>k.wrap (a ||| b).toNat
 | .xor=>k.wrap (a ^^^ b).toNat
 | _=>k.wrap (a &&& ~~~b).toNat
def aZL(k:IntKind)(x y:Int):Int:=k.wrap (x*2^min y.toNat k.bits)
def aRW(k:IntKind)(x y:Int):Int:=x.fdiv (2^min y.toNat k.bits)
def aHO(wr:Bool)(op:BinOp)(k:IntKind)(a b:Int):Option (Γ Prop×Value) :=
 match op with
 | .add=>match wr with | true=>some ([],.int k (k.wrap (a+b))) | false=>some ([aX k (a+b)],.int k (a+b))
 | .sub=>match wr with | true=>some ([],.int k (k.wrap (a-b))) | false=>some ([aX k (a-b)],.int k (a-b))
 | .mul=>match wr with | true=>some ([],.int k (k.wrap (a*b))) | false=>some ([aX k (a*b)],.int k (a*b))
 | .quo=>some ([b≠0,aX k (a.tdiv b)],.int k (a.tdiv b))
 | .rem=>some ([b≠0,aX k (a.tmod b)],.int k (a.tmod b))
 | .and=>some ([],.int k (Sj .and k a b))
 | .or=>some ([],.int k (Sj .or k a b))
 | .xor=>some ([],.int k (Sj .xor k a b))
 | .andNot=>some ([],.int k (Sj .andNot k a b))
 | .eql=>some ([],.bool (a==b))
 | .neq=>some ([],.bool (a != b))
 | .lss=>some ([],.bool (decide (a<b)))
 | .leq=>some ([],.bool (decide (a<=b)))
 | .gtr=>some ([],.bool (decide (a>b)))
 | .geq=>some ([],.bool (decide (a>=b)))
 | .shl=>some ([0<=b],.int k (aZL k a b))
 | .shr=>some ([0<=b,aX k (aRW k a b)],.int k (aRW k a b))
def aRX(op:BinOp)(a b:Δ):Option (Γ Prop×Value) :=
 match op with
 | .add=>some ([a.size+b.size<=maxLen],.string (a++b))
 | .eql=>some ([],.bool (a.toList==b.toList))
 | .neq=>some ([],.bool (!(a.toList==b.toList)))
 | .lss=>some ([],.bool (bL a.toList b.toList))
 | .leq=>some ([],.bool (bL a.toList b.toList||a.toList==b.toList))
 | .gtr=>some ([],.bool (!(bL a.toList b.toList||a.toList==b.toList)))
 | .geq=>some ([],.bool (!bL a.toList b.toList))
 | _=>none
def aRY(wr:Bool)(op:BinOp):Value->Value->Option (Γ Prop×Value)
 | .int k a,.int k' b=>match op with
  | .shl=>aHO wr .shl k a b
  | .shr=>aHO wr .shr k a b
  | op=>if k=k' then aHO wr op k a b else none
 | .string a,.string b=>aRX op a b
 | _,_=>none
section
variable {P:Program} {w:World}
theorem U9{wr:Bool}{op:BinOp}{k k':IntKind}{a b:Int}{cs:Γ Prop}{r:Value}(h:aHO wr op k a b=some (cs,r))(hc:gZ cs)(hk:k=k'\/op = .shl\/op = .shr)(T:TypeId) :
  (binOp op T (.int k a) (.int k' b)).run P w = .ok r w/\OR r:=by
 unfold aHO at h;cases op <;> simp only at h
 case add=>cases wr <;> cases h <;> (obtain rfl:=hk.resolve_right (by simp)) <;> simp_all [binOp,KO,OR,u9,gZ,qD]
 case sub=>cases wr <;> cases h <;> (obtain rfl:=hk.resolve_right (by simp)) <;> simp_all [binOp,KO,OR,u9,gZ,qD]
 case mul=>cases wr <;> cases h <;> (obtain rfl:=hk.resolve_right (by simp)) <;> simp_all [binOp,KO,OR,u9,gZ,qD]
 case quo=>cases h;obtain rfl:=hk.resolve_right (by simp);simp only[gZ]at hc;simp[binOp,Op.intDiv,OR,hc.1,hc.2.1,qD]
 case rem=>cases h;obtain rfl:=hk.resolve_right (by simp);simp only[gZ]at hc;simp[binOp,Op.intDiv,OR,hc.1,hc.2.1]
 case and=>cases h;obtain rfl:=hk.resolve_right (by simp);simp[binOp,Ny,OR,Sj,u9]
 case or=>cases h;obtain rfl:=hk.resolve_right (by simp);simp[binOp,Ny,OR,Sj,u9]
 case xor=>cases h;obtain rfl:=hk.resolve_right (by simp);simp[binOp,Ny,OR,Sj,u9]
 case andNot=>cases h;obtain rfl:=hk.resolve_right (by simp);simp[binOp,Ny,OR,Sj,u9]
 case shl=>cases h;simp only[gZ]at hc;have h0:¬b<0:=(by omega);simp[binOp,Op.shift,OR,aZL,u9,h0]
 case shr=>cases h;simp only[gZ]at hc;have h0:¬b<0:=(by omega);simp[binOp,Op.shift,OR,aRW,h0];exact hc.2.1
 all_goals cases h;obtain rfl:=hk.resolve_right (by simp);simp[binOp,Op.intCmp,OR]
theorem aHP{op:BinOp}{a b:Δ}{cs:Γ Prop}{r:Value}(h:aRX op a b=some (cs,r))(hc:gZ cs)(T:TypeId) :
  (binOp op T (.string a) (.string b)).run P w = .ok r w/\OR r:=by
 unfold aRX at h;cases op <;> simp only at h <;> first | (cases h;done) | cases h
 case add =>
  simp only[gZ]at hc;have h0:¬((a.size+b.size:Nat):Int)>9223372036854775807:=by have:=hc.1;unfold maxLen at this;omega
  have h1:¬(9223372036854775807:Int)<(a.size:Int)+(b.size:Int):=by omega
  simp[binOp,j',h1,OR];exact hc.1
 all_goals simp[binOp,j',OR]
theorem tq{wr:Bool}{op:BinOp}{u v:Value}{cs:Γ Prop}{r:Value}(h:aRY wr op u v=some (cs,r))(hc:gZ cs)(T:TypeId)(x y:Operand) :
  (do eqGuard op T x y u v;binOp op T u v:Sem Value).run P w = .ok r w/\OR r:=by
 unfold aRY at h;split at h
 ·rename_i k a k' b;rw[eqGuard_at_int];simp only[dV,fP,cJ];split at h
  ·exact U9 h hc (.inr (.inl rfl)) T
  ·exact U9 h hc (.inr (.inr rfl)) T
  ·by_cases hk:k=k'
   ·rw[π hk]at h;exact U9 h hc (.inl hk) T
   ·rw[ν hk]at h;cases h
 ·rw[eqGuard_at_string];simp only[dV,fP,cJ];exact aHP h hc T
 ·cases h
end
def okC:Value->Bool
 | .int k n=>decide (k.min<=n)&&decide (n<=k.max)
 | .string s=>pJ s.size 1048576
 | .slice none n c=>cE n 0&&cE c 0
 | .bool _=>true
 | _=>false
theorem aRZ{v:Value}(h:okC v=true):OR v:=by
 unfold okC at h;split at h
 ·simp at h;exact h
 ·simp at h;simp only[OR,maxLen];omega
 ·simp at h;exact h
 ·trivial
 ·cases h
def opnd(E:gH):Operand->PV
 | .tmp t=>E.get t
 | .const v=>match okC v with | true => .a (.val v) | false => .a .junk
 | .func f => .fn f []
 | .global _ => .a .junk
section
variable {n:Nat} {K:fG} {G:Nat->Prop} {w0 w:World} {a:Act} {E:gH} {L:bM} {V:Nat->Value} {own:Nat->Γ Nat}
theorem bQ.opnd(h:bQ n K w0 G w a E L V own)(x:Operand):mK w0 G L V (opnd E x) (a.eval x):=by
 cases x with
 | tmp t=>exact h.env t
 | const v =>
  simp only[Am.opnd];cases hc:okC v with
  | true=>exact⟨rfl,aRZ hc⟩
  | false=>trivial
 | func f=>exact⟨[],rfl,rfl⟩
 | global g=>trivial
theorem bQ.atom(h:bQ n K w0 G w a E L V own){x:Operand}{A:c7}(hx:Am.opnd E x = .a A):nE w0 G L V A (a.eval x):=by
 have:=h.opnd x;rw[hx]at this;exact this
theorem bQ.valEq(h:bQ n K w0 G w a E L V own){x:Operand}{v:Value}(hx:Am.opnd E x = .a (.val v)):a.eval x=v/\OR v:=h.atom hx
end
theorem tt{w:World}:∀ {t:Ty} {x:t.den} {n:Nat} {d:aS} {cs:Γ Value} {bs:Γ Nat},aFy t x n=some d->iH w t x cs bs ->
  ∃o bs',kT t n=some (o,d.t)/\iH w d.t d.x ((cs.drop o).take d.t.size) bs'/\o+d.t.size<=cs.length/\∀b∈bs',b∈bs
 | .cons a b,x,0,d,cs,bs,h,hr=>by
  obtain⟨c1,c2,b1,b2,rfl,rfl,h1,h2⟩:=hr;cases h;refine⟨0,b1,rfl,?_,by rw[bS,h1.length];lia,λb hb=>dE _ hb⟩;simp;rw[<- h1.length,KN]
  lia
 | .cons a b,x,n+1,d,cs,bs,h,hr=>by
  obtain⟨c1,c2,b1,b2,rfl,rfl,h1,h2⟩:=hr;obtain⟨o,bs',ho,hro,hl,hb⟩:=tt (t:=b) h h2;refine⟨a.size+o,bs',by grind [kT],?_,by rw[bS,h1.length];lia,λb hb'=>dJ _ (hb b hb')⟩;rw[<- h1.length,AS,gW (by lia),fV,lP]
  lia
 | .int _,_,_,_,_,_,h,_=>by cases h
 | .bool,_,_,_,_,_,h,_=>by cases h
 | .fn,_,_,_,_,_,h,_=>by cases h
 | .str,_,_,_,_,_,h,_=>by cases h
 | .sl _,_,_,_,_,_,h,_=>by cases h
 | .unit,_,_,_,_,_,h,_=>by cases h
theorem L0{α:Type}(l:Γ α)(o n o' n':Nat)(h:o'+n'<=n):(((l.drop o).take n).drop o').take n'=(l.drop (o+o')).take n':=by
 rw[List.drop_take,YY,pY]
 congr 1
 omega
theorem QZ{w:World}:∀ {p:Γ Nat} {d0 d:aS} {cs:Γ Value} {bs:Γ Nat},OW p d0=some d->iH w d0.t d0.x cs bs ->
  ∃o bs',kY p d0.t=some (o,d.t)/\iH w d.t d.x ((cs.drop o).take d.t.size) bs'/\o+d.t.size<=cs.length/\∀b∈bs',b∈bs
 | [],d0,d,cs,bs,h,hr=>by
  cases h;refine⟨0,bs,rfl,?_,by rw[hr.length];lia,λ_ h=>h⟩;rw[pZ, <- hr.length,nG]
  lia
 | f::p,d0,d,cs,bs,h,hr=>by
  simp[OW]at h;split at h
  ·rename_i d1 h1;obtain⟨o1,b1,ho1,hr1,hl1,hb1⟩:=tt h1 hr;obtain⟨o2,b2,ho2,hr2,hl2,hb2⟩:=QZ h hr1;have hl2':o2+d.t.size<=d1.t.size:=by
    rw[hr1.length]at hl2;exact hl2
   refine⟨o1+o2,b2,by simp[kY,ho1,ho2],?_,by omega,λb hb=>hb1 b (hb2 b hb)⟩;rw[L0 _ _ _ _ _ hl2']at hr2;exact hr2
  ·cases h
theorem Q0{w:World}{G:Nat->Prop}:∀ {p:Γ Nat} {d0 d:aS} {cs:Γ Value},OW p d0=some d->fI w G d0.t d0.x cs ->
  ∃o,kY p d0.t=some (o,d.t)/\fI w G d.t d.x ((cs.drop o).take d.t.size)/\o+d.t.size<=cs.length
 | [],d0,d,cs,h,hr=>by
  cases h;refine⟨0,rfl,?_,by rw[hr.length];lia⟩;rw[pZ, <- hr.length,nG]
  lia
 | f::p,d0,d,cs,h,hr=>by
  simp[OW]at h;split at h
  ·rename_i d1 h1;obtain⟨o1,ho1,hr1,hl1⟩:=K9 h1 hr;obtain⟨o2,ho2,hr2,hl2⟩:=Q0 h hr1;have hl2':o2+d.t.size<=d1.t.size:=by
    rw[hr1.length]at hl2;exact hl2
   refine⟨o1+o2,by simp[kY,ho1,ho2],?_,by omega⟩;rw[L0 _ _ _ _ _ hl2']at hr2;exact hr2
  ·cases h
def aPM:gB->c7
 | .val v => .val v
 | .sl t xs => .sl t xs
 | .osl r rg => .osl r rg
 | .junk => .junk
def aFz:Value->Option (Option Nat)
 | .nilFunc=>some none
 | .func (.func f) x y=>match x.toList,y.toList with
  | [],[]=>some (some f)
  | _,_=>none
 | _=>none
theorem ee{v:Value}{f:Option Nat}(h:aFz v=some f):v=fnV f:=by
 unfold aFz at h;split at h
 ·cases h;rfl
 ·rename_i g x y;split at h
  ·cases h;have e1:x = #[]:=by grind
   have e2:y = #[]:=by grind
   rw[e1,e2];rfl
  lia
 lia
def vU:(t:Ty)->Γ gB->Option t.den
 | .int k,ls=>match ls with
  | [.val (.int k' n)]=>match decide (k=k')with | true=>some n | false=>none
  | _=>none
 | .bool,ls=>match ls with
  | [.val (.bool b)]=>some b
  | _=>none
 | .fn,ls=>match ls with
  | [.val v]=>aFz v
  | _=>none
 | .str,ls=>match ls with
  | [.val (.string s)]=>some s
  | _=>none
 | .sl e,ls=>match ls with
  | [.val (.slice none _ _)]=>some []
  | [.sl t xs]=>if h:t=e then some (h ▸ xs)else none
  | _=>none
 | .unit,ls=>match ls with
  | []=>some ()
  | _=>none
 | .cons a b,ls=>match vU a (ls.take a.size),vU b (ls.drop a.size)with
  | some x,some y=>some (x,y)
  | _,_=>none
def aHQ:Γ gB->Bool
 | []=>false
 | .sl _ _::_=>true
 | _::r=>aHQ r
def aM2(t:Ty)(ls:Γ gB):Bool := !t.flat && !aHQ ls
def aM3(t:Ty)(ls:Γ gB):Option c7 :=
 match t.agg with
 | true=>match aM2 t ls,vU t ls with
  | false,some x=>some (.st t x)
  | _,_=>some (.rcd t ls)
 | false=>match ls with
  | [l]=>some (aPM l)
  | _=>none
def aDy(L:bM)(t:Ty):c7->Option c7
 | .bptr r o t'=>match decide (t'=t),bZ L r with
  | true,some A=>match A.ls with
   | some ls=>aM3 t ((ls.drop o).take t.size)
   | none=>none
  | _,_=>none
 | .ptr t' x=>match decide (t'=t)with | true=>some (jY t' x) | false=>none
 | .optr r i p=>match bZ L r with
  | some A=>match OW p ⟨A.t,A.xs.getD i A.t.dflt⟩ with
   | some d=>match decide (d.t=t)&&(A.bor||d.t.flat)with | true=>some d.atom | false=>none
   | none=>none
  | none=>none
 | _=>none
def Ua(L:bM)(t:Ty)(f:Nat):c7->Option c7
 | .bptr r o t'=>match decide (t'=t),kT t' f with
  | true,some (o',ft)=>some (.bptr r (o+o') ft)
  | _,_=>none
 | .ptr t' x=>match decide (t'=t)with
  | true=>match aFy t' x f with | some d=>some (.ptr d.t d.x) | none=>none
  | false=>none
 | .optr r i p=>match bZ L r with
  | some A=>match kY p A.t with
   | some (_,t')=>match decide (t'=t)with
    | true=>match kT t' f with | some _=>some (.optr r i (p++[f])) | none=>none
    | false=>none
   | none=>none
  | none=>none
 | _=>none
def aAX(t:Ty)(f:Nat):c7->Option c7
 | .rcd t' ls=>match decide (t'=t),kT t f with
  | true,some (o,ft)=>aM3 ft ((ls.drop o).take ft.size)
  | _,_=>none
 | .st t' x=>match decide (t'=t)with
  | true=>match aFy t' x f with | some d=>some d.atom | none=>none
  | false=>none
 | _=>none
def Ub(s:Δ)(i:Int):Int:=((s.data.toList.getD i.toNat 0).toNat:Int)
def Uc(L:bM)(t:Ty)(n:Int):c7->Option (Γ Prop×c7)
 | .sl t' xs=>match decide (t'=t)with
  | true=>some ([0<=n,n<(xs.length:Int)],.ptr t' (xs.getD n.toNat t'.dflt))
  | false=>none
 | .osl r rg=>match bZ L r with
  | some A=>match decide (A.t=t)with
   | true=>match rg with
    | none=>some ([0<=n,n<(A.xs.length:Int)],.optr r n.toNat [])
    | some (lo,hi)=>some ([0<=n,n<((hi-lo:Nat):Int)],.optr r (lo+n.toNat) [])
   | false=>none
  | none=>none
 | _=>none
def aSa(L:bM):c7->Option Int
 | .val (.string s)=>some (s.size:Int)
 | .val (.slice none _ _)=>some 0
 | .sl _ xs=>some (xs.length:Int)
 | .osl r rg=>match bZ L r with
  | some A=>match rg with
   | none=>some (A.xs.length:Int)
   | some (lo,hi)=>some ((hi-lo:Nat):Int)
  | none=>none
 | _=>none
section
variable {P:Program} {n:Nat} {K:fG} {G:Nat->Prop} {w0 w:World} {a:Act} {E:gH} {L:bM} {V:Nat->Value} {own:Nat->Γ Nat}
def bQ.keepG(h:bQ n K w0 G w a E L V own){w':World}(k:dD [] w w'):∀b,G b->w'.heap[b]? = w0.heap[b]? :=
 (h.ext k).gref
variable {cs:Γ Value}
theorem kZ.keep{w w':World}{b off:Nat}(hb:w'.heap[b]? = w.heap[b]?)(h:kZ w b off cs):kZ w' b off cs:=h.keepB hb
theorem Ud{A:iE}{v:Value}{bs:Γ Nat}{b off m cap:Nat}(h:iI w0 G w A v bs)(hv:v = .slice (some ⟨b,off,none⟩) m cap){i:Nat}{x:A.t.den}(hx:A.xs[i]? = some x) :
  ∃cs bi,kZ w b (off+i*A.t.size) cs/\pO w0 G w A.t A.bor x cs bi/\(∀k∈bi,k∈bs)/\b∈bs:=by
 rcases h.2 with ⟨_,_,h0,_⟩ | ⟨b',off',cap',cur,ty,fz,bss,h1,h2,h3,h4,h5,h6,h7,h8,h9⟩
 ·grind
 ·have hlt:i<bss.length:=by grind
  obtain⟨cs,hl,hc,hr⟩:=h9 i x _ hx (aV hlt);refine⟨cs,_,λj c hj=>?_,hr,λk hk=>by rw[h8];exact aM _ (qM (aV hlt) k hk),by grind⟩
  grind [iK]
theorem zM{α:Type}(xs:Γ α)(i:Nat)(d:α)(h:i<xs.length):xs[i]? = some (xs.getD i d):=by
 grind
theorem kZ.sub{w:World}{b off:Nat}(h:kZ w b off cs)(o m:Nat):kZ w b (off+o) ((cs.drop o).take m):=λj c hj=>by
 rw[nU]at hj;split at hj
 ·rw[wV]at hj;rw[fS];exact h _ _ hj
 lia
variable {t:Ty}
theorem Ab{x:t.den}{v:Value}(h:yZ w0 G (jY t x) v):nE w0 G L V (jY t x) v:=by
 cases t <;> exact h
theorem Ew:∀ {ls:Γ gB} {cs:Γ Value},iG w0 G L V ls cs->cs.length=ls.length
 | [],_,h=>by cases h;rfl
 | _::_,_,⟨_,_,h,_,h2⟩=>by subst h;simp[Ew h2]
theorem qN:∀ {ls:Γ gB} {cs:Γ Value} (k:Nat),iG w0 G L V ls cs->iG w0 G L V (ls.drop k) (cs.drop k)
 | _,_,0,h=>h
 | [],_,k+1,h=>by cases h;rfl
 | _::_,_,k+1,⟨_,_,h,_,h2⟩=>by subst h;exact qN k h2
theorem qO:∀ {ls:Γ gB} {cs:Γ Value} (k:Nat),iG w0 G L V ls cs->iG w0 G L V (ls.take k) (cs.take k)
 | _,_,0,h=>by rfl
 | [],_,k+1,h=>by cases h;rfl
 | _::_,_,k+1,⟨v,r,h,h1,h2⟩=>by subst h;exact⟨v,r.take k,by rfl,h1,qO k h2⟩
theorem aF0{l:gB}{v:Value}(h:U3 w0 G L V l v):nE w0 G L V (aPM l) v:=by
 cases l with
 | val u=>exact⟨h.1,h.2.1⟩
 | sl t xs=>exact h
 | osl r rg=>exact h
 | junk=>trivial
theorem jP:∀ {t:Ty} {ls:Γ gB} {x:t.den} {cs:Γ Value},iG w0 G L V ls cs->vU t ls=some x->fI w0 G t x cs
 | .int k,ls,x,cs,hr,h=>by
  simp only[vU]at h;split at h
  ·split at h
   ·rename_i hk;obtain rfl:=of_decide_eq_true hk;cases h;obtain⟨v,r,rfl,⟨rfl,h1,_⟩,h2⟩:=hr;cases h2;exact⟨rfl,h1⟩
   lia
  lia
 | .bool,ls,x,cs,hr,h=>by
  simp only[vU]at h;split at h
  ·cases h;obtain⟨v,r,rfl,⟨rfl,h1,_⟩,h2⟩:=hr;cases h2;rfl
  lia
 | .fn,ls,x,cs,hr,h=>by
  simp[vU]at h;split at h
  ·obtain⟨v,r,rfl,⟨rfl,h1,_⟩,h2⟩:=hr;cases h2;rw[ee h];rfl
  lia
 | .str,ls,x,cs,hr,h=>by
  simp only[vU]at h;split at h
  ·cases h;obtain⟨v,r,rfl,⟨rfl,h1,_⟩,h2⟩:=hr;cases h2;exact⟨rfl,h1⟩
  lia
 | .sl e,ls,x,cs,hr,h=>by
  simp only[vU]at h;split at h
  ·cases h;obtain⟨v,r,rfl,⟨rfl,⟨h1,h3⟩,_⟩,h2⟩:=hr;cases h2;subst h1 h3;exact⟨_,rfl,aY _,.inl ⟨_,rfl,rfl⟩⟩
  ·split at h
   ·rename_i ht;subst ht;cases h;obtain⟨v,r,rfl,h1,h2⟩:=hr;cases h2;exact⟨v,rfl,h1⟩
   lia
  lia
 | .unit,ls,x,cs,hr,h=>by
  simp only[vU]at h;split at h
  ·cases hr;rfl
  lia
 | .cons a b,ls,x,cs,hr,h=>by
  simp only[vU]at h;split at h
  ·rename_i y z hy hz;cases h;exact⟨cs.take a.size,cs.drop a.size,(fD _ _).symm,jP (qO _ hr) hy,jP (qN _ hr) hz⟩
  ·cases h
theorem tu{ls:Γ gB}{A:c7}(hr:iG w0 G L V ls cs)(hl:ls.length=t.size)(h:aM3 t ls=some A):nE w0 G L V A (gY t cs):=by
 unfold aM3 at h;unfold gY;split at h
 ·rename_i ha;rw[π ha];split at h
  ·rename_i x hk hx;cases h;exact⟨cs,rfl,jP hr hx⟩
  ·cases h;exact⟨cs,rfl,hl,hr⟩
 ·split at h
  ·obtain⟨v,r,rfl,h1,h2⟩:=hr
   grind [aF0]
  lia
theorem Ka:∀ {t:Ty} {n o:Nat} {ft:Ty},kT t n=some (o,ft)->o+ft.size<=t.size
 | .cons a b,0,o,ft,h=>by cases h;simp[Ty.size]
 | .cons a b,n+1,o,ft,h=>by
  simp[kT]at h;split at h
  ·rename_i o' t' h1;have:=Ka h1
   grind [Ty.size]
  lia
 | .int _,_,_,_,h=>by cases h
 | .bool,_,_,_,h=>by cases h
 | .fn,_,_,_,h=>by cases h
 | .str,_,_,_,h=>by cases h
 | .sl _,_,_,_,h=>by cases h
 | .unit,_,_,_,h=>by cases h
variable {u:Value}
theorem Ue(hR:bQ n K w0 G w a E L V own){T:TypeId}(hT:rL P T t){A A':c7}(hu:nE w0 G L V A u)(h:aDy L t A=some A') :
  ∃v,nE w0 G L V A' v/\∀w',dD [] w w'->(Instr.loadAt T u).run P w' = .ok v w':=by
 unfold aDy at h;split at h
 ·rename_i r o t';split at h
  ·rename_i B ht hB;obtain rfl:=of_decide_eq_true ht;split at h
   ·rename_i ls hls;obtain⟨B',ls',b,off,hB',hls',hv,rfl,hsz⟩:=hu;obtain⟨b1,off1,cs,e1,e3,e4,e5,e6⟩:=hR.boxs r B ls hB hls;rw[hv]at e1;cases e1;have hlen:((ls.drop o).take t'.size).length=t'.size:=by grind
    have hsub:=qO t'.size (qN o e6);have hb:=(hR.heap r B hB).block hv (aU _);have hlt:=hR.own_lt hB b hb;refine⟨gY t' ((cs.drop o).take t'.size),tu hsub hlen h,λw' k=>?_⟩;exact IL hT (by grind) ((kZ.sub e5 o _).keep (k.block b hlt (by simp)))
   lia
  lia
 ·rename_i t' x;split at h
  ·rename_i ht;obtain rfl:=of_decide_eq_true ht;cases h;obtain⟨b,off,cs,rfl,hb,hc,hr⟩:=hu;refine⟨gY t' cs,Ab hr.repB,λw' k=>?_⟩
   ·exact IL hT hr.length (hc.keep (hR.keepG k b hb))
  lia
 ·rename_i r i p;split at h
  ·rename_i B hB;split at h
   ·rename_i d hd;split at h
    ·rename_i hdt;simp at hdt;obtain⟨hdt,hfl⟩:=hdt;cases h;obtain⟨B',hB',hi,b,off,m,cap,po,t',hv,hp,rfl⟩:=hu;rw[hB]at hB';cases hB';have hown:=hR.heap r B hB;obtain⟨cs,bi,hc,ho,hsub,hb⟩:=Ud hown hv (zM B.xs i B.t.dflt hi);have hrep:fI w0 G d.t d.x ((cs.drop po).take d.t.size)/\t'=d.t:=by
      revert ho hfl;cases hbor:B.bor with
      | true =>
       intro hfl ho;obtain⟨o,ho1,ho2,ho3⟩:=Q0 hd ho.1
       lia
      | false =>
       intro hfl ho;obtain⟨o,bs',ho1,ho2,ho3,ho4⟩:=QZ hd ho;rw[hp]at ho1;cases ho1;exact⟨(ho2.flat (w':=w0) (G:=G) (by lia)).1,rfl⟩
     obtain⟨hrep,rfl⟩:=hrep;have hblt:b<w.heap.size:=hown.lt b hb;refine⟨gY d.t ((cs.drop po).take d.t.size),Ab hrep.repB,λw' k=>?_⟩
     ·subst hdt;exact IL hT hrep.length ((hc.sub po _).keep (k.block b hblt (by simp)))
    lia
   lia
  lia
 lia
theorem OX:∀ {p:Γ Nat} {t t' t'':Ty} {o o' f:Nat},kY p t=some (o,t')->kT t' f=some (o',t'')->kY (p++[f]) t=some (o+o',t'')
 | [],t,t',t'',o,o',f,h,h2=>by grind [kY]
 | g::p,t,t',t'',o,o',f,h,h2=>by
  simp[kY]at h;split at h
  ·rename_i o1 t1 h1;split at h
   ·rename_i o2 t2 h3;cases h;have:=OX h3 h2;simp[kY,h1,this,fS]
   ·cases h
  ·cases h
theorem Yq{S:TypeId}(hS:Hu P S (.struct t)){f:Nat}{A A':c7}(hu:nE w0 G L V A u)(h:Ua L t f A=some A') :
  ∃v,nE w0 G L V A' v/\∀w',(Li S u f).run P w' = .ok v w':=by
 unfold Ua at h;split at h
 ·rename_i r o t';split at h
  ·rename_i o' ft ht ho;obtain rfl:=of_decide_eq_true ht;cases h;obtain⟨B,ls,b,off,hB,hls,hv,rfl,hsz⟩:=hu;have hle:=Ka ho;refine⟨_,⟨B,ls,b,off,hB,hls,hv,rfl,by lia⟩,λw'=>?_⟩;rw[IM hS ho b (off+o),fS]
  lia
 ·split at h
  ·rename_i ht;obtain rfl:=of_decide_eq_true ht;split at h
   ·rename_i d hd;cases h;obtain⟨b,off,cs,rfl,hb,hc,hr⟩:=hu;obtain⟨o,ho,hr',hl⟩:=K9 hd hr;exact⟨_,⟨b,off+o,_,rfl,hb,hc.sub o _,hr'⟩,λw'=>IM hS ho b off⟩
   lia
  lia
 ·rename_i r i p;split at h
  ·rename_i B hB;split at h
   ·rename_i po t' hp;split at h
    ·rename_i ht;obtain rfl:=of_decide_eq_true ht;split at h
     ·rename_i y hy;obtain⟨o',t''⟩:=y;cases h;obtain⟨B',hB',hi,b,off,m,cap,po',t2,hv,hp',rfl⟩:=hu;rw[hB]at hB';cases hB';rw[hp]at hp';cases hp';refine⟨_,⟨B,hB,hi,b,off,m,cap,po+o',t'',hv,OX hp hy,rfl⟩,λw'=>?_⟩;have:=IM (P:=P) (w:=w') hS hy b (off+i*B.t.size+po)
      lia
     lia
    lia
   lia
  lia
 lia
theorem tw{S:TypeId}(hS:Hu P S (.struct t)){f:Nat}{A A':c7}(hu:nE w0 G L V A u)(h:aAX t f A=some A') :
  ∃v,nE w0 G L V A' v/\∀w',(T5 S u f).run P w' = .ok v w':=by
 unfold aAX at h;split at h
 ·split at h
  ·rename_i o ft ht ho;obtain⟨cs,rfl,hl,hr⟩:=hu;have hle:=Ka ho;have hcl:=Ew hr;exact⟨gY ft ((cs.drop o).take ft.size),tu (qO _ (qN _ hr)) (by grind) h,λw'=>Zf hS ho cs (by lia)⟩
  lia
 ·split at h
  ·rename_i ht;obtain rfl:=of_decide_eq_true ht;split at h
   ·rename_i d hd;cases h;obtain⟨cs,rfl,hr⟩:=hu;obtain⟨o,ho,hr',hl⟩:=K9 hd hr;exact⟨gY d.t ((cs.drop o).take d.t.size),Ab hr'.repB,λw'=>Zf hS ho cs hl⟩
   lia
  lia
 lia
theorem Yr{T e:TypeId}{by':Nat}(hT:Hu P T (.slice e t by')){k:IntKind}{i:Int}{A A':c7}{cs:Γ Prop}(hu:nE w0 G L V A u)
  (h:Uc L t i A=some (cs,A')) (hc:gZ cs) :
  ∃v,nE w0 G L V A' v/\∀w',(Ec T u (.int k i)).run P w' = .ok v w':=by
 unfold Uc at h;split at h
 ·rename_i t' xs;split at h
  ·rename_i ht;obtain rfl:=of_decide_eq_true ht;cases h;obtain⟨h0,h1,_⟩:=hc;rcases hu.2 with ⟨_,_,rfl⟩ | ⟨b,off,cap,rfl,_,_,hb,hx⟩
   ·grind
   ·have hlt:i.toNat<xs.length:=by lia
    obtain⟨cs,hl,hc,hr⟩:=hx i.toNat _ (zM xs i.toNat t'.dflt hlt);exact⟨_,⟨b,off+i.toNat*t'.size,cs,rfl,hb,hc,hr⟩,λw'=>Si hT b off _ cap h0 h1⟩
  lia
 ·rename_i r rg;split at h
  ·rename_i B hB;split at h
   ·rename_i ht;have ht:=of_decide_eq_true ht;obtain⟨B',hB',_,hs1,hs2,hs3⟩:=hu;rw[hB]at hB';cases hB';have key:∀(lo hi:Nat),zJ rg=lo->Ht B.xs.length rg=hi->0<=i->i<((hi-lo:Nat):Int) ->
      ∃v,nE w0 G L V (.optr r (lo+i.toNat) []) v/\∀w',(Ec T u (.int k i)).run P w' = .ok v w':=by
     intro lo hi hlo hhi h0 h1;rw[hlo,hhi]at hs1 hs3;rcases hs3 with ⟨_,_,_,_,h3⟩ | ⟨b,off,m,cap,o,c,hv,rfl,hle,hcase⟩
     ·lia
     ·have hcase:=(hcase.resolve_right (by lia)).1;subst hcase;subst ht;refine⟨_,⟨B,hB,by lia,b,off,m,cap,0,B.t,hv,rfl,rfl⟩,λw'=>?_⟩;rw[Si hT b (off+lo*B.t.size) (hi-lo) c h0 h1,oJ,fZ,fS]
    split at h
    ·cases h;simp[gZ]at hc;have:=key 0 B.xs.length rfl rfl hc.1 (by lia)
     grind
    ·cases h;exact key _ _ rfl rfl hc.1 hc.2.1
   lia
  lia
 lia
end
def Q1:Option (IntKind×Int)->Option Value
 | none=>none
 | some (k,n)=>some (.int k n)
def Q2:Option (IntKind×Int)->Option Int
 | some (_,n)=>some n
 | none=>none
theorem Ha{P:Program}{w:World}(isS:Bool)(len cap:Nat)(lo hi:Option (IntKind×Int))(hlc:len<=cap){l h:Int}
  (hl:l=(Q2 lo).getD 0) (hh:h=(Q2 hi).getD len) (h0:0<=l) (h1:l<=h) (h2:h<=len) :
  (Pn isS len cap (Q1 lo) (Q1 hi) none).run P w = .ok (l.toNat,h.toNat,cap) w:=by
 have hcap:h<=(cap:Int):=by lia
 unfold Pn;cases lo with
 | none=>cases hi with
  | none=>subst hl hh;rfl
  | some y =>
   obtain⟨k,m⟩:=y;simp[Q2]at hl hh;subst hl hh;simp[Q1,run_sliceBound (P:=P) w k h cap _ h1 hcap]
 | some x =>
  obtain⟨k,m⟩:=x;subst hl;cases hi with
  | none =>
   simp[Q2]at hh;subst hh;simp[Q1,run_sliceBound (P:=P) w k l len _ h0 h1]
  | some y =>
   obtain⟨k',m'⟩:=y;subst hh;simp[Q1,run_sliceBound (P:=P) w k' h cap _ (by lia) hcap,run_sliceBound (P:=P) w k l h.toNat _ h0 (by lia)]
def Lw(len:Int):Option Int->Option Int->Γ Prop×Int×Int
 | none,none=>([],0,len)
 | some l,none=>([0<=l,l<=len],l,len)
 | none,some h=>([0<=h,h<=len],0,h)
 | some l,some h=>([0<=l,l<=h,h<=len],l,h)
def aM4{α:Type}(xs:Γ α):Option Int->Option Int->Γ α
 | none,none=>xs
 | some l,none=>xs.drop l.toNat
 | none,some h=>xs.take h.toNat
 | some l,some h=>(xs.take h.toNat).drop l.toNat
def aAY(L:bM)(lo hi:Option Int):c7->Option (Γ Prop×c7)
 | .val (.string s)=>match Lw s.size lo hi with
  | (cs,l,h)=>some (cs,.val (.string (s.extract l.toNat h.toNat)))
 | .sl t xs=>match Lw xs.length lo hi with
  | (cs,_,_)=>some (cs,.sl t (aM4 xs lo hi))
 | .osl r rg=>match bZ L r with
  | some A=>match Lw ((Ht A.xs.length rg-zJ rg:Nat):Int) lo hi with
   | (cs,l,h)=>some (cs,.osl r (some (zJ rg+l.toNat,zJ rg+h.toNat)))
  | none=>none
 | _=>none
theorem Kb{len:Nat}{lo hi:Option Int}{cs:Γ Prop}{l h:Int}(hb:Lw len lo hi=(cs,l,h))(hc:gZ cs) :
  0<=l/\l<=h/\h<=len/\l=lo.getD 0/\h=hi.getD len:=by
 unfold Lw at hb
 grind [gZ]
theorem aHR{α:Type}{xs:Γ α}{lo hi:Option Int}{cs:Γ Prop}{l h:Int}(hb:Lw xs.length lo hi=(cs,l,h))(hc:gZ cs) :
  (aM4 xs lo hi).length=h.toNat-l.toNat/\∀i y,(aM4 xs lo hi)[i]? = some y->xs[l.toNat+i]? = some y:=by
 obtain⟨h0,h1,h2,hl,hh⟩:=Kb hb hc;unfold aM4
 grind
section
variable {P:Program} {n:Nat} {K:fG} {G:Nat->Prop} {w0 w:World} {a:Act} {E:gH} {L:bM} {V:Nat->Value} {own:Nat->Γ Nat}
theorem sE{T e:TypeId}{t:Ty}{by':Nat}(hT:Hu P T (.slice e t by'))(w:World)(adr:Option Addr)(len cap:Nat)(lo hi:Option (IntKind×Int))(hlc:len<=cap){l h:Int}
  (hl:l=(Q2 lo).getD 0) (hh:h=(Q2 hi).getD len) (h0:0<=l) (h1:l<=h) (h2:h<=len) :
  (A5 T (.slice adr len cap) (Q1 lo) (Q1 hi) none).run P w = .ok (.slice (if cap=l.toNat then adr else adr.map (·.add (l.toNat*t.size))) (h.toNat-l.toNat) (cap-l.toNat)) w:=by
 obtain⟨_,hu,he,_⟩:=hT;have hb:=Ha (P:=P) (w:=w) true len cap lo hi hlc hl hh h0 h1 h2;unfold A5 q';simp[run_underlying hu,hb,he.size_run]
theorem Lx{T:TypeId}(hT:rL P T .str)(w:World)(s:Δ)(lo hi:Option (IntKind×Int)){l h:Int}
  (hl:l=(Q2 lo).getD 0) (hh:h=(Q2 hi).getD s.size) (h0:0<=l) (h1:l<=h) (h2:h<=s.size) :
  (A5 T (.string s) (Q1 lo) (Q1 hi) none).run P w = .ok (.string (s.extract l.toNat h.toNat)) w:=by
 obtain⟨d,hd,hf⟩:=hT.und;have hd':d = .string:=by grind [xM]
 subst hd';have hb:=Ha (P:=P) (w:=w) false s.size s.size lo hi (aU _) hl hh h0 h1 h2;unfold A5 q';simp[run_underlying hd,hb]
theorem Ta(s:Δ)(l h:Nat):(s.extract l h).size<=s.size:=by
 grind [mW]
theorem Ex(x y:Nat):zJ (some (x,y))=x:=rfl
theorem Bs(n x y:Nat):Ht n (some (x,y))=y:=rfl
def aSb(L:bM)(ti:TI):c7->Prop
 | .sl t _=>∃e b,ti = .slice e t b
 | .osl r _=>∃B,bZ L r=some B/\∃e b,ti = .slice e B.t b
 | .val (.string _)=>ti = .scal .str
 | _=>True
def aHS(ti:TI):c7->Prop
 | .val (.string _)=>ti = .scal .str
 | _=>∃e t b,ti = .slice e t b
theorem tx{T:TypeId}{ti:TI}(hT:Hu P T ti)(hok:(∃e t b,ti = .slice e t b)\/ti = .scal .str){lo hi:Option (IntKind×Int)}{A A':c7}{cs:Γ Prop}{u:Value}(hu:nE w0 G L V A u)
  (hty:aSb L ti A)
  (h:aAY L (Q2 lo) (Q2 hi) A=some (cs,A')) (hc:gZ cs) :
  ∃v,nE w0 G L V A' v/\∀w',(A5 T u (Q1 lo) (Q1 hi) none).run P w' = .ok v w':=by
 unfold aAY at h;split at h
 ·rename_i s;simp only[aSb,aHS]at hty;subst hty;split at h;rename_i cs' l h' hb;cases h;obtain⟨h0,h1,h2,hl,hh⟩:=Kb hb hc;obtain⟨rfl,hs⟩:=hu;exact⟨_,⟨rfl,gI (Ta _ _ _) hs⟩,λw'=>Lx hT w' s lo hi hl hh h0 h1 h2⟩
 ·rename_i t xs;obtain⟨e,b,rfl⟩:=hty;split at h;rename_i cs' l h' hb;cases h;obtain⟨h0,h1,h2,hl,hh⟩:=Kb hb hc;obtain⟨hlen,bZ⟩:=aHR hb hc;rcases hu.2 with ⟨ad,rfl,rfl⟩ | ⟨b',off,cap,rfl,h3,h4,h5,h6⟩
  ·refine⟨.slice ad 0 0,⟨by grind,.inl ⟨ad,rfl,bN (by grind)⟩⟩,λw'=>?_⟩;simp at h2;have e0:l=0:=by lia
   have e1:h'=0:=by lia
   subst e0 e1;rw[sE hT w' ad 0 0 lo hi (aU _) hl hh h0 h1 h2];rfl
  ·refine⟨_,⟨?_,.inr ⟨b',if cap=l.toNat then off else off+l.toNat*t.size,cap-l.toNat,rfl,?_,?_,h5,?_⟩⟩,λw'=>?_⟩
   ·lia
   ·lia
   ·lia
   ·grind
   ·rw[sE hT w' _ xs.length cap lo hi h3 hl hh h0 h1 h2,hlen];by_cases hcl:cap=l.toNat
    ·lia
    ·rw[ν hcl,ν hcl];simp[fX]
 ·rename_i r rg;obtain⟨B,hB,e,b,rfl⟩:=hty;obtain⟨B',hB',_,hs1,hs2,hs3⟩:=hu;rw[hB]at hB';cases hB';rw[hB]at h;obtain⟨cs',l,h',hb⟩:∃cs' l h',Lw ((Ht B.xs.length rg-zJ rg:Nat):Int) (Q2 lo) (Q2 hi)=(cs',l,h'):=⟨_,_,_,rfl⟩;simp only[hb]at h;cases h;obtain⟨h0,h1,h2,hl,hh⟩:=Kb hb hc;rcases hs3 with ⟨ad,ad',hV,rfl,hz⟩ | ⟨b',off,m,cap,o,c,hV,rfl,hle,hcase⟩
  ·have e2:Ht B.xs.length rg-zJ rg=0:=by lia
   rw[e2]at h2 hh;have e0:l=0:=by lia
   have e1:h'=0:=by lia
   subst e0 e1;refine⟨_,⟨B,hB,(λh=>by lia),?_,?_,.inl ⟨ad,ad',hV,rfl,hz⟩⟩,λw'=>?_⟩
   ·simp[Ex,Bs]
   ·grind [Bs]
   ·rw[sE hT w' ad' 0 0 lo hi (aU _) hl hh h0 h1 h2];rfl
  ·refine⟨_,⟨B,hB,(λh=>by lia),?_,?_,.inr ⟨b',off,m,cap,if c=l.toNat then o else o+l.toNat*B.t.size,c-l.toNat,hV,rfl,?_,?_⟩⟩,λw'=>?_⟩
   ·grind [Ex,Bs]
   ·grind [Bs]
   ·grind [Ex,Bs]
   ·by_cases hcl:c=l.toNat
    ·right;refine⟨by lia,?_⟩;rw[π hcl];rcases hcase with ⟨ho,hcap⟩ | ⟨_,ho⟩
     ·rw[ho];exact Nat.add_le_add_left (cV _ (by lia)) _
     lia
    ·left;rw[ν hcl]
     grind [Ex,fZ,fS]
   ·rw[sE hT w' _ _ c lo hi hle hl hh h0 h1 h2];simp only[Ex,Bs];have e3:zJ rg+h'.toNat-(zJ rg+l.toNat)=h'.toNat-l.toNat:=by lia
    rw[e3];by_cases hcl:c=l.toNat
    ·lia
    ·rw[ν hcl,ν hcl];simp[fX]
 lia
theorem aF1(hR:bQ n K w0 G w a E L V own){T:TypeId}{ti:TI}(hT:Hu P T ti)(hok:(∃e t b,ti = .slice e t b)\/ti = .scal .str){A:c7}{i:Int}{u:Value}(hu:nE w0 G L V A u)(h:aSa L A=some i)
  (hty:aHS ti A) (ty:TypeId) :
  OR (.int .i64 i)/\∀w',(HI #[T] ty #[u]).run P w' = .ok (.int .i64 i) w':=by
 have slrun:∀(e:TypeId) (t:Ty) (b:Nat),ti = .slice e t b->∀(adr:Option Addr) (l c:Nat) (w':World),(HI #[T] ty #[.slice adr l c]).run P w' = .ok (.int .i64 l) w':=by
  rintro e t b rfl adr l c w';obtain⟨_,hu,_,_⟩:=hT;simp[HI,run_underlying hu,goInt]
 have i64:∀m:Nat,m<=maxLen->OR (.int .i64 (m:Int)):=by
  intro m hm;unfold maxLen at hm;grind [OR,aX,qH,qI,oI]
 unfold aSa at h;split at h
 ·cases h;subst hty;obtain⟨rfl,hs⟩:=hu;refine⟨i64 _ hs,λw'=>?_⟩;obtain⟨d,hd,hf⟩:=hT.und;have hd':d = .string:=by grind [xM]
  subst hd';simp[HI,run_underlying hd,goInt]
 ·cases h;obtain⟨e,t,b,rfl⟩:=hty;obtain⟨rfl,h1,h2⟩:=hu
  grind
 ·cases h;obtain⟨e,t',b,rfl⟩:=hty;rcases hu.2 with ⟨ad,rfl,rfl⟩ | ⟨b',off,cap,rfl,_⟩
  all_goals grind
 ·rename_i r rg;obtain⟨e,t',b,rfl⟩:=hty;split at h
  ·rename_i B hB;obtain⟨B',hB',_,hs1,hs2,hs3⟩:=hu;rw[hB]at hB';have hown:=hR.heap r B hB;have hwf:=hown.len;have key:i=((Ht B.xs.length rg-zJ rg:Nat):Int):=by
    grind [zJ,Ht]
   grind
  lia
 lia
end
def DG:(t:Ty)->c7->Option t.den
 | .int k,.val (.int k' n)=>match decide (k=k')with | true=>some n | false=>none
 | .bool,.val (.bool b)=>some b
 | .fn,.val v=>aFz v
 | .str,.val (.string s)=>some s
 | .sl _,.val (.slice none _ _)=>some []
 | .sl e,.sl t xs=>if h:t=e then some (h ▸ xs)else none
 | .unit,.st t x=>if h:t = .unit then some ()else none
 | .cons a b,.st t x=>if h:t = .cons a b then some (h ▸ x)else none
 | _,_=>none
theorem Bt{w:World}{G:Nat->Prop}:∀ {t:Ty} {A:c7} {x:t.den} {v:Value},yZ w G A v->DG t A=some x->∃cs,fI w G t x cs/\v=gY t cs
 | .int k,A,x,v,hr,h=>by
  cases A with
  | val u=>cases u with
   | int k' n =>
    simp[DG]at h;split at h
    ·rename_i hd;have:=of_decide_eq_true hd;cases h;obtain⟨rfl,ho⟩:=hr;subst this;exact⟨_,⟨rfl,ho⟩,rfl⟩
    lia
   | _=>cases h
  | _=>cases h
 | .bool,A,x,v,hr,h=>by
  cases A with
  | val u=>cases u with
   | bool b=>cases h;obtain⟨rfl,ho⟩:=hr;exact⟨_,rfl,rfl⟩
   | _=>cases h
  | _=>cases h
 | .fn,A,x,v,hr,h=>by
  cases A with
  | val u =>
   obtain⟨rfl,ho⟩:=hr;exact⟨_,rfl,by rw[ee (show aFz _=some x from h)];rfl⟩
  | _=>cases h
 | .str,A,x,v,hr,h=>by
  cases A with
  | val u=>cases u with
   | string b=>cases h;obtain⟨rfl,ho⟩:=hr;exact⟨_,⟨rfl,ho⟩,rfl⟩
   | _=>cases h
  | _=>cases h
 | .sl e,A,x,v,hr,h=>by
  cases A with
  | val u=>cases u with
   | slice b n c=>cases b with
    | none =>
     cases h;obtain⟨rfl,h1,h2⟩:=hr;subst h1 h2;exact⟨_,⟨_,rfl,aY _,.inl ⟨_,rfl,rfl⟩⟩,rfl⟩
    | some b=>cases h
   | _=>cases h
  | sl t xs =>
   simp only[DG]at h;split at h
   ·rename_i ht;subst ht;cases h;exact⟨_,⟨v,rfl,hr⟩,rfl⟩
   lia
  | _=>cases h
 | .unit,A,x,v,hr,h=>by
  cases A with
  | st t y =>
   simp only[DG]at h;split at h
   ·rename_i ht;subst ht;obtain⟨cs,rfl,hc⟩:=hr;exact⟨cs,hc,rfl⟩
   lia
  | val u=>cases u <;> cases h
  | _=>cases h
 | .cons a b,A,x,v,hr,h=>by
  cases A with
  | st t y =>
   simp only[DG]at h;split at h
   ·rename_i ht;subst ht;cases h;obtain⟨cs,rfl,hc⟩:=hr;exact⟨cs,hc,rfl⟩
   lia
  | val u=>cases u <;> cases h
  | _=>cases h
def aHT:(t:Ty)->t.den->Nat->c7->Option t.den
 | .cons a _,x,0,A=>match DG a A with | some y=>some (y,x.2) | none=>none
 | .cons _ b,x,n+1,A=>match aHT b x.2 n A with | some y=>some (x.1,y) | none=>none
 | _,_,_,_=>none
def fT(cs:Γ Value)(o:Nat)(c:Γ Value):Γ Value:=cs.take o++c++cs.drop (o+c.length)
theorem Zg{w:World}{G:Nat->Prop}{A:c7}{v:Value}(hA:∀t (x:t.den),DG t A=some x->yZ w G A v):∀ {t:Ty} {x x':t.den} {n:Nat} {cs:Γ Value},aHT t x n A=some x'->fI w G t x cs ->
  ∃o ft c,kT t n=some (o,ft)/\v=gY ft c/\(∃y,fI w G ft y c)/\o+ft.size<=cs.length/\fI w G t x' (fT cs o c)
 | .cons a b,x,x',0,cs,h,hr=>by
  obtain⟨c1,c2,rfl,h1,h2⟩:=hr;simp[aHT]at h;split at h
  ·rename_i y hy;cases h;obtain⟨c,hc,hv⟩:=Bt (hA _ _ hy) hy;refine⟨0,a,c,rfl,hv,⟨y,hc⟩,by rw[bS,h1.length];lia,c,c2,?_,hc,h2⟩;simp[fT,hc.length, <- h1.length]
  lia
 | .cons a b,x,x',n+1,cs,h,hr=>by
  obtain⟨c1,c2,rfl,h1,h2⟩:=hr;simp only[aHT]at h;split at h
  ·rename_i y hy;cases h;obtain⟨o,ft,c,ho,hv,hl,hle,hc⟩:=Zg hA (t:=b) hy h2;refine⟨a.size+o,ft,c,by grind [kT],hv,hl,by rw[bS,h1.length];lia,c1,fT c2 o c,?_,h1,hc⟩;simp[fT, <- h1.length,AU,eA,fS]
  lia
 | .int _,_,_,_,_,h,_=>by cases h
 | .bool,_,_,_,_,h,_=>by cases h
 | .fn,_,_,_,_,h,_=>by cases h
 | .str,_,_,_,_,h,_=>by cases h
 | .sl _,_,_,_,_,h,_=>by cases h
 | .unit,_,_,_,_,h,_=>by cases h
def Q3(t:Ty):t.den->Γ (Nat×PV)->Option t.den
 | x,[]=>some x
 | x,(n,.a A)::r=>match aHT t x n A with | some y=>Q3 t y r | none=>none
 | _,_=>none
theorem jA(w:World)(G:Nat->Prop):∀t:Ty,fI w G t t.dflt (fN t)
 | .int k=>⟨rfl,by cases k <;> simp[aX,qH,qI,oI,nT,Ty.dflt]⟩
 | .bool=>rfl
 | .fn=>rfl
 | .str=>⟨rfl,aY _⟩
 | .sl e=>⟨_,rfl,aY _,.inl ⟨_,rfl,rfl⟩⟩
 | .unit=>rfl
 | .cons a b=>⟨_,_,rfl,jA w G a,jA w G b⟩
theorem tz(cells:Array Value)(off:Nat)(c:Γ Value)(h:off+c.length<=cells.size) :
  (c.toArray.zipIdx.foldl (λcs (x:Value×Nat)=>cs.setIfInBounds (off+x.2) x.1) cells).toList=fT cells.toList off c:=by
 have key:∀(c:Γ Value) (k:Nat) (cells:Array Value),off+k+c.length<=cells.size ->
   ((c.zipIdx k).foldl (λcs (x:Value×Nat)=>cs.setIfInBounds (off+x.2) x.1) cells).toList=cells.toList.take (off+k)++c++cells.toList.drop (off+k+c.length):=by
  intro c
  induction c with
  | nil=>simp
  | cons v r ih =>
   intro k cells h;simp;rw[ih (k+1) _ (by grind)];have h1:off+(k+1)=off+k+1:=by lia
   have hlt:off+k<cells.toList.length:=by grind
   rw[h1,iC];simp[HJ hlt];rw[LW (aU _),LX (by lia)]
   lia
 grind [fT]
section
variable {P:Program}
theorem Q4(place:Nat->Option (Nat×Nat))(cells:Γ Value)(n o:Nat)(v:Value)(c:Γ Value)(sz:Nat)(rest:Γ (Nat×Value))(hp:place n=some (o,sz))(hv:v.cells.toList=c)(hl:c.length=sz)(hle:o+sz<=cells.length) :
  tY place cells.toArray ((n,v)::rest)=tY place (fT cells o c).toArray rest:=by
 have hs:v.cells.size=sz:=by grind
 have hcs:v.cells=c.toArray:=by grind
 simp[tY,hp];rw[ν (by grind)]
 congr 1
 have h3:=tz cells.toArray o c (by grind)
 grind
theorem sR{t:Ty}{cs:Γ Value}{w:World}{G:Nat->Prop}{x:t.den}(h:fI w G t x cs):(gY t cs).cells.toList=cs:=by
 unfold gY;by_cases ha:t.agg=true
 ·rw[π ha];rfl
 ·have h1:t.size=1:=by cases t <;> simp_all [Ty.agg,Ty.size]
  have hl:=h.length;rw[h1]at hl
  match cs,hl with
  | [c],_ =>
   cases t with
   | int k=>obtain⟨h,_⟩:=h;cases h;rfl
   | bool=>cases h;rfl
   | fn=>cases h;cases x <;> rfl
   | str=>obtain⟨h,_⟩:=h;cases h;rfl
   | sl e =>
    obtain⟨v,h,h2⟩:=h;cases h;rcases h2.2 with ⟨_,rfl,_⟩ | ⟨b,off,cap,rfl,_⟩ <;> rfl
   | unit=>grind [Ty.agg]
   | cons a b=>grind [Ty.agg]
def Ey(w:World)(G:Nat->Prop):Γ (Nat×PV)->Γ (Nat×Value)->Prop
 | [],vs=>vs=[]
 | p::r,vs=>∃v s,vs=(p.1,v)::s/\(∀A,p.2 = .a A->∀t (x:t.den),DG t A=some x->yZ w G A v)/\Ey w G r s
theorem Sk{w:World}{G:Nat->Prop}{t:Ty}{place:Nat->Option (Nat×Nat)}(hpl:∀n o ft,kT t n=some (o,ft)->place n=some (o,ft.size)) :
  ∀ {parts:Γ (Nat×PV)} {vs:Γ (Nat×Value)} {x x':t.den} {cs:Γ Value},Q3 t x parts=some x'->Ey w G parts vs->fI w G t x cs ->
  ∃cs',tY place cs.toArray vs=some cs'.toArray/\fI w G t x' cs'
 | [],vs,x,x',cs,h,hv,hr=>by
  cases hv;cases h;exact⟨cs,rfl,hr⟩
 | (n,.a A)::r,vs,x,x',cs,h,hv,hr=>by
  obtain⟨v,s,rfl,h1,h2⟩:=hv;simp[Q3]at h;split at h
  ·rename_i y hy;obtain⟨o,ft,c,ho,hvc,⟨z,hz⟩,hle,hrep⟩:=Zg (h1 A rfl) hy hr;obtain⟨cs',hf,hr'⟩:=Sk hpl h h2 hrep;refine⟨cs',?_,hr'⟩;rw[Q4 place cs n o v c ft.size s (hpl n o ft ho) (by grind [sR]) hz.length hle]
   lia
  lia
 | (_,.tup _)::_,_,_,_,_,h,_,_=>by cases h
 | (_,.fn _ _)::_,_,_,_,_,h,_,_=>by cases h
theorem Uf{α β:Type}{w:World}(f:α->Sem β)(g:α->β):∀(l:Γ α),(∀x∈l,(f x).run P w = .ok (g x) w)->(l.mapM f).run P w = .ok (l.map g) w
 | [],_=>by rfl
 | x::r,h=>by
  simp[h x (aR ..),Uf f g r (λy hy=>h y (aM _ hy)),fP,dY]
theorem Dm:∀ {fs:Γ Field} {t:Ty} {o:Nat},IJ P fs t o->∀f∈fs,∃ft,rL P f.type ft
 | f::fs,.cons a b,o,h,g,hg=>by
  rcases bA.1 hg with rfl | hg
  ·exact⟨a,h.2.1⟩
  ·exact Dm h.2.2.2 g hg
 | [],.unit,_,_,_,hg=>by grind
 | [],.int _,_,h,_,_=>h.elim
 | [],.bool,_,h,_,_=>h.elim
 | [],.fn,_,h,_,_=>h.elim
 | [],.str,_,h,_,_=>h.elim
 | [],.sl _,_,h,_,_=>h.elim
 | [],.cons _ _,_,h,_,_=>h.elim
 | _::_,.int _,_,h,_,_=>h.elim
 | _::_,.bool,_,h,_,_=>h.elim
 | _::_,.fn,_,h,_,_=>h.elim
 | _::_,.str,_,h,_,_=>h.elim
 | _::_,.sl _,_,h,_,_=>h.elim
 | _::_,.unit,_,h,_,_=>h.elim
theorem aF2{T:TypeId}{t:Ty}(hT:Hu P T (.struct t))(ha:t.agg=true){w0:World}{G:Nat->Prop}{parts:Γ (Nat×PV)}{vs:Γ (Nat×Value)}{x:t.den}
  (h:Q3 t t.dflt parts=some x) (hv:Ey w0 G parts vs):∃cs,fI w0 G t x cs/\∀w:World,(KP T vs.toArray).run P w = .ok (.agg cs.toArray) w:=by
 obtain⟨ht,fs,hu,hfs,_⟩:=hT
 let place:Nat->Option (Nat×Nat):=λi=>(fs.toList.map λf=>(f.offset,P.cellsOf f.type)).toArray[i]?
 have hcell:∀ {T:TypeId} {t:Ty},rL P T t->P.cellsOf T=t.size:=λ{T t} h=>by
  obtain⟨i,hi,hs,_⟩:=h.info
  grind [Tn]
 have hpl:∀n o ft,kT t n=some (o,ft)->place n=some (o,ft.size):=λn o ft hf=>by
  obtain⟨f,h1,h2,h3,_⟩:=CB hfs hf
  grind
 obtain⟨cs,hf,hr⟩:=Sk hpl h hv (jA w0 G t);refine⟨cs,hr,λw=>?_⟩;unfold KP;have hz:(gY t (fN t)).cells=(fN t).toArray:=by
  have h5:=congrArg rD (sR (jA w0 G t))
  grind
 have hm:(fs.mapM λf=>do pure (f.offset, <- sizeOf f.type):Sem (Array (Nat×Nat))).run P w = .ok (fs.toList.map λf=>(f.offset,P.cellsOf f.type)).toArray w:=by
  rw[DJ];simp;rw[Uf _ (λf=>(f.offset,P.cellsOf f.type)) fs.toList (λf hf=>by
   obtain⟨ft,h⟩:=Dm hfs f hf;simp[h.size_run,hcell h])]
  rfl
 simp[ht.zero_run,run_underlying hu];have hf':tY (λx=>(fs.toList.map λf=>(f.offset,P.cellsOf f.type)).toArray[x]?) (fN t).toArray vs=some cs.toArray:=hf;simp_all
end
def aAZ:Value->Bool
 | .int _ _=>true
 | .bool _=>true
 | .string _=>true
 | .nilFunc=>true
 | .func _ _ _=>true
 | .slice none _ _=>true
 | _=>false
def bLs:(t:Ty)->t.den->Γ gB
 | .int k,n=>[.val (.int k n)]
 | .bool,b=>[.val (.bool b)]
 | .fn,f=>[.val (fnV f)]
 | .str,s=>[.val (.string s)]
 | .sl e,xs=>[.sl e xs]
 | .unit,_=>[]
 | .cons a b,x=>bLs a x.1++bLs b x.2
def zLs:Ty->Γ gB
 | .int k=>[.val (.int k 0)]
 | .bool=>[.val (.bool false)]
 | .fn=>[.val .nilFunc]
 | .str=>[.val (.string aC)]
 | .sl _=>[.val (.slice none 0 0)]
 | .unit=>[]
 | .cons a b=>zLs a++zLs b
def ey(t:Ty):c7->Option (Γ gB)
 | .val v=>match DG t (.val v),aAZ v && !t.agg with
  | some _,true=>some [.val v]
  | _,_=>none
 | .sl t' xs=>match t with
  | .sl e=>if h:t'=e then some [.sl t' xs] else none
  | _=>none
 | .osl r rg=>match t with
  | .sl e=>some [.osl r rg]
  | _=>none
 | .rcd t' ls=>match decide (t'=t),t.agg with
  | true,true=>some ls
  | _,_=>none
 | .st t' x=>match decide (t'=t),t.agg with
  | true,true=>some (bLs t' x)
  | _,_=>none
 | _=>none
def Fe(ls:Γ gB)(o:Nat)(l:Γ gB):Γ gB:=ls.take o++l++ls.drop (o+l.length)
def Ff(t:Ty):Γ gB->Γ (Nat×PV)->Option (Γ gB)
 | ls,[]=>some ls
 | ls,(n,.a A)::r=>match kT t n with
  | some (o,ft)=>match ey ft A with
   | some l=>Ff t (Fe ls o l) r
   | none=>none
  | none=>none
 | _,_=>none
section
variable {P:Program} {n:Nat} {K:fG} {G:Nat->Prop} {w0 w:World} {a:Act} {E:gH} {L:bM} {V:Nat->Value} {own:Nat->Γ Nat}
variable {v:Value}
theorem oA.one{α:Type}{R:α->Γ Value->Prop}{sz:Nat}{xs:Γ α}(h:oA w G R sz xs v):v.oneCell'=true:=by
 rcases h.2 with ⟨_,rfl,_⟩ | ⟨b,off,cap,rfl,_⟩ <;> rfl
theorem QW.one{r:Nat}{rg:Option (Nat×Nat)}(h:QW L V r rg v):v.oneCell'=true:=by
 obtain⟨A,_,_,_,_,h⟩:=h;rcases h with ⟨_,_,_,rfl,_⟩ | ⟨b,off,m,cap,o,c,_,rfl,_⟩ <;> rfl
theorem U3.one{l:gB}{v:Value}(h:U3 w0 G L V l v):v.oneCell'=true:=by
 cases l with
 | val u=>obtain⟨rfl,_,h⟩:=h;lia
 | sl t xs=>exact oA.one h
 | osl r rg=>exact QW.one h
 | junk=>exact h
theorem iG.one:∀ {ls:Γ gB} {cs:Γ Value},iG w0 G L V ls cs->∀c∈cs,c.oneCell'=true
 | [],_,h,c,hc=>by cases h;grind
 | _::_,_,⟨v,r,h,h1,h2⟩,c,hc=>by
  subst h;rcases bA.1 hc with rfl | hc
  ·exact h1.one
  ·exact h2.one c hc
theorem xO:∀ {ls ms:Γ gB} {cs ds:Γ Value},iG w0 G L V ls cs->iG w0 G L V ms ds->iG w0 G L V (ls++ms) (cs++ds)
 | [],_,_,_,h,h2=>by cases h;grind
 | _::_,_,_,_,⟨v,r,h,h1,h3⟩,h2=>by subst h;exact⟨v,_,rfl,h1,xO h3 h2⟩
theorem aBa(h:aAZ v=true):v.oneCell'=true:=by
 unfold aAZ at h;split at h <;> first | rfl | lia
theorem Ug:∀ {t:Ty} {x:t.den},(bLs t x).length=t.size
 | .int _,_=>rfl
 | .bool,_=>rfl
 | .fn,_=>rfl
 | .str,_=>rfl
 | .sl _,_=>rfl
 | .unit,_=>rfl
 | .cons a b,x=>by simp[bLs,Ty.size,Ug]
theorem ez:∀ {t:Ty} {x:t.den} {cs:Γ Value},fI w0 G t x cs->iG w0 G L V (bLs t x) cs
 | .int _,_,_,h=>by obtain⟨rfl,h⟩:=h;exact⟨_,_,rfl,⟨rfl,h,rfl⟩,rfl⟩
 | .bool,_,_,h=>by cases h;exact⟨_,_,rfl,⟨rfl,trivial,rfl⟩,rfl⟩
 | .fn,x,_,h=>by cases h;exact⟨_,_,rfl,⟨rfl,aAU x,Tw x⟩,rfl⟩
 | .str,_,_,h=>by obtain⟨rfl,h⟩:=h;exact⟨_,_,rfl,⟨rfl,h,rfl⟩,rfl⟩
 | .sl _,_,_,h=>by obtain⟨v,rfl,h⟩:=h;exact⟨_,_,rfl,h,rfl⟩
 | .unit,_,_,h=>h
 | .cons a b,x,_,h=>by
  obtain⟨c1,c2,rfl,h1,h2⟩:=h;exact xO (ez h1) (ez h2)
theorem Ly:∀ {t:Ty},(zLs t).length=t.size
 | .int _=>rfl
 | .bool=>rfl
 | .fn=>rfl
 | .str=>rfl
 | .sl _=>rfl
 | .unit=>rfl
 | .cons a b=>by simp[zLs,Ty.size,Ly]
theorem UA:∀ {t:Ty},iG w0 G L V (zLs t) (fN t)
 | .int k=>⟨_,_,rfl,⟨rfl,(jA w0 G (.int k)).2,rfl⟩,rfl⟩
 | .bool=>⟨_,_,rfl,⟨rfl,trivial,rfl⟩,rfl⟩
 | .fn=>⟨_,_,rfl,⟨rfl,trivial,rfl⟩,rfl⟩
 | .str=>⟨_,_,rfl,⟨rfl,aY _,rfl⟩,rfl⟩
 | .sl _=>⟨_,_,rfl,⟨rfl,⟨rfl,rfl⟩,rfl⟩,rfl⟩
 | .unit=>rfl
 | .cons a b=>xO UA UA
theorem Uh{t:Ty}{A:c7}{ls:Γ gB}(hA:nE w0 G L V A v)(h:ey t A=some ls) :
  ∃cs,v=gY t cs/\ls.length=t.size/\cs.length=t.size/\iG w0 G L V ls cs/\v.cells.toList=cs:=by
 cases A with
 | val u =>
  simp[ey]at h;split at h
  ·rename_i x hd hk;simp at hk;cases h;obtain⟨cs,hc,hv⟩:=Bt (w:=w0) (G:=G) (A := .val u) hA hd;have h1:t.size=1:=by cases t <;> simp_all [Ty.agg,Ty.size]
   have hl:=hc.length;have hcells:=sR hc;rw[h1]at hl;have hvc:cs=[v]:=by
    match cs,hl with
    | [c],_=>rw[hv,gY,ν (by lia)];rfl
   refine⟨cs,hv,by grind,by lia,?_,by lia⟩;rw[hvc];obtain⟨rfl,ho⟩:=hA;exact⟨_,_,rfl,⟨rfl,ho,aBa hk.1⟩,rfl⟩
  lia
 | sl t' xs =>
  simp[ey]at h;split at h
  ·split at h
   ·cases h;refine⟨[v],rfl,rfl,rfl,⟨_,_,rfl,hA,rfl⟩,?_⟩;rcases hA.2 with ⟨_,rfl,_⟩ | ⟨b,off,cap,rfl,_⟩ <;> rfl
   lia
  lia
 | osl r rg =>
  simp[ey]at h;split at h
  ·cases h;refine⟨[v],rfl,rfl,rfl,⟨_,_,rfl,hA,rfl⟩,?_⟩;obtain⟨A,_,_,_,_,hA⟩:=hA;rcases hA with ⟨_,_,_,rfl,_⟩ | ⟨b,off,m,cap,o,c,_,rfl,_⟩ <;> rfl
  lia
 | rcd t' ls' =>
  simp[ey]at h;split at h
  ·rename_i ht ha;obtain rfl:=of_decide_eq_true ht;cases h;obtain⟨cs,rfl,hl,hr⟩:=hA;exact⟨cs,by rw[gY,π ha],hl,by grind [Ew],hr,by rfl⟩
  lia
 | st t' x =>
  simp[ey]at h;split at h
  ·rename_i ht ha;obtain rfl:=of_decide_eq_true ht;cases h;obtain⟨cs,rfl,hr⟩:=hA;exact⟨cs,by rw[gY,π ha],Ug,hr.length,ez hr,by rfl⟩
  lia
 | _=>cases h
theorem Sl{ls l:Γ gB}{cs c:Γ Value}{o:Nat}(h:iG w0 G L V ls cs)(h1:iG w0 G L V l c):iG w0 G L V (Fe ls o l) (fT cs o c):=by
 grind [Fe,fT,Ew,xO,qO,qN]
theorem IN{ls l:Γ gB}{o:Nat}(h:o+l.length<=ls.length):(Fe ls o l).length=ls.length:=by
 grind [Fe]
theorem OY{t:Ty}{place:Nat->Option (Nat×Nat)}(hpl:∀n o ft,kT t n=some (o,ft)->place n=some (o,ft.size))(hR:bQ n K w0 G w a E L V own) :
  ∀ {parts:Γ (Nat×Operand)} {ls ls':Γ gB} {cs:Γ Value},Ff t ls (parts.map λp=>(p.1,opnd E p.2))=some ls'->ls.length=t.size->iG w0 G L V ls cs ->
  ∃cs',tY place cs.toArray (parts.map λp=>(p.1,a.eval p.2))=some cs'.toArray/\ls'.length=t.size/\iG w0 G L V ls' cs'
 | [],ls,ls',cs,h,hl,hr=>by cases h;exact⟨cs,rfl,hl,hr⟩
 | p::r,ls,ls',cs,h,hl,hr=>by
  simp at h ⊢;cases hp:opnd E p.2 with
  | a A =>
   rw[hp]at h;simp[Ff]at h;split at h
   ·rename_i o ft ho;split at h
    ·rename_i l hls;obtain⟨c,e1,e2,e3,e4,e5⟩:=Uh (hR.atom hp) hls;have hle:=Ka ho;have hcl:=Ew hr;obtain⟨cs',f1,f2,f3⟩:=OY hpl hR h (by grind [IN]) (Sl hr e4)
     grind [Q4]
    lia
   lia
  | tup _=>rw[hp]at h;cases h
  | fn _ _=>rw[hp]at h;cases h
theorem ua{T:TypeId}{t:Ty}(hT:Hu P T (.struct t))(hR:bQ n K w0 G w a E L V own){parts:Γ (Nat×Operand)}{ls:Γ gB}
  (h:Ff t (zLs t) (parts.map λp=>(p.1,opnd E p.2))=some ls):∃cs,ls.length=t.size/\iG w0 G L V ls cs/\∀w':World,(KP T (parts.map λp=>(p.1,a.eval p.2)).toArray).run P w' = .ok (.agg cs.toArray) w':=by
 obtain⟨ht,fs,hu,hfs,_⟩:=hT
 let place:Nat->Option (Nat×Nat):=λi=>(fs.toList.map λf=>(f.offset,P.cellsOf f.type)).toArray[i]?
 have hcell:∀ {T:TypeId} {t:Ty},rL P T t->P.cellsOf T=t.size:=λ{T t} h=>by
  obtain⟨i,hi,hs,_⟩:=h.info
  grind [Tn]
 have hpl:∀n o ft,kT t n=some (o,ft)->place n=some (o,ft.size):=λn o ft hf=>by
  obtain⟨f,h1,h2,h3,_⟩:=CB hfs hf
  grind
 obtain⟨cs,hf,hl,hr⟩:=OY hpl hR h Ly UA;refine⟨cs,hl,hr,λw'=>?_⟩;unfold KP;have hz:(gY t (fN t)).cells=(fN t).toArray:=by
  have h5:=congrArg rD (sR (jA w0 G t))
  grind
 have hm:(fs.mapM λf=>do pure (f.offset, <- sizeOf f.type):Sem (Array (Nat×Nat))).run P w' = .ok (fs.toList.map λf=>(f.offset,P.cellsOf f.type)).toArray w':=by
  rw[DJ];simp;rw[Uf _ (λf=>(f.offset,P.cellsOf f.type)) fs.toList (λf hf=>by
   obtain⟨ft,h⟩:=Dm hfs f hf;simp[h.size_run,hcell h])]
  rfl
 simp[ht.zero_run,run_underlying hu];have hf':tY (λx=>(fs.toList.map λf=>(f.offset,P.cellsOf f.type)).toArray[x]?) (fN t).toArray (parts.map λp=>(p.1,a.eval p.2))=some cs.toArray:=hf;simp_all
end
def aSc:Γ c7->Nat->Option c7
 | [],_=>none
 | a::_,0=>some a
 | _::r,n+1=>aSc r n
def UB(E:gH):Γ Operand->Option (Γ c7)
 | []=>some []
 | x::r=>match opnd E x,UB E r with
  | .a A,some s=>some (A::s)
  | _,_=>none
def jQ(xs:Γ Int):Δ:=xs.foldl (λr n=>r.push (UInt8.ofNat n.toNat)) aC
def aHU(L:bM)(ti:TI):c7->Bool
 | .val (.string _)=>match ti with | .scal .str=>true | _=>false
 | .sl t _=>match ti with | .slice _ t' _=>decide (t=t') | _=>false
 | .osl r _=>match bZ L r,ti with | some A,.slice _ t' _=>decide (A.t=t') | _,_=>false
 | _=>false
def aZM:TI->Bool
 | .slice _ _ _=>true
 | _=>false
def aHV(ti:TI):c7->Bool
 | .val (.string _)=>match ti with | .scal .str=>true | _=>false
 | _=>aZM ti
def aM5(E:gH):Option Operand->Option (Option Int)
 | none=>some none
 | some x=>match opnd E x with | .a (.val (.int _ n))=>some (some n) | _=>none
def aF3(isMax:Bool)(x y:Int):Int:=match isMax with | true=>if x<y then y else x | false=>if y<x then y else x
def Ui(tab:Γ TI)(L:bM)(b:Builtin)(args:Γ PV)(ts:Γ TypeId):Option (Γ Prop×PV) :=
 match b,args,ts with
 | .len,[.a A],[T]=>match aHV (jO tab T) A,aSa L A with
  | true,some i=>some ([],.a (.val (.int .i64 i)))
  | _,_=>none
 | .min,[.a (.val (.int k x)),.a (.val (.int k' y))],_=>match decide (k=k')with
  | true=>some ([],.a (.val (.int k (aF3 false x y))))
  | false=>none
 | .max,[.a (.val (.int k x)),.a (.val (.int k' y))],_=>match decide (k=k')with
  | true=>some ([],.a (.val (.int k (aF3 true x y))))
  | false=>none
 | _,_,_=>none
def aSd(tab:Γ TI)(wr:Bool)(op:BinOp)(T:TypeId):PV->PV->Option (Γ Prop×PV)
 | .a (.val (.bool a)),.a (.val (.bool b))=>match jO tab T,op with
  | .scal .bool,.eql=>some ([],.a (.val (.bool (a==b))))
  | .scal .bool,.neq=>some ([],.a (.val (.bool (!(a==b)))))
  | _,_=>none
 | .a (.val u),.a (.val v)=>match aRY wr op u v with
  | some (cs,r)=>some (cs,.a (.val r))
  | none=>none
 | .a (.st t x),.a (.st t' y)=>match jO tab T,op with
  | .struct u,.eql=>if h:t=u then if h':t'=u then(match u.flat with | true=>some ([],.a (.val (.bool (eqD u (h ▸ x) (h' ▸ y))))) | false=>none)else none else none
  | .struct u,.neq=>if h:t=u then if h':t'=u then(match u.flat with | true=>some ([],.a (.val (.bool (!eqD u (h ▸ x) (h' ▸ y))))) | false=>none)else none else none
  | _,_=>none
 | _,_=>none
def unA(wr:Bool)(op:UnOp):PV->Option (Γ Prop×PV)
 | .a (.val (.bool b))=>match op with | .not=>some ([],.a (.val (.bool (!b)))) | _=>none
 | .a (.val (.int k n))=>match op,wr with
  | .neg,true=>some ([],.a (.val (.int k (k.wrap (0-n)))))
  | .neg,false=>some ([aX k (0-n)],.a (.val (.int k (0-n))))
  | _,_=>none
 | _=>none
def aHW(tab:Γ TI)(wr:Bool)(L:bM)(src dst:TypeId):PV->Option (Γ Prop×PV)
 | .a (.val (.int _ n))=>match jO tab src,jO tab dst,wr with
  | .scal (.int _),.scal (.int k),true=>some ([],.a (.val (.int k (k.wrap n))))
  | .scal (.int _),.scal (.int k),false=>some ([aX k n],.a (.val (.int k n)))
  | _,_,_=>none
 | _=>none
def fb:Op->Bool
 | .load _ _=>true
 | _=>false
def aF4(tab:Γ TI)(wr:Bool)(E:gH)(L:bM):Op->Option (Γ Prop×PV)
 | .move x | .assign x=>some ([],opnd E x)
 | .nilCheck x=>match opnd E x with
  | .a (.ptr t y)=>some ([],.a (.ptr t y))
  | .a (.optr r i p)=>some ([],.a (.optr r i p))
  | .a (.bptr r o t)=>some ([],.a (.bptr r o t))
  | .fn f cs=>some ([],.fn f cs)
  | _=>none
 | .binOp op T x y _=>aSd tab wr op T (opnd E x) (opnd E y)
 | .unOp op _ x=>unA wr op (opnd E x)
 | .convert s d x=>aHW tab wr L s d (opnd E x)
 | .extract x i=>match opnd E x with
  | .tup xs=>match aSc xs i with | some A=>some ([],.a A) | none=>none
  | _=>none
 | .makeFunc (.func f) first caps=>match first.toList,UB E caps.toList with
  | [],some ats=>some ([],.fn f ats)
  | _,_=>none
 | .load T x=>match opnd E x,(jO tab T).ty with
  | .a A,some t=>match aDy L t A with | some B=>some ([],.a B) | none=>none
  | _,_=>none
 | .fieldAddr S x f=>match opnd E x,jO tab S with
  | .a A,.struct t=>match Ua L t f A with | some B=>some ([],.a B) | none=>none
  | _,_=>none
 | .field S x f=>match opnd E x,jO tab S with
  | .a A,.struct t=>match aAX t f A with | some B=>some ([],.a B) | none=>none
  | _,_=>none
 | .indexAddr T x i=>match opnd E x,opnd E i,jO tab T with
  | .a A,.a (.val (.int _ n)),.slice _ t _=>match Uc L t n A with | some (cs,B)=>some (cs,.a B) | none=>none
  | _,_,_=>none
 | .index T x i=>match opnd E x,opnd E i,jO tab T with
  | .a (.val (.string s)),.a (.val (.int _ n)),.scal .str=>some ([0<=n,n<(s.size:Int)],.a (.val (.int .u8 (Ub s n))))
  | _,_,_=>none
 | .slice T x lo hi none=>match opnd E x,aM5 E lo,aM5 E hi with
  | .a A,some l,some h=>match aHU L (jO tab T) A,aAY L l h A with
   | true,some (cs,B)=>some (cs,.a B)
   | _,_=>none
  | _,_,_=>none
 | .build T parts=>match jO tab T with
  | .struct t=>match t.agg,Q3 t t.dflt (parts.toList.map λp=>(p.1,opnd E p.2))with
   | true,some x=>match t.flat,Ff t (zLs t) (parts.toList.map λp=>(p.1,opnd E p.2))with
    | false,some ls=>match aHQ ls with
     | false=>some ([],.a (.rcd t ls))
     | true=>some ([],.a (.st t x))
    | _,_=>some ([],.a (.st t x))
   | _,_=>match Ff t (zLs t) (parts.toList.map λp=>(p.1,opnd E p.2))with
    | some ls=>some ([],.a (.rcd t ls))
    | none=>none
  | _=>none
 | .call { callee := .builtin b,args,argTypes }=>Ui tab L b (args.toList.map (opnd E)) argTypes.toList
 | _=>none
section
variable {P:Program} {n:Nat} {K:fG} {G:Nat->Prop} {w0 w:World} {a:Act} {E:gH} {L:bM} {V:Nat->Value} {own:Nat->Γ Nat}
theorem gU(s:Sem Value)(v:Value)(w w':World)(h:s.run P w = .ok v w'):(do pure (Next.value (<- s)):Sem Next).run P w = .ok (.value v) w':=by
 simp[h]
variable {T:TypeId}
theorem TI.ty_ok{ti:TI}{t:Ty}(h:Hu P T ti)(ht:ti.ty=some t):rL P T t:=by
 cases ti <;> cases ht
 ·exact h
 ·exact h.1
 ·exact h.1
theorem rL.int_und{k:IntKind}(h:rL P T (.int k)):P.underlying T=some (.int k):=by
 obtain⟨d,hd,hf⟩:=h.und;cases d <;> simp[xM]at hf
 lia
theorem rL.bool_und(h:rL P T .bool):P.underlying T=some .bool:=by
 obtain⟨d,hd,hf⟩:=h.und
 grind [xM]
theorem rL.str_und(h:rL P T .str):P.underlying T=some .string:=by
 obtain⟨d,hd,hf⟩:=h.und
 grind [xM]
theorem Lz{G:Nat->Prop}:∀(t:Ty),
  (∀T d x y c1 c2 w,LZ P t.agg T (Ze P t)=true->dep t<=d->fI w0 G t x c1->fI w0 G t y c2->(HK (d+1) T (gY t c1) (gY t c2)).run P w = .ok (eqD t x y) w) /\
  (∀fs o d x y (xs ys:Γ Value) w,Ze P t (.inr (fs,o))=true->dep t<=d->fI w0 G t x (xs.drop o)->fI w0 G t y (ys.drop o)->o+t.size<=xs.length->o+t.size<=ys.length ->
   (KR d xs.toArray ys.toArray fs).run P w = .ok (eqD t x y) w)
 | .int k=>by
  refine⟨λT d x y c1 c2 w h _ h1 h2=>?_,λfs o d x y xs ys w h=>by grind [Ze]⟩;have hu:=QX (by simpa [LZ,Ty.agg,Ze] using h);obtain⟨rfl,_⟩:=h1;obtain⟨rfl,_⟩:=h2;exact run_equalIn_int w d T k k x y hu
 | .bool=>by
  refine⟨λT d x y c1 c2 w h _ h1 h2=>?_,λfs o d x y xs ys w h=>by grind [Ze]⟩;have hu:=Lv (by simpa [LZ,Ty.agg,Ze] using h);have h1:c1=[.bool x]:=h1;have h2:c2=[.bool y]:=h2;subst h1 h2;exact run_equalIn_bool' w d T x y hu
 | .fn=>⟨λT d x y c1 c2 w h=>by grind [LZ,Ty.agg,Ze],λfs o d x y xs ys w h=>by grind [Ze]⟩
 | .str=>by
  refine⟨λT d x y c1 c2 w h _ h1 h2=>?_,λfs o d x y xs ys w h=>by grind [Ze]⟩;have hu:=QY (by simpa [LZ,Ty.agg,Ze] using h);obtain⟨rfl,_⟩:=h1;obtain⟨rfl,_⟩:=h2;exact run_equalIn_string w d T x y hu
 | .sl e=>⟨λT d x y c1 c2 w h=>by grind [LZ,Ty.agg,Ze],λfs o d x y xs ys w h=>by grind [Ze]⟩
 | .unit=>by
  have hB:∀fs o d x y (xs ys:Γ Value) w,Ze P .unit (.inr (fs,o))=true->(KR d xs.toArray ys.toArray fs).run P w = .ok (eqD .unit x y) w:=by
   intro fs o d x y xs ys w h
   match fs,h with
   | [],h=>rfl
   | _::_,h=>grind [Ze]
  refine⟨λT d x y c1 c2 w h _ h1 h2=>?_,λfs o d x y xs ys w h _ _ _ _ _=>hB fs o d x y xs ys w h⟩;simp only[LZ,Ty.agg]at h;split at h
  ·rename_i fs hu;simp only[aT,eZ]at h;have hf:P.fieldsOf T=fs:=by grind [S0]
   show (HK (d+1) T (.agg c1.toArray) (.agg c2.toArray)).run P w=_
   grind [run_equalIn_agg]
  lia
 | .cons a b=>by
  obtain⟨ha,_⟩:=Lz a;obtain⟨_,hb⟩:=Lz b;have hB:∀fs o d x y (xs ys:Γ Value) w,Ze P (.cons a b) (.inr (fs,o))=true->dep (.cons a b)<=d->fI w0 G (.cons a b) x (xs.drop o)->fI w0 G (.cons a b) y (ys.drop o)->o+(Ty.cons a b).size<=xs.length->o+(Ty.cons a b).size<=ys.length ->
    (KR d xs.toArray ys.toArray fs).run P w = .ok (eqD (.cons a b) x y) w:=by
   intro fs o d x y xs ys w h hd hx hy hlx hly
   match fs,h with
   | [],h=>grind [Ze]
   | f::fs,h =>
    simp only[Ze,aT,bne_iff_ne,ne_eq]at h;obtain⟨h0,h1,h2,h3,h4⟩:=h;have h1:=aZ h1;have h2:=zL h2;simp only[dep]at hd;have hd2:dep b<=d:=gI (SZ _ _) hd;obtain⟨d,rfl⟩:∃d',d=d'+1:=⟨d-1,by lia⟩;simp only[Ty.size]at hlx hly;obtain⟨p1,p2,hp,hp1,hp2⟩:=hx;obtain⟨q1,q2,hq,hq1,hq2⟩:=hy;have e1:(xs.drop o).take a.size=p1:=by rw[hp, <- hp1.length,Hi];rfl
    have e2:(ys.drop o).take a.size=q1:=by rw[hq, <- hq1.length,Hi];rfl
    have e3:xs.drop (o+a.size)=p2:=by grind [pY,Hj]
    have e4:ys.drop (o+a.size)=q2:=by rw[<- pY,hq, <- hq1.length,Hj];rfl
    have r1:(part f.type xs.toArray f.offset).run P w = .ok (gY a p1) w:=by
     grind [U8]
    have r2:(part f.type ys.toArray f.offset).run P w = .ok (gY a q1) w:=by
     grind [U8]
    have r3:=ha f.type d x.1 y.1 p1 q1 w h3 (by lia) hp1 hq1;have r4:=hb fs (o+a.size) (d+1) x.2 y.2 xs ys w h4 hd2 (by rw[e3];exact hp2) (by lia) (by lia) (by lia);simp only[KR,ne_eq,h0,not_false_eq_true,if_true,dV,r1,r2,r3,cJ,Sem.run_ite,fP]
    grind [eqD]
  refine⟨λT d x y c1 c2 w h hd h1 h2=>?_,hB⟩;have l1:=h1.length;have l2:=h2.length;simp only[LZ,Ty.agg]at h;split at h
  ·rename_i fs hu;simp only[aT,eZ]at h;have hf:P.fieldsOf T=fs:=by grind [S0]
   show (HK (d+1) T (.agg c1.toArray) (.agg c2.toArray)).run P w=_;rw[run_equalIn_agg w d T _ _ (by lia) h.1,hf];exact hB _ 0 d x y c1 c2 w h.2 hd (by grind) (by grind) (by lia) (by lia)
  lia
theorem aPN{u:Ty}(hu:Hu P T (.struct u))(hf:u.flat=true){x y:u.den}{v1 v2:Value}{G:Nat->Prop}(h1:∃cs,v1 = .agg cs.toArray/\fI w0 G u x cs)(h2:∃cs,v2 = .agg cs.toArray/\fI w0 G u y cs)(w':World)(ox oy:Operand) :
  (do eqGuard .eql T ox oy v1 v2;binOp .eql T v1 v2:Sem Value).run P w' = .ok (.bool (eqD u x y)) w'/\(do eqGuard .neq T ox oy v1 v2;binOp .neq T v1 v2:Sem Value).run P w' = .ok (.bool (!eqD u x y)) w':=by
 obtain⟨c1,rfl,r1⟩:=h1;obtain⟨c2,rfl,r2⟩:=h2;obtain⟨hty,fs,hund,_,he⟩:=hu;have he:=he hf;simp only[eqT,aT]at he;obtain⟨e1,e2,e3⟩:=he;have hd:=Nat.le_of_ble_eq_true e1;have hag:u.agg=true:=by
  cases hh:u.agg with
  | true=>rfl
  | false =>
   obtain⟨d,hd,hfit⟩:=hty.und;rw[hund]at hd;cases hd;cases u <;> simp[xM,Ty.agg]at hfit hh
 have hv1:gY u c1 = .agg c1.toArray:=by grind [gY]
 have hv2:gY u c2 = .agg c2.toArray:=by grind [gY]
 have heq:=(Lz (G:=G) u).1 T 9999 x y c1 c2 w' e3 hd r1 r2
 grind [dV,run_eqGuard_agg,cJ,run_eql_struct,run_neq_struct]
variable {wr:Bool} {cs:Γ Prop} {pv:PV}
theorem aF5{tab:Γ TI}(hT:kW P tab)(hR:bQ n K w0 G w a E L V own){op:BinOp}{x y:Operand}
  (h:aSd tab wr op T (opnd E x) (opnd E y)=some (cs,pv)) (hc:gZ cs) :
  ∃v,mK w0 G L V pv v/\∀w',(do eqGuard op T x y (a.eval x) (a.eval y);binOp op T (a.eval x) (a.eval y):Sem Value).run P w' = .ok v w':=by
 unfold aSd at h;split at h
 ·rename_i b1 b2 hx hy;obtain⟨e1,_⟩:=hR.valEq hx;obtain⟨e2,_⟩:=hR.valEq hy;rw[e1,eqGuard_at_bool];split at h
  ·rename_i ht;cases h;have hu:=hT T;rw[ht]at hu;refine⟨_,⟨rfl,trivial⟩,λw'=>?_⟩;have h9:(HK 10000 T (.bool b1) (.bool b2)).run P w' = .ok (b1==b2) w':=run_equalIn_bool' w' 9999 T b1 b2 (rL.bool_und hu)
   grind [binOp,Op.equal,z',dV,fP,cJ]
  ·rename_i ht;cases h;have hu:=hT T;rw[ht]at hu;refine⟨_,⟨rfl,trivial⟩,λw'=>?_⟩;have h9:(HK 10000 T (.bool b1) (.bool b2)).run P w' = .ok (b1==b2) w':=run_equalIn_bool' w' 9999 T b1 b2 (rL.bool_und hu)
   grind [binOp,Op.equal,z',dV,fP,cJ]
  lia
 ·rename_i u v _ hx hy;obtain⟨e1,_⟩:=hR.valEq hx;obtain⟨e2,_⟩:=hR.valEq hy;rw[e1,e2];split at h
  ·rename_i cs' r hb;cases h;exact⟨r,⟨rfl,(tq (P:=P) (w:=w) hb hc T x y).2⟩,λw'=>(tq hb hc T x y).1⟩
  lia
 ·rename_i t x1 t' y1 hx hy;have hvx:=hR.atom hx;have hvy:=hR.atom hy;split at h
  ·rename_i u ht;have hu:=hT T;rw[ht]at hu;split at h
   ·rename_i he;subst he;split at h
    ·rename_i he;subst he;split at h
     ·rename_i hf;cases h;exact⟨_,⟨rfl,trivial⟩,λw'=>(aPN hu hf hvx hvy w' x y).1⟩
     lia
    lia
   lia
  ·rename_i u ht;have hu:=hT T;rw[ht]at hu;split at h
   ·rename_i he;subst he;split at h
    ·rename_i he;subst he;split at h
     ·rename_i hf;cases h;exact⟨_,⟨rfl,trivial⟩,λw'=>(aPN hu hf hvx hvy w' x y).2⟩
     lia
    lia
   lia
  lia
 lia
theorem aHX(hR:bQ n K w0 G w a E L V own){op:UnOp}{x:Operand}
  (h:unA wr op (opnd E x)=some (cs,pv)) (hc:gZ cs) :
  ∃v,mK w0 G L V pv v/\∀w',(Op.unary op (a.eval x)).run P w' = .ok v w':=by
 unfold unA at h;split at h
 ·rename_i b hx;obtain⟨e1,_⟩:=hR.valEq hx;rw[e1];split at h
  ·cases h;exact⟨_,⟨rfl,trivial⟩,λw'=>by rfl⟩
  lia
 ·rename_i k m hx;obtain⟨e1,_⟩:=hR.valEq hx;rw[e1];split at h
  ·cases h;exact⟨_,⟨rfl,u9 _ _⟩,λw'=>by rfl⟩
  ·cases h;exact⟨_,⟨rfl,hc.1⟩,λw'=>by simp only[Op.unary,KO,qD hc.1];rfl⟩
  lia
 lia
theorem aBb{tab:Γ TI}(hT:kW P tab)(hR:bQ n K w0 G w a E L V own){s d:TypeId}{x:Operand}
  (h:aHW tab wr L s d (opnd E x)=some (cs,pv)) (hc:gZ cs) :
  ∃v,mK w0 G L V pv v/\∀w',(convert s d (a.eval x)).run P w' = .ok v w':=by
 unfold aHW at h;split at h
 ·rename_i k0 m hx;obtain⟨e1,_⟩:=hR.valEq hx;rw[e1];split at h
  ·rename_i hs hd;cases h;have hu:=hT s;rw[hs]at hu;have hv:=hT d;rw[hd]at hv;exact⟨_,⟨rfl,u9 _ _⟩,λw'=>by simp[convert,run_underlying (rL.int_und hu),run_underlying (rL.int_und hv),Conv.intToInt]⟩
  ·rename_i hs hd;cases h;have hu:=hT s;rw[hs]at hu;have hv:=hT d;rw[hd]at hv;exact⟨_,⟨rfl,hc.1⟩,λw'=>by simp[convert,run_underlying (rL.int_und hu),run_underlying (rL.int_und hv),Conv.intToInt,qD hc.1]⟩
  lia
 lia
theorem OZ(hR:bQ n K w0 G w a E L V own):∀ {xs:Γ Operand} {ats:Γ c7},UB E xs=some ats->uS w0 G L V ats (xs.map a.eval)
 | [],ats,h=>by cases h;rfl
 | x::r,ats,h=>by
  simp[UB]at h;split at h
  ·rename_i A s hx hr;cases h;exact⟨_,_,rfl,hR.atom hx,OZ hR hr⟩
  lia
theorem Zh:∀ {xs:Γ c7} {vs:Γ Value} {i:Nat} {A:c7},aSc xs i=some A->uS w0 G L V xs vs->∃v,vs[i]? = some v/\nE w0 G L V A v
 | x::r,vs,0,A,h,hr=>by
  cases h;obtain⟨v,s,rfl,h1,h2⟩:=hr
  grind
 | x::r,vs,i+1,A,h,hr=>by
  obtain⟨v,s,rfl,h1,h2⟩:=hr;obtain⟨u,hu,hr'⟩:=Zh (i:=i) h h2
  grind
 | [],_,_,_,h,_=>by cases h
theorem Zi(hR:bQ n K w0 G w a E L V own){x:Option Operand}{i:Option Int}(h:aM5 E x=some i):∃o,i=Q2 o/\x.map a.eval=Q1 o:=by
 cases x with
 | none=>cases h;exact⟨none,rfl,rfl⟩
 | some x =>
  simp[aM5]at h;split at h
  ·rename_i k m hx;cases h;exact⟨some (k,m),rfl,by simp[Q1,(hR.valEq hx).1]⟩
  lia
theorem aF6{ti:TI}{A:c7}(h:aHU L ti A=true):((∃e t b,ti = .slice e t b)\/ti = .scal .str)/\aSb L ti A:=by
 cases A with
 | val u=>cases u with
  | string s =>
   simp[aHU]at h;split at h
   ·exact⟨.inr rfl,rfl⟩
   lia
  | _=>cases h
 | sl t xs =>
  simp[aHU]at h;split at h
  ·obtain rfl:=of_decide_eq_true h;exact⟨.inl ⟨_,_,_,rfl⟩,_,_,rfl⟩
  lia
 | osl r rg =>
  simp[aHU]at h;split at h
  ·rename_i B e t' b hB;have:=of_decide_eq_true h;subst this;exact⟨.inl ⟨_,_,_,rfl⟩,B,hB,_,_,rfl⟩
  lia
 | _=>cases h
theorem aBc{ti:TI}{A:c7}(h:aHV ti A=true):((∃e t b,ti = .slice e t b)\/ti = .scal .str)/\aHS ti A:=by
 have key:aZM ti=true->∃e t b,ti = .slice e t b:=by
  intro h;cases ti <;> first | (cases h;done) | lia
 cases A with
 | val u=>cases u with
  | string s =>
   simp[aHV]at h;split at h
   ·exact⟨.inr rfl,rfl⟩
   lia
  | _=>exact⟨.inl (key h),key h⟩
 | _=>exact⟨.inl (key h),key h⟩
theorem aBd(hT:rL P T .str)(s:Δ)(k:IntKind)(i:Int)(h0:0<=i)(h1:i<s.size)(w:World) :
  (Instr.index T (.string s) (.int k i)).run P w = .ok (.int .u8 (Ub s i)) w/\OR (.int .u8 (Ub s i)):=by
 have hlt:i.toNat<s.size:=by lia
 have hb:Ub s i=((s[i.toNat]'hlt).toNat:Int):=by
  unfold Ub;rw[List.getD_eq_getElem?_getD,aV (by simp_all)];rfl
 refine⟨?_,?_⟩
 ·rw[run_index_string (P:=P) w T s k i hT.str_und,dif_pos ⟨h0,h1⟩,hb]
 ·have:=(s[i.toNat]'hlt).toNat_lt
  grind [OR,aX,qH,qI,oI,nT]
theorem Ys{tab:Γ TI}(hT:kW P tab)(hR:bQ n K w0 G w a E L V own){b:Builtin}{xs:Γ Operand}{ts:Γ TypeId}
  (h:Ui tab L b (xs.map (opnd E)) ts=some (cs,pv)) (hc:gZ cs) (ty:TypeId) (consts:Array Bool) :
  ∃v,mK w0 G L V pv v/\∀w',(builtin b ts.toArray ty consts (xs.map a.eval).toArray).run P w' = .ok (.value v) w':=by
 unfold Ui at h;split at h
 ·rename_i A T hxs;have:∃x,xs=[x]/\opnd E x = .a A:=by
   simp_all
  obtain⟨x,rfl,hx⟩:=this;split at h
  ·rename_i i hok hl;cases h;obtain⟨h1,h2⟩:=aBc hok;obtain⟨h3,h4⟩:=aF1 hR (hT T) h1 (hR.atom hx) hl h2 ty;refine⟨_,⟨rfl,h3⟩,λw'=>?_⟩;exact gU _ _ _ _ (h4 w')
  lia
 ·rename_i k x k' y hxs;have:∃o1 o2,xs=[o1,o2]/\opnd E o1 = .a (.val (.int k x))/\opnd E o2 = .a (.val (.int k' y)):=by
   cases xs with
   | nil=>grind
   | cons o1 r=>cases r with
    | nil=>grind
    | cons o2 s=>cases s with
     | nil=>grind
     | cons y s=>grind
  obtain⟨o1,o2,rfl,h1,h2⟩:=this;split at h
  ·rename_i hk;obtain rfl:=of_decide_eq_true hk;cases h;obtain⟨e1,i1⟩:=hR.valEq h1;obtain⟨e2,i2⟩:=hR.valEq h2;refine⟨_,⟨rfl,?_⟩,λw'=>?_⟩
   ·grind [aF3]
   ·simp[builtin,e1,e2,Builtin.min_,Builtin.min2,aF3]
  lia
 ·rename_i k x k' y hxs;have:∃o1 o2,xs=[o1,o2]/\opnd E o1 = .a (.val (.int k x))/\opnd E o2 = .a (.val (.int k' y)):=by
   cases xs with
   | nil=>grind
   | cons o1 r=>cases r with
    | nil=>grind
    | cons o2 s=>cases s with
     | nil=>grind
     | cons y s=>grind
  obtain⟨o1,o2,rfl,h1,h2⟩:=this;split at h
  ·cases h;obtain⟨e1,i1⟩:=hR.valEq h1;obtain⟨e2,i2⟩:=hR.valEq h2;refine⟨_,⟨rfl,?_⟩,λw'=>?_⟩
   ·grind [OR,aF3]
   ·simp[builtin,e1,e2,Builtin.max_,Builtin.max2,aF3]
  lia
 lia
theorem qP{A:c7}{u:Value}{t:Ty}{x:t.den}(h:nE w0 G L V A u)(hd:DG t A=some x):yZ w0 G A u:=by
 cases A with
 | osl r rg=>cases t <;> cases hd
 | optr r i p=>cases t <;> cases hd
 | rcd t' ls=>cases t <;> cases hd
 | bptr r o t'=>cases t <;> cases hd
 | _=>exact h
theorem ub(hR:bQ n K w0 G w a E L V own):∀(l:Γ (Nat×Operand)),Ey w0 G (l.map λp=>(p.1,opnd E p.2)) (l.map λp=>(p.1,a.eval p.2))
 | []=>rfl
 | p::r=>⟨a.eval p.2,_,rfl,λA hA t x hd=>qP (hR.atom hA) hd,ub hR r⟩
theorem Zj{tab:Γ TI}(hT:kW P tab)(hR:bQ n K w0 G w a E L V own){o:Oper}
  (h:aF4 tab wr E L o.op=some (cs,pv)) (hc:gZ cs) :
  ∃v,mK w0 G L V pv v/\∀w',(fb o.op=true->dD [] w w')->(execOp a.eval o).run P w' = .ok (.value v) w':=by
 unfold aF4 at h;split at h
 ·rename_i x ho;cases h;exact⟨_,hR.opnd x,λw' _=>by simp[execOp,ho]⟩
 ·rename_i x ho;cases h;exact⟨_,hR.opnd x,λw' _=>by simp[execOp,ho]⟩
 ·rename_i x ho;have hx:=hR.opnd x;split at h
  ·rename_i t y hp;cases h;rw[hp]at hx;refine⟨_,hx,λw' _=>?_⟩;obtain⟨b,off,cs,he,_⟩:=hx;simp[execOp,ho,he]
  ·rename_i r i p hp;cases h;rw[hp]at hx;refine⟨_,hx,λw' _=>?_⟩;obtain⟨_,_,_,b,off,m,cap,po,t',_,_,he⟩:=hx;simp[execOp,ho,he]
  ·rename_i r o t hp;cases h;rw[hp]at hx;refine⟨_,hx,λw' _=>?_⟩;obtain⟨_,_,b,off,_,_,_,he,_⟩:=hx;simp[execOp,ho,he]
  ·rename_i f cs hp;cases h;rw[hp]at hx;refine⟨_,hx,λw' _=>?_⟩;obtain⟨vs,he,_⟩:=hx;simp[execOp,ho,he]
  lia
 ·grind [aF5,execOp,gU]
 ·rename_i op T x ho;obtain⟨v,hv,hr⟩:=aHX (P:=P) hR h hc
  grind [execOp,gU]
 ·grind [aBb,execOp,gU]
 ·rename_i x i ho;have hx:=hR.opnd x;split at h
  ·rename_i xs hp;rw[hp]at hx;split at h
   ·rename_i A hA;cases h;obtain⟨vs,he,hr⟩:=hx;obtain⟨v,hv,hv'⟩:=Zh hA hr;exact⟨v,hv',λw' _=>by simp[execOp,ho,he,Instr.extract,hv]⟩
   lia
  lia
 ·rename_i f first caps ho
  split at h
  ·rename_i ats hf has;cases h;have hr:=OZ hR has;refine⟨_,⟨_,rfl,hr⟩,λw' _=>?_⟩;have hfe:first = #[]:=by grind
   simp[execOp,ho,Instr.makeFunc,hfe, <- Array.toList_map]
  lia
 ·rename_i T x ho;split at h
  ·rename_i A t hx ht;split at h
   ·rename_i B hB;cases h;obtain⟨v,hv,hr⟩:=Ue hR (TI.ty_ok (hT T) ht) (hR.atom hx) hB;exact⟨v,hv,λw' k=>by simp only[execOp,ho];exact gU _ _ _ _ (hr w' (k (by rw[ho];rfl)))⟩
   lia
  lia
 ·rename_i S x f ho;split at h
  ·rename_i A t hx ht;split at h
   ·rename_i B hB;cases h;have hS:=hT S;rw[ht]at hS;obtain⟨v,hv,hr⟩:=Yq hS (hR.atom hx) hB;exact⟨v,hv,λw' k=>by grind [execOp,gU]⟩
   lia
  lia
 ·rename_i S x f ho;split at h
  ·rename_i A t hx ht;split at h
   ·rename_i B hB;cases h;have hS:=hT S;rw[ht]at hS;obtain⟨v,hv,hr⟩:=tw hS (hR.atom hx) hB;exact⟨v,hv,λw' k=>by grind [execOp,gU]⟩
   lia
  lia
 ·rename_i T x i ho;split at h
  ·rename_i A k m e t b hx hi ht;split at h
   ·rename_i cs' B hB;cases h;have hS:=hT T;rw[ht]at hS;obtain⟨v,hv,hr⟩:=Yr (k:=k) hS (hR.atom hx) hB hc;exact⟨v,hv,λw' _=>by simp only[execOp,ho,(hR.valEq hi).1];simp_all⟩
   lia
  lia
 ·rename_i T x i ho;split at h
  ·rename_i s k m hx hi ht;cases h;simp only[gZ]at hc;have hS:=hT T;rw[ht]at hS;have hb:=λw'=>aBd (P:=P) hS s k m hc.1 hc.2.1 w';exact⟨_,⟨rfl,(hb w).2⟩,λw' _=>by simp only[execOp,ho,(hR.valEq hi).1,(hR.valEq hx).1];simp_all⟩
  lia
 ·rename_i T x lo hi ho;split at h
  ·rename_i A l h' hx hl hh;split at h
   ·rename_i cs' B hok hB;cases h;obtain⟨ol,rfl,e1⟩:=Zi hR hl;obtain⟨oh,rfl,e2⟩:=Zi hR hh;obtain⟨h1,h2⟩:=aF6 hok;obtain⟨v,hv,hr⟩:=tx (hT T) h1 (hR.atom hx) h2 hB hc;exact⟨v,hv,λw' _=>by simp only[execOp,ho,e1,e2,Option.map_none];exact gU _ _ _ _ (hr w')⟩
   lia
  lia
 ·rename_i T parts ho;split at h
  ·rename_i t ht;have asSt:∀ {x:t.den},t.agg=true->Q3 t t.dflt (parts.toList.map λp=>(p.1,opnd E p.2))=some x->∃v,mK w0 G L V (.a (.st t x)) v/\∀w',(fb o.op=true->dD [] w w')->(execOp a.eval o).run P w' = .ok (.value v) w':=by
    intro x ha hb;have hS:=hT T;rw[ht]at hS;obtain⟨cs,hr,hrun⟩:=aF2 hS ha hb (ub hR parts.toList);refine⟨_,⟨cs,rfl,hr⟩,λw' _=>?_⟩;simp only[execOp,ho];refine gU _ _ _ _ ?_;have:=hrun w';have e:(parts.map λp=>(p.1,a.eval p.2))=(parts.toList.map λp=>(p.1,a.eval p.2)).toArray:=by
     grind
    lia
   have asRcd:∀ {ls:Γ gB},Ff t (zLs t) (parts.toList.map λp=>(p.1,opnd E p.2))=some ls->∃v,mK w0 G L V (.a (.rcd t ls)) v/\∀w',(fb o.op=true->dD [] w w')->(execOp a.eval o).run P w' = .ok (.value v) w':=by
    intro ls hls;have hS:=hT T;rw[ht]at hS;obtain⟨cs,hl,hr,hrun⟩:=ua hS hR hls;refine⟨_,⟨cs,rfl,hl,hr⟩,λw' _=>?_⟩;simp only[execOp,ho];refine gU _ _ _ _ ?_;have:=hrun w';have e:(parts.map λp=>(p.1,a.eval p.2))=(parts.toList.map λp=>(p.1,a.eval p.2)).toArray:=by
     grind
    lia
   grind
  lia
 ·rename_i b args ts ho;obtain⟨v,hv,hr⟩:=Ys hT hR h hc o.type (args.map fun | .const _=>true | _=>false);refine⟨v,hv,λw' _=>?_⟩;have:=hr w';simp only[execOp,ho,resolve,dV,fP,cJ,invoke];have e:args.map a.eval=(args.toList.map a.eval).toArray:=by grind
  rw[e];omega
 lia
end
def CC(P : Program)(f : FuncId) : Prop := ∃ fn, P.funcs[f]? = some fn /\ (fn.name == "runtime.NumGoroutine") = false /\ fn.body.isNone = false
abbrev Aw:=Γ (FuncId×Spec)
def rM(P:Program):Aw->Prop
 | []=>True
 | (f,S)::r=>(CC P f/\jZ P f S)/\rM P r
def BU{α:Type}(rg:Option (Nat×Nat))(xs:Γ α):Γ α :=
 match rg with
 | none=>xs
 | some (lo,hi)=>(xs.take hi).drop lo
def qE{t e:Ty}(h:t=e)(xs:Γ t.den):Γ e.den:=h ▸ xs
def aDz{t e:Ty}(h:t=e)(x:t.den):e.den:=h ▸ x
def slR(L:bM)(e:Ty):gB->Option (Γ e.den)
 | .val (.slice none _ _)=>some []
 | .sl t xs=>if h:t=e then some (qE h xs)else none
 | .osl r rg=>match bZ L r with
  | some A=>if h:A.t=e then some (BU rg (qE h A.xs))else none
  | none=>none
 | _=>none
def MA(L:bM):(t:Ty)->Γ gB->Option t.den
 | .sl e,ls=>match ls with
  | [l]=>slR L e l
  | _=>none
 | .cons a b,ls=>match MA L a (ls.take a.size),MA L b (ls.drop a.size)with
  | some x,some y=>some (x,y)
  | _,_=>none
 | t,ls=>vU t ls
def slW(L:bM)(e:Ty):gB->Option (Γ e.den×Γ Nat)
 | .val (.slice none _ _)=>some ([],[])
 | .osl r none=>match bZ L r with
  | some A=>match A.bor with
   | true=>none
   | false=>if h:A.t=e then some (qE h A.xs,[r])else none
  | none=>none
 | .osl r (some (lo,hi))=>match bZ L r with
  | some A=>match e.flat && !A.bor with
   | true=>if h:A.t=e then some (BU (some (lo,hi)) (qE h A.xs),[r])else none
   | false=>none
  | none=>none
 | _=>none
def sS(L:bM):(t:Ty)->Γ gB->Option (t.den×Γ Nat)
 | .sl e,ls=>match ls with
  | [l]=>slW L e l
  | _=>none
 | .cons a b,ls=>match sS L a (ls.take a.size),sS L b (ls.drop a.size)with
  | some (x,us),some (y,vs)=>some ((x,y),us++vs)
  | _,_=>none
 | t,ls=>match vU t ls with
  | some x=>some (x,[])
  | none=>none
def aHY(L:bM):(t:Ty)->c7->Option t.den
 | .sl e,.osl r rg=>match bZ L r with
  | some A=>if h:A.t=e then some (BU rg (qE h A.xs))else none
  | none=>none
 | t,.rcd t' ls=>match decide (t'=t),t.agg with
  | true,true=>MA L t ls
  | _,_=>none
 | t,A=>DG t A
def aHZ(L:bM)(t:Ty):c7->Option t.den
 | .ptr t' x=>if h:t'=t then some (aDz h x)else none
 | .optr r i p=>match bZ L r with
  | some A=>match OW p ⟨A.t,A.xs.getD i A.t.dflt⟩ with
   | some d=>if h:d.t=t then some (aDz h d.x)else none
   | none=>none
  | none=>none
 | .bptr r o t'=>match decide (t'=t),bZ L r with
  | true,some A=>match A.ls with
   | some ls=>MA L t ((ls.drop o).take t.size)
   | none=>none
  | _,_=>none
 | _=>none
def MD:gB->Γ Nat
 | .osl r _=>[r]
 | _=>[]
def jC:Γ gB->Γ Nat
 | []=>[]
 | l::r=>MD l++jC r
def vA:c7->Γ Nat
 | .osl r _=>[r]
 | .optr r _ _=>[r]
 | .rcd _ ls=>jC ls
 | .bptr r _ _=>[r]
 | _=>[]
def IP(L:bM):c7->Γ Nat
 | .bptr r _ _=>match bZ L r with
  | some A=>match A.ls with
   | some ls=>r::jC ls
   | none=>[r]
  | none=>[r]
 | A=>vA A
def B5(L:bM):(caps:Γ (Bool×Ty))->Γ c7->Option (vL caps×Γ Nat)
 | [],[]=>some ((),[])
 | (true,t)::r,A::s=>match aHZ L t A,B5 L r s with
  | some x,some (y,us)=>some ((x,y),IP L A++us)
  | _,_=>none
 | (false,t)::r,A::s=>match DG t A,B5 L r s with
  | some x,some (y,us)=>some ((x,y),us)
  | _,_=>none
 | _,_=>none
def aZN{α:Type}:Γ α->Option α
 | [x]=>some x
 | _=>none
def aD0(L:bM)(t:Ty):c7->Option (t.den×Γ Nat)
 | .bptr r 0 t'=>match decide (t'=t),bZ L r with
  | true,some A=>match A.ls,decide (A.t=t)&&A.xs.isEmpty with
   | some ls,true=>match sS L t ls with
    | some (x,us)=>some (x,r::us)
    | none=>none
   | _,_=>none
  | _,_=>none
 | _=>none
def aD1(L:bM)(t:Ty):c7->Option (t.den×Γ Nat)
 | .rcd t' ls=>match decide (t'=t)with
  | true=>sS L t ls
  | false=>none
 | _=>none
def Ax(L:bM):(a:AT)->PV->Option (a.den×Γ Nat×Γ Nat)
 | .v t,.a A=>match aHY L t A with | some x=>some (x,[],IP L A) | none=>none
 | .p t,.a A=>match aHZ L t A with | some x=>some (x,[],IP L A) | none=>none
 | .own t,.a (.osl r none)=>match bZ L r with
  | some A=>match A.bor with
   | true=>none
   | false=>if h:A.t=t then some (qE h A.xs,[r],[])else none
  | none=>none
 | .po t,.a A=>match aD0 L t A with | some (x,us)=>some (x,us,[]) | none=>none
 | .sv t,.a A=>match aD1 L t A with | some (x,us)=>some (x,us,[]) | none=>none
 | .fn f caps,.fn g ats=>match cE f g,B5 L caps ats with
  | true,some (x,us)=>some (x,[],us)
  | _,_=>none
 | _,_=>none
def smA(L:bM):AT->PV->Bool
 | _,_=>true
def uX(L:bM):Γ AT->Γ PV->Bool
 | a::r,p::s=>smA L a p&&uX L r s
 | _,_=>true
def xP(L:bM):(sig:Γ AT)->Γ PV->Option (eF sig×Γ (Γ Nat)×Γ Nat)
 | [],[]=>some ((),[],[])
 | a::r,p::s=>match Ax L a p,xP L r s with
  | some (x,o,u),some (y,os,us)=>some ((x,y),o::os,u++us)
  | _,_=>none
 | _,_=>none
def zN(n:Nat):Γ Nat->Bool
 | []=>false
 | m::r=>cE n m||zN n r
def uc:Γ Nat->Γ Nat->Bool
 | [],_=>true
 | n::r,l => !(zN n l)&&uc r l
def CD:Γ Nat->Bool
 | []=>true
 | n::r => !(zN n r)&&CD r
theorem CE{n:Nat}:∀ {l:Γ Nat},zN n l=true↔n∈l
 | []=>by simp[zN]
 | m::r=>by simp[zN,CE]
theorem Uj:∀ {l m:Γ Nat},uc l m=true->∀n∈l,n ∉ m
 | [],_,_,n,hn=>by grind
 | k::r,m,h,n,hn=>by
  simp[uc]at h;rcases bA.1 hn with rfl | hn
  ·intro hm;rw[CE.2 hm]at h;cases h.1
  ·exact Uj h.2 n hn
theorem IQ:∀ {l:Γ Nat},CD l=true->l.Nodup
 | [],_=>kE
 | k::r,h=>by
  simp[CD]at h;refine jH.2 ⟨λhm=>?_,IQ h.2⟩;rw[CE.2 hm]at h;cases h.1
section
variable {P:Program} {n:Nat} {K:fG} {G G':Nat->Prop} {w0 w:World} {a:Act} {E:gH} {L:bM} {V:Nat->Value} {own:Nat->Γ Nat}
variable {w:World}
theorem oA.sub{G:Nat->Prop}{α:Type}{R:α->Γ Value->Prop}{sz nn lo hi:Nat}{xs:Γ α}{V v:Value}(h:oA w G R sz xs V)(hs:aDw sz xs.length V lo hi v) :
  oA w G R sz ((xs.take hi).drop lo) v:=by
 obtain⟨h1,h2,h3⟩:=hs;have hlen:((xs.take hi).drop lo).length=hi-lo:=by grind
 refine⟨by have:=h.1;lia,?_⟩;rcases h3 with ⟨_,_,hV,rfl,hz⟩ | ⟨b,off,m,cap,o,c,hV,rfl,hle,hcase⟩
 ·grind
 ·rcases h.2 with ⟨_,h5,hx0⟩ | ⟨b',off',cap',h5,h6,h7,h8,h9⟩
  ·grind
  ·rw[h5]at hV;cases hV;rw[<- hlen]at hle ⊢
   grind
theorem oA.whole{G:Nat->Prop}{α:Type}{R:α->Γ Value->Prop}{sz:Nat}{xs:Γ α}{V v:Value}(h:oA w G R sz xs V)(hs:aDw sz xs.length V 0 xs.length v):oA w G R sz xs v:=by
 have:=h.sub (nn:=0) hs
 grind
variable {w':World}
theorem bQ.lend(hR:bQ n K w0 G w a E L V own)(k:dD [] w w')(hG:∀b,G b->G' b){r:Nat}{A:iE}(h:bZ L r=some A)(hd:∀b∈own r,G' b) :
  oA w' G' (fI w' G' A.t) A.t.size A.xs (V r):=by
 have h1:=(hR.heap r A h).keep (w':=w') λb hb=>k.block b (hR.own_lt h b hb) (by simp);refine Aa.read (λx cs bi hs hr=>?_) hd h1;revert hr;unfold pO;cases A.bor with
 | true=>exact λhr=>hr.1.keep hG (hR.keepG k)
 | false=>grind [iH.read]
variable {t:Ty} {A:c7} {v:Value}
theorem ud{G:Nat->Prop}{x:t.den}(h:yZ w G A v)(hd:DG t A=some x):yZ w G (jY t x) v:=by
 obtain⟨cs,hr,rfl⟩:=Bt h hd;exact hr.repB
theorem aBe{G:Nat->Prop}{t e:Ty}(h:t=e){xs:Γ t.den}(hx:oA w G (fI w G t) t.size xs v):oA w G (fI w G e) e.size (qE h xs) v:=by
 subst h;exact hx
theorem Zk(hR:bQ n K w0 G w a E L V own)(k:dD [] w w')(hG:∀b,G b->G' b){r:Nat}{rg:Option (Nat×Nat)}{A:iE}(hv:QW L V r rg v)(hA:bZ L r=some A)(hd:∀b∈own r,G' b):oA w' G' (fI w' G' A.t) A.t.size (BU rg A.xs) v:=by
 obtain⟨B,hB,_,hs⟩:=hv;rw[hA]at hB;cases hB;have hsl:=hR.lend k hG hA hd;cases rg with
 | none=>exact hsl.whole hs
 | some q=>exact hsl.sub (nn:=0) hs
theorem Fg(hR:bQ n K w0 G w a E L V own){w':World}(k:dD [] w w')(hG:∀b,G b->G' b):∀ {t:Ty} {ls:Γ gB} {x:t.den} {cs:Γ Value},iG w0 G L V ls cs->MA L t ls=some x->(∀r∈jC ls,∀b∈own r,G' b)->fI w' G' t x cs
 | .int k',ls,x,cs,hr,h,_=>(jP (t := .int k') hr h).keep hG (hR.keepG k)
 | .bool,ls,x,cs,hr,h,_=>(jP (t := .bool) hr h).keep hG (hR.keepG k)
 | .fn,ls,x,cs,hr,h,_=>(jP (t := .fn) hr h).keep hG (hR.keepG k)
 | .str,ls,x,cs,hr,h,_=>(jP (t := .str) hr h).keep hG (hR.keepG k)
 | .unit,ls,x,cs,hr,h,_=>(jP (t := .unit) hr h).keep hG (hR.keepG k)
 | .sl e,ls,x,cs,hr,h,hd=>by
  simp only[MA]at h;split at h
  ·obtain⟨v,r,rfl,h1,h2⟩:=hr;cases h2;refine⟨v,rfl,?_⟩;unfold slR at h;split at h
   ·cases h;obtain⟨rfl,⟨h3,h4⟩,_⟩:=h1;subst h3 h4;exact⟨aY _,.inl ⟨_,rfl,rfl⟩⟩
   ·split at h
    ·rename_i ht;cases h;exact aBe ht (oA.keep (λ_ _=>fI.keep hG (hR.keepG k)) hG (hR.keepG k) h1)
    lia
   ·rename_i r rg;split at h
    ·rename_i A hA;split at h
     ·rename_i ht;cases h;subst ht;exact Zk hR k hG h1 hA (hd r (by simp[jC,MD]))
     lia
    lia
   lia
  lia
 | .cons p q,ls,x,cs,hr,h,hd=>by
  simp[MA]at h;split at h
  ·rename_i y z hy hz;cases h;have hsplit:∀(k:Nat) (ls:Γ gB),jC ls=jC (ls.take k)++jC (ls.drop k):=by
    intro k
    induction k with
    | zero=>simp[jC]
    | succ k ih =>
     intro ls;cases ls with
     | nil=>rfl
     | cons l r=>simp[jC, <- ih r]
   refine⟨cs.take p.size,cs.drop p.size,(fD _ _).symm,Fg hR k hG (qO _ hr) hy λr hr'=>hd r ?_,Fg hR k hG (qN _ hr) hz λr hr'=>hd r ?_⟩
   all_goals grind
  lia
theorem Zl{ls:Γ gB}{r:Nat}(k:Nat):r∈jC (ls.take k)\/r∈jC (ls.drop k)->r∈jC ls:=by
 have hsplit:∀(k:Nat) (ls:Γ gB),jC ls=jC (ls.take k)++jC (ls.drop k):=by
  intro k
  induction k with
  | zero=>simp[jC]
  | succ k ih =>
   intro ls;cases ls with
   | nil=>rfl
   | cons l r=>simp[jC, <- ih r]
 grind
theorem Uk(hR:bQ n K w0 G w a E L V own)(k:dD [] w w')(hG:∀b,G b->G' b){x:t.den}(hA:nE w0 G L V A v)
  (hd:aHY L t A=some x) (hdis:∀r∈IP L A,∀b∈own r,G' b):yZ w' G' (jY t x) v:=by
 have borrowed:DG t A=some x->yZ w' G' (jY t x) v:=λh =>
  ud (pP hG (hR.keepG k) (qP hA h)) h
 unfold aHY at hd;split at hd
 ·rename_i e r rg;split at hd
  ·rename_i B hB;split at hd
   ·rename_i hBe;subst hBe;cases hd;exact Zk hR k hG hA hB (hdis r (by simp[IP,vA]))
   lia
  lia
 ·split at hd
  ·rename_i ht ha;obtain⟨cs,rfl,hl,hr⟩:=hA;have:=(Fg hR k hG hr hd hdis).repB
   rwa [gY,π ha]at this
  lia
 lia
theorem Zm{G:Nat->Prop}{t t':Ty}(h:t'=t){x:t'.den}(hp:IG w G t' x v):IG w G t (aDz h x) v:=by
 subst h;exact hp
theorem Ul(hR:bQ n K w0 G w a E L V own)(k:dD [] w w')(hG:∀b,G b->G' b){x:t.den}(hA:nE w0 G L V A v)
  (hd:aHZ L t A=some x) (hdis:∀r∈IP L A,∀b∈own r,G' b):IG w' G' t x v:=by
 unfold aHZ at hd;split at hd
 ·rename_i t' y;split at hd
  ·rename_i ht;cases hd;exact Zm ht (pP (A := .ptr t' y) hG (hR.keepG k) hA)
  lia
 ·rename_i r i p;split at hd
  ·rename_i B hB;split at hd
   ·rename_i d hpd;split at hd
    ·rename_i ht;cases hd;refine Zm ht ?_;obtain⟨B',hB',hi,b,off,m,cap,po,t',hv,hp,rfl⟩:=hA;rw[hB]at hB';cases hB';have hown:=hR.heap r B hB;obtain⟨cs,bi,hc,ho,hsub,hb⟩:=Ud hown hv (zM B.xs i B.t.dflt hi);have hGo:=hdis r (by simp[IP,vA]);have hblt:∀c∈own r,c<w.heap.size:=hR.own_lt hB;have hrep:t'=d.t/\fI w' G' d.t d.x ((cs.drop po).take d.t.size):=by
      revert ho;cases hbor:B.bor with
      | true =>
       intro ho;obtain⟨o,ho1,ho2,ho3⟩:=Q0 hpd ho.1;rw[hp]at ho1;cases ho1;exact⟨rfl,ho2.keep hG (hR.keepG k)⟩
      | false =>
       intro ho;obtain⟨o,bs',ho1,ho2,ho3,ho4⟩:=QZ hpd ho;rw[hp]at ho1;cases ho1;exact⟨rfl,(ho2.keep (w':=w') λc hc=>k.block c (hblt c (hsub c (ho4 c hc))) (by simp)).read λc hc=>hGo c (hsub c (ho4 c hc))⟩
     obtain⟨rfl,hrep⟩:=hrep;exact⟨b,_,(cs.drop po).take d.t.size,rfl,hGo b hb,(hc.sub po _).keep (k.block b (hblt b hb) (by simp)),hrep⟩
    lia
   lia
  lia
 ·rename_i r o t';split at hd
  ·rename_i B ht hB;obtain rfl:=of_decide_eq_true ht;split at hd
   ·rename_i ls hls;obtain⟨B',ls',b,off,hB',hls',hv,rfl,hsz⟩:=hA;obtain⟨b1,off1,cs,e1,e3,e4,e5,e6⟩:=hR.boxs r B ls hB hls;rw[hv]at e1;cases e1;have hb:=(hR.heap r B hB).block hv (aU _);have hlt:=hR.own_lt hB b hb;simp only[IP,hB,hls]at hdis;exact⟨b,off+o,(cs.drop o).take t'.size,rfl,hdis r (aR ..) b hb,(kZ.sub e5 o _).keep (k.block b hlt (by simp)),
     Fg hR k hG (qO _ (qN _ e6)) hd λs hs=>hdis s (aM _ (Zl o (.inr (Zl t'.size (.inl hs)))))⟩
   lia
  lia
 lia
theorem IR(hR:bQ n K w0 G w a E L V own){w':World}(k:dD [] w w')(hG:∀b,G b->G' b):∀ {caps:Γ (Bool×Ty)} {ats:Γ c7} {x:vL caps} {us:Γ Nat} {vs:Γ Value},
  B5 L caps ats=some (x,us)->uS w0 G L V ats vs->(∀r∈us,∀b∈own r,G' b)->B4 w' G' caps x vs
 | [],[],x,us,vs,h,hr,_=>hr
 | (true,t)::r,A::s,x,us,vs,h,hr,hd=>by
  obtain⟨v,vs',rfl,h1,h2⟩:=hr;simp[B5]at h;split at h
  ·rename_i y z us' hy hz;cases h;exact⟨v,vs',rfl,Ul hR k hG h1 hy (λr hr=>hd r (dE _ hr)),IR hR k hG hz h2 (λr hr=>hd r (dJ _ hr))⟩
  lia
 | (false,t)::r,A::s,x,us,vs,h,hr,hd=>by
  obtain⟨v,vs',rfl,h1,h2⟩:=hr;simp only[B5]at h;split at h
  ·rename_i y z us' hy hz;cases h;exact⟨v,vs',rfl,ud (pP hG (hR.keepG k) (qP h1 hy)) hy,IR hR k hG hz h2 hd⟩
  lia
 | [],_::_,_,_,_,h,_,_=>by cases h
 | (true,_)::_,[],_,_,_,h,_,_=>by cases h
 | (false,_)::_,[],_,_,_,h,_,_=>by cases h
def DR(w0:World)(G:Nat->Prop)(L:bM)(V:Nat->Value):Γ PV->Γ Value->Prop
 | [],vs=>vs=[]
 | p::r,vs=>∃v s,vs=v::s/\mK w0 G L V p v/\DR w0 G L V r s
theorem bQ.opnds(hR:bQ n K w0 G w a E L V own):∀xs:Γ Operand,DR w0 G L V (xs.map (Am.opnd E)) (xs.map a.eval)
 | []=>rfl
 | x::r=>⟨_,_,rfl,hR.opnd x,hR.opnds r⟩
theorem Sn:∀ {ats:Γ c7} {vs:Γ Value},uS w0 G L V ats vs->DR w0 G L V (ats.map PV.a) vs
 | [],vs,h=>h
 | A::s,vs,⟨v,r,h,h1,h2⟩=>⟨v,r,h,h1,Sn h2⟩
theorem O0:∀ {ps qs:Γ PV} {vs us:Γ Value},DR w0 G L V ps vs->DR w0 G L V qs us->DR w0 G L V (ps++qs) (vs++us)
 | [],qs,vs,us,h,h2=>by cases h;grind
 | p::r,qs,vs,us,⟨v,s,h,h1,h3⟩,h2=>by subst h;exact⟨v,_,rfl,h1,O0 h3 h2⟩
def BV(own:Nat->Γ Nat)(os:Γ (Γ Nat)):Γ (Γ Nat):=os.map λl=>(l.map own).flatten
theorem aF7{t t':Ty}(h:t'=t){xs:Γ t'.den}{cs:Γ Value}{bs:Γ Nat}(hp:iH w (.sl t') xs cs bs):iH w (.sl t) (qE h xs) cs bs:=by
 subst h;exact hp
theorem aM6(hf:t.flat=true){xs:Γ t.den}{V v:Value}{bs:Γ Nat}{lo hi:Nat}(h:iH w (.sl t) xs [V] bs)(hs:aDw t.size xs.length V lo hi v):iH w (.sl t) (BU (some (lo,hi)) xs) [v] bs:=by
 obtain⟨V',hV,h⟩:=h;cases hV;obtain⟨hlo,hhi,hcase⟩:=hs;have hlen:(BU (some (lo,hi)) xs).length=hi-lo:=by
  show ((xs.take hi).drop lo).length=hi-lo
  grind
 refine⟨v,rfl,by rw[hlen];have:=h.1;lia,?_⟩;rcases h.2 with ⟨ad,h1,h2,h3⟩ | ⟨b,off,cap,cur,ty,fz,bss,h1,h2,h3,h4,h5,h6,h7,h8,h9⟩
 ·grind [BU,kF]
 ·have hbn:∀l∈bss,l=[]:=λl hl=>by
   obtain⟨i,hi',rfl⟩:=List.mem_iff_getElem.1 hl;have hx:i<xs.length:=by lia
   obtain⟨cs,_,_,hr⟩:=h9 i _ _ (aV hx) (aV hi');exact(hr.flat (w':=w) (G:=λ_=>True) hf).2
  rcases hcase with ⟨_,_,hV,hv,h0⟩ | ⟨b',off',m,cap',o,c,hV,hv,hc,hcase⟩
  ·obtain⟨h0,rfl⟩:=h0;have hx0:xs=[]:=bN h0;subst hx0;have hnil:BU (some (lo,hi)) ([]:Γ t.den)=[]:=bN (by lia);rw[hnil,hv, <- hV];exact .inr ⟨b,off,cap,cur,ty,fz,bss,h1,h2,h3,h4,h5,h6,h7,h8,h9⟩
  ·rw[h1]at hV;cases hV;refine .inr ⟨b,o,c,cur,ty,fz,((bss.take hi).drop lo),by lia,by lia,by lia,?_,h5,h6,by grind,?_,λi x bi hx hbi=>?_⟩
   ·rcases hcase with ⟨e1,e2⟩ | ⟨e1,e2⟩
    ·have:(lo+c)*t.size<=cap*t.size:=cV _ e2
     lia
    lia
   ·grind [xE,iN]
   ·have hx':xs[lo+i]? = some x:=by
     change ((xs.take hi).drop lo)[i]? = some x at hx
     grind
    grind
variable {us:Γ Nat}
theorem fc(hR:bQ n K w0 G w a E L V own){e:Ty}{l:gB}{x:Γ e.den}(hr:U3 w0 G L V l v)(h:slW L e l=some (x,us)) :
  iH w (.sl e) x [v] (us.map own).flatten/\∀r∈us,∃B,bZ L r=some B:=by
 unfold slW at h;split at h
 ·cases h;obtain⟨rfl,⟨h3,h4⟩,_⟩:=hr;subst h3 h4;exact⟨⟨_,rfl,aY _,.inl ⟨_,rfl,rfl,rfl⟩⟩,λr hr=>by grind⟩
 ·rename_i r;split at h
  ·rename_i B hB;split at h
   ·lia
   ·rename_i hbor;split at h
    ·rename_i he;cases h;obtain⟨B',hB',h1,_⟩:=hr;refine⟨?_,λs hs=>⟨B,by grind⟩⟩;have:=hR.heap r B hB;obtain⟨t',xs,bor,_,_⟩:=B;subst hbor he;rw[h1 rfl];simp;exact iI.own.1 this
    lia
  lia
 ·rename_i r lo hi;split at h
  ·rename_i B hB;split at h
   ·rename_i hfb;split at h
    ·rename_i he;cases h;obtain⟨B',hB',_,h2⟩:=hr;rw[hB]at hB';cases hB';have hent:=hR.heap r B hB;obtain⟨t',xs,bor,bls,bsm⟩:=B;simp at hfb he;obtain⟨hf,hbor⟩:=hfb;subst hbor he;refine⟨?_,λs hs=>⟨⟨t',xs,false,bls,bsm⟩,by grind⟩⟩;simp;exact aM6 hf (iI.own.1 hent) h2
    lia
   lia
  lia
 lia
theorem Ez(hR:bQ n K w0 G w a E L V own):∀ {t:Ty} {ls:Γ gB} {x:t.den} {us:Γ Nat} {cs:Γ Value},iG w0 G L V ls cs->sS L t ls=some (x,us)->iH w t x cs (us.map own).flatten/\∀r∈us,∃B,bZ L r=some B
 | .int k',ls,x,us,cs,hr,h=>by
  simp only[sS]at h;split at h
  ·rename_i y hy;cases h;exact⟨(jP (t := .int k') hr hy).own rfl,λr hr=>by grind⟩
  lia
 | .bool,ls,x,us,cs,hr,h=>by
  simp only[sS]at h;split at h
  ·rename_i y hy;cases h;exact⟨(jP (t := .bool) hr hy).own rfl,λr hr=>by grind⟩
  lia
 | .fn,ls,x,us,cs,hr,h=>by
  simp only[sS]at h;split at h
  ·rename_i y hy;cases h;exact⟨(jP (t := .fn) hr hy).own rfl,λr hr=>by grind⟩
  lia
 | .str,ls,x,us,cs,hr,h=>by
  simp[sS]at h;split at h
  ·rename_i y hy;cases h;exact⟨(jP (t := .str) hr hy).own rfl,λr hr=>by grind⟩
  lia
 | .unit,ls,x,us,cs,hr,h=>by
  simp only[sS]at h;split at h
  ·rename_i y hy;cases h;exact⟨(jP (t := .unit) hr hy).own rfl,λr hr=>by grind⟩
  lia
 | .sl e,ls,x,us,cs,hr,h=>by
  simp only[sS]at h;split at h
  ·obtain⟨v,r,rfl,h1,h2⟩:=hr;cases h2
   grind [fc]
  lia
 | .cons p q,ls,x,us,cs,hr,h=>by
  simp only[sS]at h;split at h
  ·rename_i y ys z zs hy hz;cases h;obtain⟨h1,h2⟩:=Ez hR (qO p.size hr) hy;obtain⟨h3,h4⟩:=Ez hR (qN p.size hr) hz;refine⟨⟨_,_,_,_,(fD p.size cs).symm,by simp,h1,h3⟩,λr hr=>?_⟩
   grind
  lia
theorem aM7{α:Type}{l:Γ α}{x:α}(h:aZN l=some x):l=[x]:=by
 match l,h with
 | [y],h=>cases h;rfl
theorem aM8(hR:bQ n K w0 G w a E L V own){r:Nat}{A:iE}{ls:Γ gB}{b off:Nat}(hA:bZ L r=some A)(hls:A.ls=some ls)(hx:A.xs=[])(hv:V r = .slice (some ⟨b,off,none⟩) 0 1)(ht:A.t=t){x:t.den}(ho:sS L t ls=some (x,us)) :
  aM1 w t x (.pointer (some ⟨b,off,none⟩)) (own r++(us.map own).flatten)/\∀s∈us,∃B,bZ L s=some B:=by
 subst ht;obtain⟨b1,off1,cs,e1,e3,e4,e5,e6⟩:=hR.boxs r A ls hA hls;obtain⟨h1,h2⟩:=Ez hR e6 ho;refine⟨⟨b,off,rfl,by simp[maxLen],?_⟩,h2⟩;rcases(hR.heap r A hA).2 with ⟨_,g1,_,_⟩ | ⟨b',off',cap',cur,ty,fz,bss,g1,g2,g3,g4,g5,g6,g7,g8,g9⟩
 ·lia
 ·rw[hv]at g1;simp only[kF,gQ,vH]at g1;obtain⟨⟨q1,q2,_⟩,_,q3⟩:=g1;have hbss:bss=[]:=bN (by lia);subst hbss q1 q2 q3;refine .inr ⟨b,off,1,cur,ty,fz,[(us.map own).flatten],rfl,aU _,by lia,by lia,g5,g6,rfl,by grind,λi y bi hy hb=>?_⟩;cases i with
  | succ i=>grind
  | zero =>
   cases hy;cases hb;refine⟨cs,e3,λj c hj=>?_,h1⟩;have:=e5 j c hj
   grind [iK]
def So(G:Nat->Prop)(own:Nat->Γ Nat)(us:Γ Nat)(b:Nat):Prop:=G b\/∃r∈us,b∈own r
def SmG(K:fG)(G:Nat->Prop)(sm:Bool):Nat->Prop:=if sm=true then K.G0 else G
theorem Kc(hR:bQ n K w0 G w a E L V own)(k:dD [] w w'){x:t.den}(hA:nE w0 G L V A v)(h:aD0 L t A=some (x,us)) :
  aM1 w' t x v (us.map own).flatten/\(∀r∈us,∃B,bZ L r=some B)/\∃r B vs b off ls,us=r::vs/\A = .bptr r 0 t/\bZ L r=some B/\B.t=t/\B.xs=[]/\B.ls=some ls/\V r = .slice (some ⟨b,off,none⟩) 0 1/\v = .pointer (some ⟨b,off,none⟩):=by
 unfold aD0 at h;split at h
 ·split at h
  ·rename_i B ht hB;split at h
   ·rename_i ls hls hck;split at h
    ·rename_i y us1 hown;simp at hck;obtain⟨hBt,hxs⟩:=hck;obtain⟨B',ls',b,off,hB',hls',hv,rfl,hsz⟩:=hA;obtain⟨h1,h2⟩:=aM8 (hR.ext k) hB hls hxs hv hBt hown
     grind
    lia
   lia
  lia
 lia
theorem Q5(hR:bQ n K w0 G w a E L V own)(k:dD [] w w'){x:t.den}(hA:nE w0 G L V A v)(h:aD1 L t A=some (x,us)) :
  aRU w' t x v (us.map own).flatten/\∀r∈us,∃B,bZ L r=some B:=by
 unfold aD1 at h;split at h
 ·rename_i t' ls;split at h
  ·rename_i ht;obtain rfl:=of_decide_eq_true ht;obtain⟨cs,rfl,hl,hr⟩:=hA;obtain⟨h1,h2⟩:=Ez (hR.ext k) hr h;exact⟨⟨cs,rfl,h1⟩,h2⟩
  ·cases h
 ·cases h
theorem DS(hR:bQ n K w0 G w a E L V own){w':World}(k:dD [] w w')(hG:∀b,G b->G' b){q:Bool}:∀ {sig:Γ AT} {ps:Γ PV} {vs:Γ Value} {x:eF sig} {os:Γ (Γ Nat)} {us:Γ Nat},
  DR w0 G L V ps vs->xP L sig ps=some (x,os,us)->(q=true->uX L sig ps=true)->(∀r∈us,∀b∈own r,G' b)->IH w' G' (SmG K G q) sig x vs (BV own os)
 | [],[],vs,x,os,us,hp,h,_,_=>by cases h;cases hp;exact⟨rfl,rfl⟩
 | t::r,y::s,vs,x,os,us,⟨v,vs',hvs,hpy,hps⟩,h,hq,hd=>by
  subst hvs;simp[xP]at h;split at h
  ·rename_i z o u zs os' us' h1 h2;cases h;have ih:=DS hR k hG hps h2 (λe=>by have:=hq e;simp[uX]at this;exact this.2) (λr hr=>hd r (dJ _ hr));have hd1:=λr hr=>hd r (dE us' hr);refine⟨_,_,(o.map own).flatten,BV own os',rfl,rfl,?_,ih⟩;cases t with
   | v t =>
    cases y with
    | a A =>
     simp[Ax]at h1;split at h1
     ·rename_i q hq;cases h1;exact⟨rfl,Uk hR k hG hpy hq hd1⟩
     lia
    | tup _=>cases h1
    | fn _ _=>cases h1
   | p t =>
    cases y with
    | a A =>
     simp only[Ax]at h1;split at h1
     ·rename_i q hq;cases h1;exact⟨rfl,Ul hR k hG hpy hq hd1⟩
     lia
    | tup _=>cases h1
    | fn _ _=>cases h1
   | own t =>
    cases y with
    | a A =>
     cases A with
     | osl r rg =>
      cases rg with
      | none =>
       simp[Ax]at h1;split at h1
       ·rename_i B hB;split at h1
        ·lia
        rename_i hbor;split at h1
        ·rename_i ht;cases h1;obtain⟨B',hB',hve,hs⟩:=hpy;obtain⟨tB,xB,bB,lB,sB⟩:=B;subst hbor;have hown:=(hR.heap r _ hB).keep (w':=w') λb hb=>k.block b (hR.own_lt hB b hb) (by simp);have hv:v=V r:=hve rfl;simp;rw[hv];exact aF7 ht (iI.own.1 hown)
        lia
       lia
      | some q=>cases h1
     | _=>cases h1
    | tup _=>cases h1
    | fn _ _=>cases h1
   | po t =>
    cases y with
    | a A =>
     simp only[Ax]at h1;split at h1
     ·rename_i x us1 hpo;cases h1;exact(Kc hR k hpy hpo).1
     lia
    | tup _=>cases h1
    | fn _ _=>cases h1
   | sv t =>
    cases y with
    | a A =>
     simp only[Ax]at h1;split at h1
     ·rename_i x us1 hsv;cases h1;exact(Q5 hR k hpy hsv).1
     lia
    | tup _=>cases h1
    | fn _ _=>cases h1
   | fn f caps =>
    cases y with
    | a A=>cases h1
    | tup _=>cases h1
    | fn g ats =>
     simp[Ax]at h1;split at h1
     ·rename_i q2 us'' hfg hq2;cases h1;obtain⟨vs,hv,hr⟩:=hpy;obtain rfl:=aZ hfg;exact⟨rfl,vs,hv,IR hR k hG hq2 hr hd1⟩
     lia
  lia
 | [],_::_,_,_,_,_,_,h,_,_=>by cases h
 | _::_,[],_,_,_,_,_,h,_,_=>by cases h
end
def IS:PV->Γ Nat
 | .a A=>vA A
 | .tup xs=>xs.flatMap vA
 | .fn _ xs=>xs.flatMap vA
def Um(r:Nat)(p:PV):PV:=match zN r (IS p)with | true => .a .junk | false=>p
def O1(r:Nat)(E:gH):gH:=E.map λq=>(q.1,Um r q.2)
theorem Q6(r:Nat):∀(E:gH) (i:Nat),(O1 r E).get i=Um r (E.get i)
 | [],i=>rfl
 | (j,p)::s,i=>by
  simp[O1,gH.get];cases h:cE j i with
  | true=>rfl
  | false=>exact Q6 r s i
variable {r:Nat}
theorem Un{p:PV}:r ∉ IS (Um r p)/\∀s∈IS (Um r p),s∈IS p:=by
 grind [Um,IS,vA,CE]
def n9(L:bM)(V:Nat->Value)(L':bM)(V':Nat->Value)(r:Nat):Prop :=
 V' r=V r/\∀A,bZ L r=some A->∃A',bZ L' r=some A'/\A'.t=A.t/\A'.xs.length=A.xs.length/\∀ls,A.ls=some ls->∃ls',A'.ls=some ls'
variable {L:bM} {V:Nat->Value}
theorem n9.of_same{L':bM}{V':Nat->Value}(hV:V' r=V r)(h:bZ L' r=bZ L r):n9 L V L' V' r :=
 ⟨hV,λA hA=>⟨A,by lia,rfl,rfl,λls h=>⟨ls,h⟩⟩⟩
theorem n9.trans{L L1 L2:bM}{V V1 V2:Nat->Value}{r:Nat}(h:n9 L V L1 V1 r)(k:n9 L1 V1 L2 V2 r):n9 L V L2 V2 r:=by
 refine⟨k.1.trans h.1,λA hA=>?_⟩;obtain⟨A',e1,e2,e3,e4⟩:=h.2 A hA;obtain⟨A'',f1,f2,f3,f4⟩:=k.2 A' e1;exact⟨A'',f1,f2.trans e2,f3.trans e3,λls hls=>by obtain⟨l',h'⟩:=e4 ls hls;exact f4 l' h'⟩
variable {v:Value}
theorem Fh{L L':bM}{V V':Nat->Value}{rg:Option (Nat×Nat)}(h:QW L V r rg v)(ha:n9 L V L' V' r):QW L' V' r rg v:=by
 obtain⟨B,hB,h1,h2⟩:=h;obtain⟨hV,hL⟩:=ha;obtain⟨B',hB',ht,hl,_⟩:=hL B hB;exact⟨B',hB',by lia,by lia⟩
variable {w0:World}
theorem aBf{G:Nat->Prop}{L L':bM}{V V':Nat->Value}{l:gB}(h:U3 w0 G L V l v)(ha:∀r∈MD l,n9 L V L' V' r):U3 w0 G L' V' l v:=by
 cases l with
 | osl r rg=>exact Fh h (ha r (by simp[MD]))
 | _=>exact h
theorem DT{w0:World}{G:Nat->Prop}{L L':bM}{V V':Nat->Value}:∀ {ls:Γ gB} {cs:Γ Value},iG w0 G L V ls cs->(∀r∈jC ls,n9 L V L' V' r)->iG w0 G L' V' ls cs
 | [],_,h,_=>h
 | l::ls,_,⟨v,r,h,h1,h2⟩,ha=>⟨v,r,h,aBf h1 (λr hr=>ha r (by grind [jC])),DT h2 (λr hr=>ha r (by grind [jC]))⟩
theorem CF{G:Nat->Prop}{L L':bM}{V V':Nat->Value}{A:c7}(h:nE w0 G L V A v)(ha:∀r∈vA A,n9 L V L' V' r):nE w0 G L' V' A v:=by
 cases A with
 | osl r rg=>exact Fh h (ha r (by simp[vA]))
 | optr r i p =>
  obtain⟨B,hB,h2⟩:=h;obtain⟨hV,hL⟩:=ha r (by simp[vA]);obtain⟨B',hB',ht,hl,_⟩:=hL B hB;exact⟨B',hB',by lia⟩
 | rcd t ls =>
  obtain⟨cs,h1,h2,h3⟩:=h;exact⟨cs,h1,h2,DT h3 ha⟩
 | bptr r o t =>
  obtain⟨B,ls,b,off,hB,h1,h2,h3,h4⟩:=h;obtain⟨hV,hL⟩:=ha r (by simp[vA]);obtain⟨B',hB',ht,hl,hls⟩:=hL B hB;obtain⟨ls',hls'⟩:=hls ls h1;exact⟨B',ls',b,off,hB',hls',by lia,h3,by lia⟩
 | _=>exact h
theorem IT{w0:World}{G:Nat->Prop}{L L':bM}{V V':Nat->Value}:∀ {ats:Γ c7} {vs:Γ Value},uS w0 G L V ats vs->(∀r∈ats.flatMap vA,n9 L V L' V' r)->uS w0 G L' V' ats vs
 | [],_,h,_=>h
 | A::s,vs,⟨v,r,h,h1,h2⟩,ha=>⟨v,r,h,CF h1 (λr hr=>ha r (by grind)),IT h2 (λr hr=>ha r (by grind))⟩
theorem sU{G:Nat->Prop}{L L':bM}{V V':Nat->Value}{p:PV}(h:mK w0 G L V p v)(ha:∀r∈IS p,n9 L V L' V' r):mK w0 G L' V' p v:=by
 cases p with
 | a A=>exact CF h ha
 | tup xs=>obtain⟨vs,hv,hr⟩:=h;exact⟨vs,hv,IT hr ha⟩
 | fn f xs=>obtain⟨vs,hv,hr⟩:=h;exact⟨vs,hv,IT hr ha⟩
theorem Zn{G:Nat->Prop}{p:PV}(r:Nat)(h:mK w0 G L V p v):mK w0 G L V (Um r p) v:=by
 unfold Um;cases zN r (IS p)with
 | true=>trivial
 | false=>lia
theorem Zo{rg:Option (Nat×Nat)}(h:QW L V r rg v):∃B,bZ L r=some B:=by
 obtain⟨B,hB,_⟩:=h;grind
theorem Fi{w0:World}{G:Nat->Prop}{L:bM}{V:Nat->Value}:∀ {ls:Γ gB} {cs:Γ Value},iG w0 G L V ls cs->∀r∈jC ls,∃B,bZ L r=some B
 | [],_,_,r,hr=>by cases hr
 | l::ls,_,⟨v,q,_,h1,h2⟩,r,hr=>by
  simp[jC]at hr;rcases hr with hr | hr
  ·cases l with
   | osl s rg=>simp[MD]at hr;subst hr;exact Zo h1
   | _=>grind [MD]
  ·exact Fi h2 r hr
theorem Kd{G:Nat->Prop}{A:c7}(h:nE w0 G L V A v):∀r∈vA A,∃B,bZ L r=some B:=by
 cases A with
 | osl r rg=>intro s hs;simp[vA]at hs;subst hs;exact Zo h
 | optr r i p=>obtain⟨B,hB,_⟩:=h;grind [vA]
 | rcd t ls=>obtain⟨cs,_,_,h⟩:=h;exact Fi h
 | bptr r o t=>obtain⟨B,ls,b,off,hB,_⟩:=h;grind [vA]
 | _=>simp[vA]
theorem ME{w0:World}{G:Nat->Prop}{L:bM}{V:Nat->Value}:∀ {ats:Γ c7} {vs:Γ Value},uS w0 G L V ats vs->∀r∈ats.flatMap vA,∃B,bZ L r=some B
 | [],_,_,r,hr=>by grind
 | A::s,vs,⟨v,q,h,h1,h2⟩,r,hr=>by
  simp only[List.flatMap_cons,dC]at hr;rcases hr with hr | hr
  ·exact Kd h1 r hr
  ·exact ME h2 r hr
theorem Zp{G:Nat->Prop}{p:PV}(h:mK w0 G L V p v):∀r∈IS p,∃B,bZ L r=some B:=by
 cases p with
 | a A=>exact Kd h
 | tup xs=>obtain⟨vs,hv,hr⟩:=h;exact ME hr
 | fn f xs=>obtain⟨vs,hv,hr⟩:=h;exact ME hr
def FA{β:Type}(f:Nat->β)(r:Nat)(x:β):Nat->β:=λs=>cond (cE s r) x (f s)
theorem eX{β:Type}(f:Nat->β)(r:Nat)(x:β):FA f r x r=x:=by simp[FA]
theorem dF{β:Type}(f:Nat->β){r s:Nat}(x:β)(h:s≠r):FA f r x s=f s:=by
 simp[FA,zI h]
def zO(r:Nat):gB->gB
 | .osl s rg=>match cE s r with | true => .junk | false => .osl s rg
 | l=>l
def pQ(r:Nat)(A:iE):iE:=match A.ls with
 | some ls=>⟨A.t,A.xs,A.bor,some (ls.map (zO r)),A.sm⟩
 | none=>A
def y5(r:Nat)(L:bM):bM:=L.map λo=>match o with | some A=>some (pQ r A) | none=>none
theorem oS(r:Nat):∀(L:bM) (s:Nat),bZ (y5 r L) s=(bZ L s).map (pQ r)
 | [],_=>rfl
 | some A::L,0=>rfl
 | none::L,0=>rfl
 | _::L,s+1=>by exact oS r L s
theorem O2(r:Nat)(A:iE):(pQ r A).t=A.t:=by grind [pQ]
theorem ue(r:Nat)(A:iE):(pQ r A).sm=A.sm:=by grind [pQ]
theorem Zq(r:Nat)(A:iE):(pQ r A).bor=A.bor:=by grind [pQ]
theorem Ke{w0 w:World}{G:Nat->Prop}{A:iE}{bs:Γ Nat}:iI w0 G w (pQ r A) v bs↔iI w0 G w A v bs:=by
 unfold pQ;split
 all_goals rfl
theorem Q7(r:Nat)(A:iE):(pQ r A).xs.length=A.xs.length:=by grind [pQ]
theorem IU{A:iE}:(∀ls,A.ls=some ls->(pQ r A).ls=some (ls.map (zO r)))/\∀ls',(pQ r A).ls=some ls'->∃ls,A.ls=some ls/\ls'=ls.map (zO r):=by
 unfold pQ
 grind
theorem uf(r:Nat)(L:bM)(V:Nat->Value)(s:Nat):n9 L V (y5 r L) V s :=
 ⟨rfl,λA hA=>⟨pQ r A,by grind [oS],O2 r A,Q7 r A,λls hls=>⟨_,IU.1 ls hls⟩⟩⟩
theorem Uo{w0:World}{G:Nat->Prop}{L:bM}{V:Nat->Value}(r:Nat):∀ {ls:Γ gB} {cs:Γ Value},iG w0 G L V ls cs->iG w0 G L V (ls.map (zO r)) cs
 | [],_,h=>h
 | l::ls,_,⟨v,s,h,h1,h2⟩=>by
  refine⟨v,s,h,?_,Uo r h2⟩;cases l with
  | osl s' rg =>
   simp[zO];cases cE s' r with
   | true=>exact QW.one h1
   | false=>lia
  | _=>exact h1
theorem IV{r:Nat}:∀ {ls:Γ gB},r ∉ jC (ls.map (zO r))/\∀s∈jC (ls.map (zO r)),s∈jC ls
 | []=>⟨by simp[jC],λs hs=>hs⟩
 | l::ls=>by
  obtain⟨h1,h2⟩:=IV (r:=r) (ls:=ls);have key:r ∉ MD (zO r l)/\∀s∈MD (zO r l),s∈MD l:=by
   cases l with
   | osl s rg =>
    simp[zO];cases hb:cE s r with
    | true=>simp[MD]
    | false =>
     simp[MD];intro e;simp_all
   | _=>simp[zO,MD]
  simp[jC]
  grind
theorem Dk.agree{w0 w:World}{G:Nat->Prop}{L L':bM}{V V':Nat->Value}{t:Ty}{ls:Γ gB}(h:Dk w0 G w L V t ls v)(ha:∀r∈jC ls,n9 L V L' V' r):Dk w0 G w L' V' t ls v:=by
 obtain⟨b,off,cs,h1,h3,h4,h5,h6⟩:=h;exact⟨b,off,cs,h1,h3,h4,h5,DT h6 ha⟩
theorem Dk.live{w0 w:World}{G:Nat->Prop}{t:Ty}{ls:Γ gB}(h:Dk w0 G w L V t ls v):∀r∈jC ls,∃B,bZ L r=some B:=by
 obtain⟨b,off,cs,h1,h3,h4,h5,h6⟩:=h
 grind [Fi]
theorem Dk.kill{w0 w:World}{G:Nat->Prop}{t:Ty}{ls:Γ gB}(r:Nat)(h:Dk w0 G w L V t ls v):Dk w0 G w L V t (ls.map (zO r)) v:=by
 obtain⟨b,off,cs,h1,h3,h4,h5,h6⟩:=h;exact⟨b,off,cs,h1,h3,by grind,h5,Uo r h6⟩
section
variable {P:Program} {n:Nat} {K:fG} {G:Nat->Prop} {w0 w:World} {a:Act} {E:gH} {L:bM} {V:Nat->Value} {own:Nat->Γ Nat}
variable {v:Value} {bs:Γ Nat}
theorem bQ.grow(hR:bQ n K w0 G w a E L V own){A0:iE}(ho:iI w0 G w A0 v bs)(hn:bs.Nodup)(hg:∀b∈bs,Out K G b)
  (hd:∀r A,bZ L r=some A->∀b∈own r,b ∉ bs) (hbox:∀ls,A0.ls=some ls->Dk w0 G w L V A0.t ls v:=by intro ls h;cases h) (hsm:∀q,A0.sm=some q->(∃b off,v = .slice (some ⟨b,off,none⟩) 1 1)/\(q=true->A0.bor=true/\iI w0 K.G0 w A0 v bs):=by intro q h;cases h):bQ n K w0 G w a E (L++[some A0]) (FA V L.length v) (FA own L.length bs):=by
 have hsplit:∀r A,bZ (L++[some A0]) r=some A->(r≠L.length/\bZ L r=some A)\/(r=L.length/\A=A0):=by
  intro r A h;rw[nC]at h;split at h
  ·lia
  ·have:r-L.length=0:=by
    cases hk:r-L.length with
    | zero=>rfl
    | succ k=>grind [bZ]
   grind [bZ]
 have hagree:∀r,(∃B,bZ L r=some B)->n9 L V (L++[some A0]) (FA V L.length v) r:=by
  rintro r ⟨B,hB⟩;have hlt:=xL hB;refine n9.of_same (dF _ _ (by lia)) ?_;rw[nC,π hlt]
 refine⟨hR.glob,hR.kept,hR.size,hR.defers,hR.glt,hR.gref,hR.gsub,hR.gold,hR.gup,?_,?_,?_,?_,?_,?_,λi=>sU (hR.env i) λr hr=>hagree r (Zp (hR.env i) r hr)⟩
 ·intro r A h;rcases hsplit r A h with ⟨hne,h⟩ | ⟨rfl,rfl⟩
  ·rw[dF _ _ hne,dF _ _ hne];exact hR.heap r A h
  grind [eX]
 ·intro r A h;rcases hsplit r A h with ⟨hne,h⟩ | ⟨rfl,rfl⟩
  ·rw[dF _ _ hne];exact hR.good r A h
  grind [eX]
 ·intro r A h;rcases hsplit r A h with ⟨hne,h⟩ | ⟨rfl,rfl⟩
  ·rw[dF _ _ hne];exact hR.nodup r A h
  grind [eX]
 ·intro r s A B h1 h2 hrs;rcases hsplit r A h1 with ⟨hne,g1⟩ | ⟨rfl,rfl⟩
  ·rcases hsplit s B h2 with ⟨hne',g2⟩ | ⟨rfl,rfl⟩
   ·rw[dF _ _ hne,dF _ _ hne'];exact hR.apart r s A B g1 g2 hrs
   grind [eX,dF]
  ·rcases hsplit s B h2 with ⟨hne',g2⟩ | ⟨rfl,rfl⟩
   ·grind [eX,dF]
   lia
 ·intro r A ls h hls;rcases hsplit r A h with ⟨hne,h⟩ | ⟨rfl,rfl⟩
  ·rw[dF _ _ hne];have hb:=hR.boxs r A ls h hls;exact hb.agree λs hs=>hagree s (hb.live s hs)
  ·rw[eX];have hb:=hbox ls hls;exact hb.agree λs hs=>hagree s (hb.live s hs)
 ·intro r A q h hs;rcases hsplit r A h with ⟨hne,h⟩ | ⟨rfl,rfl⟩
  ·rw[dF _ _ hne,dF _ _ hne];exact hR.small r A q h hs
  grind [eX]
theorem vB{A0:iE}{G G':Nat->Prop}{u:World}(h:iI u G' w A0 v bs):nE w0 G (L++[some A0]) (FA V L.length v) (.osl L.length none) v:=by
 have hg:bZ (L++[some A0]) L.length=some A0:=by
  rw[nC,ν (ZK _),yL];rfl
 refine⟨_,hg,λ_=>(eX _ _ _).symm,?_⟩;rw[eX];refine⟨aY _,aU _,?_⟩;rcases h.2 with ⟨ad,h1,h2,_⟩ | ⟨b,off,cap,cur,ty,fz,bss,h1,h2,h3,h4,h5,h6,h7,h8,h9⟩
 ·grind
 ·exact .inr ⟨b,off,A0.xs.length,cap,off,cap,h1,by rw[h1];rfl,by grind [Ht],.inl ⟨by simp[zJ],by simp[zJ]⟩⟩
theorem Up(L:bM)(A:iE):bZ (L++[some A]) L.length=some A:=by
 rw[nC,ν (ZK _),yL];rfl
theorem bQ.widen(hR:bQ n K w0 G w a E L V own){F:Nat->Prop}(hF:∀b,F b->b<w.heap.size)(hF2:∀b,F b->¬Good K.w0 K.O b)(hd:∀b,F b->∀r A,bZ L r=some A->b ∉ own r):bQ n K w (λb=>G b\/F b) w a E L V own:=by
 have hG:∀b,G b->(λb=>G b\/F b) b:=λb hb => .inl hb;have repA:∀ {A:c7} {v:Value},nE w0 G L V A v->nE w (λb=>G b\/F b) L V A v:=by
  intro A v h;have hls:∀ {ls:Γ gB} {cs:Γ Value},iG w0 G L V ls cs->iG w (λb=>G b\/F b) L V ls cs:=by
   intro ls
   induction ls with
   | nil=>intro cs h;exact h
   | cons l r ih =>
    rintro cs ⟨v,s,h1,h2,h3⟩;refine⟨v,s,h1,?_,ih h3⟩;cases l with
    | sl t xs=>exact oA.keep (λ_ _=>fI.keep hG hR.gref) hG hR.gref h2
    | _=>exact h2
  cases A with
  | osl r rg=>exact h
  | optr r i p=>exact h
  | rcd t ls=>obtain⟨cs,h1,h2,h3⟩:=h;exact⟨cs,h1,h2,hls h3⟩
  | bptr r o t=>exact h
  | val u=>exact h
  | sl t xs=>exact pP (A := .sl t xs) hG hR.gref h
  | ptr t x=>exact pP (A := .ptr t x) hG hR.gref h
  | st t x=>exact pP (A := .st t x) hG hR.gref h
  | junk=>exact h
 have repAs:∀ {ats:Γ c7} {vs:Γ Value},uS w0 G L V ats vs->uS w (λb=>G b\/F b) L V ats vs:=by
  intro ats
  induction ats with
  | nil=>intro vs h;exact h
  | cons A s ih=>rintro vs ⟨v,r,h1,h2,h3⟩;exact⟨v,r,h1,repA h2,ih h3⟩
 have hls:∀ {ls:Γ gB} {cs:Γ Value},iG w0 G L V ls cs->iG w (λb=>G b\/F b) L V ls cs:=by
  intro ls
  induction ls with
  | nil=>intro cs h;exact h
  | cons l r ih =>
   rintro cs ⟨v,s,h1,h2,h3⟩;refine⟨v,s,h1,?_,ih h3⟩;cases l with
   | sl t xs=>exact oA.keep (λ_ _=>fI.keep hG hR.gref) hG hR.gref h2
   | _=>exact h2
 refine⟨hR.glob,hR.kept,hR.size,hR.defers,?_,λ_ _=>rfl,λb hb => .inl (hR.gsub b hb),hR.gold,λb hb=>hb.elim (hR.gup b) (λh => .inr (hF2 b h)),λr A hA=>(hR.heap r A hA).keepG hG hR.gref (λ_ _=>rfl),?_,hR.nodup,hR.apart,?_,?_,λi=>?_⟩
 ·rintro b (hb | hb)
  ·exact hR.glt b hb
  grind
 ·intro r A hA b hb;obtain⟨h1,h2⟩:=hR.good r A hA b hb;exact⟨h1,λh=>h.elim h2 λhf=>hd b hf r A hA hb⟩
 ·intro r A ls hA hls';obtain⟨b,off,cs,h1,h3,h4,h5,h6⟩:=hR.boxs r A ls hA hls';exact⟨b,off,cs,h1,h3,h4,h5,hls h6⟩
 ·intro r A q hA hs;obtain⟨h1,h2⟩:=hR.small r A q hA hs;exact⟨h1,λe=>⟨(h2 e).1,(h2 e).2.keepG (λ_ h=>h) (λb hb=>hR.gref b (hR.gsub b hb)) (λ_ _=>rfl)⟩⟩
 ·have hi:=hR.env i;generalize E.get i=p at hi;cases p with
  | a A=>exact repA hi
  | tup xs=>obtain⟨vs,hv,hr⟩:=hi;exact⟨vs,hv,repAs hr⟩
  | fn f xs=>obtain⟨vs,hv,hr⟩:=hi;exact⟨vs,hv,repAs hr⟩
structure qF (L:bM) (es:bM) (V V':Nat->Value) (own own':Nat->Γ Nat) (bs:Γ Nat):Prop where
 same:∀r,r<L.length->V' r=V r/\own' r=own r
 new:∀r,L.length<=r->r<L.length+es.length->∀b∈own' r,b∈bs
theorem qF.agree{es:bM}{V V':Nat->Value}{own own':Nat->Γ Nat}(h:qF L es V V' own own' bs):∀r,(∃B,bZ L r=some B)->n9 L V (L++es) V' r:=by
 rintro r ⟨B,hB⟩;have hlt:=xL hB;exact n9.of_same (h.same r hlt).1 (by rw[nC,π hlt])
theorem qF.refl(V:Nat->Value)(own:Nat->Γ Nat)(bs:Γ Nat):qF L [] V V own own bs :=
 ⟨λr _=>⟨rfl,rfl⟩,λr h1 h2=>by grind⟩
theorem qF.trans{es fs:bM}{V V1 V2:Nat->Value}{own own1 own2:Nat->Γ Nat}{bs cs ds:Γ Nat}(h:qF L es V V1 own own1 bs)(k:qF (L++es) fs V1 V2 own1 own2 cs)(hb:∀b∈bs,b∈ds)(hc:∀b∈cs,b∈ds):qF L (es++fs) V V2 own own2 ds:=by
 refine⟨λr hr=>?_,λr h1 h2 b hb'=>?_⟩
 ·obtain⟨e1,e2⟩:=k.same r (by grind);obtain⟨f1,f2⟩:=h.same r hr
  lia
 ·by_cases hlt:r<L.length+es.length
  ·rw[(k.same r (by grind)).2]at hb';exact hb b (h.new r h1 hlt b hb')
  ·exact hc b (k.new r (by grind) (by grind) b hb')
theorem qF.apart{es:bM}{V V':Nat->Value}{own own':Nat->Γ Nat}{bs rest:Γ Nat}(h:qF L es V V' own own' bs)(ho:∀r A,bZ L r=some A->∀b∈own r,b ∉ rest)(hn:∀b∈bs,b ∉ rest):∀r A,bZ (L++es) r=some A->∀b∈own' r,b ∉ rest:=by
 intro r A hA b hb;rw[nC]at hA;split at hA
 ·rename_i hlt;rw[(h.same r hlt).2]at hb
  grind
 ·have:=xL hA;exact hn b (h.new r (by lia) (by lia) b hb)
def sP(k:Nat):(t:Ty)->t.den->Γ gB×bM
 | .int k',n=>([.val (.int k' n)],[])
 | .bool,b=>([.val (.bool b)],[])
 | .fn,f=>([.val (fnV f)],[])
 | .str,s=>([.val (.string s)],[])
 | .sl e,xs=>([.osl k none],[some ⟨e,xs,false,none,none⟩])
 | .unit,_=>([],[])
 | .cons a b,x=>match sP k a x.1 with
  | (l1,e1)=>match sP (k+e1.length) b x.2 with
   | (l2,e2)=>(l1++l2,e1++e2)
theorem O3(hR:bQ n K w0 G w a E L V own){A0:iE}(ho:iI w0 G w A0 v bs)(hn:bs.Nodup)(hg:∀b∈bs,Out K G b)(hd:∀r A,bZ L r=some A->∀b∈own r,b ∉ bs)
  (hbox:∀ls,A0.ls=some ls->Dk w0 G w L V A0.t ls v:=by intro ls h;cases h) (hsm:∀q,A0.sm=some q->(∃b off,v = .slice (some ⟨b,off,none⟩) 1 1)/\(q=true->A0.bor=true/\iI w0 K.G0 w A0 v bs):=by intro q h;cases h) :
  bQ n K w0 G w a E (L++[some A0]) (FA V L.length v) (FA own L.length bs)/\qF L [some A0] V (FA V L.length v) own (FA own L.length bs) bs:=by
 refine⟨hR.grow ho hn hg hd hbox hsm,λr hr=>⟨dF _ _ (by lia),dF _ _ (by lia)⟩,λr h1 h2 b hb=>?_⟩;have:r=L.length:=by grind
 grind [eX]
theorem Bu:∀ {t:Ty} {x:t.den} {cs:Γ Value} {bs:Γ Nat} {L:bM} {V:Nat->Value} {own:Nat->Γ Nat},bQ n K w0 G w a E L V own->iH w t x cs bs->bs.Nodup->(∀b∈bs,Out K G b)->(∀r A,bZ L r=some A->∀b∈own r,b ∉ bs) ->
  ∃V' own',bQ n K w0 G w a E (L++(sP L.length t x).2) V' own'/\qF L (sP L.length t x).2 V V' own own' bs/\iG w0 G (L++(sP L.length t x).2) V' (sP L.length t x).1 cs/\(sP L.length t x).1.length=t.size
 | .int k,x,cs,bs,L,V,own,hR,ho,_,_,_=>by
  obtain⟨rfl,h1,_⟩:=ho;exact⟨V,own,by grind [sP],qF.refl _ _ _,⟨_,_,rfl,⟨rfl,h1,rfl⟩,rfl⟩,rfl⟩
 | .bool,x,cs,bs,L,V,own,hR,ho,_,_,_=>by
  obtain⟨rfl,_⟩:=ho;exact⟨V,own,by grind [sP],qF.refl _ _ _,⟨_,_,rfl,⟨rfl,trivial,rfl⟩,rfl⟩,rfl⟩
 | .fn,x,cs,bs,L,V,own,hR,ho,_,_,_=>by
  obtain⟨rfl,_⟩:=ho;exact⟨V,own,by grind [sP],qF.refl _ _ _,⟨_,_,rfl,⟨rfl,aAU x,Tw x⟩,rfl⟩,rfl⟩
 | .str,x,cs,bs,L,V,own,hR,ho,_,_,_=>by
  obtain⟨rfl,h1,_⟩:=ho;exact⟨V,own,by grind [sP],qF.refl _ _ _,⟨_,_,rfl,⟨rfl,h1,rfl⟩,rfl⟩,rfl⟩
 | .unit,x,cs,bs,L,V,own,hR,ho,_,_,_=>by
  obtain⟨rfl,_⟩:=ho;exact⟨V,own,by grind [sP],qF.refl _ _ _,rfl,rfl⟩
 | .sl e,xs,cs,bs,L,V,own,hR,ho,hn,hg,hd=>by
  obtain⟨v,rfl,ho'⟩:=ho;have hE:iI w0 G w ⟨e,xs,false,none,none⟩ v bs:=iI.own.2 ⟨v,rfl,ho'⟩;obtain⟨h1,h2⟩:=O3 hR hE hn hg hd;exact⟨_,_,h1,h2,⟨_,_,rfl,vB (w0:=w0) (G:=G) (u:=w0) (G':=G) hE,rfl⟩,rfl⟩
 | .cons p q,x,cs,bs,L,V,own,hR,ho,hn,hg,hd=>by
  obtain⟨c1,c2,b1,b2,rfl,rfl,ho1,ho2⟩:=ho;rw[lR]at hn;obtain⟨V1,own1,r1,g1,l1,n1⟩:=Bu hR ho1 hn.1 (λb hb=>hg b (dE _ hb)) (λr A hA b hb hm=>hd r A hA b hb (dE _ hm));have hlen:(L++(sP L.length p x.1).2).length=L.length+(sP L.length p x.1).2.length:=by simp
  obtain⟨V2,own2,r2,g2,l2,n2⟩:=Bu r1 ho2 hn.2.1 (λb hb=>hg b (dJ _ hb)) (g1.apart (λr A hA b hb hm=>hd r A hA b hb (dJ _ hm)) (λb hb hm=>hn.2.2 b hb b hm rfl));rw[hlen]at r2 g2 l2 n2;have e1:(sP L.length (.cons p q) x).2=(sP L.length p x.1).2++(sP (L.length+(sP L.length p x.1).2.length) q x.2).2:=rfl;have e2:(sP L.length (.cons p q) x).1=(sP L.length p x.1).1++(sP (L.length+(sP L.length p x.1).2.length) q x.2).1:=rfl;rw[e1,e2, <- cK];refine⟨V2,own2,r2,g1.trans g2 (λb hb=>dE _ hb) (λb hb=>dJ _ hb),xO (DT l1 λr hr=>g2.agree r (Fi l1 r hr)) l2,?_⟩;rw[bS,n1,n2];rfl
def fe:Γ RK->Bool
 | []=>true
 | .own::r=>fe r
 | _::_=>false
def zP(k:Nat):RK->aS->c7×bM
 | .own,⟨.sl e,xs⟩=>(.osl k none,[some ⟨e,xs,false,none,none⟩])
 | .own,⟨t,x⟩=>match t.flat with
  | true=>(jY t x,[])
  | false=>match sP k t x with
   | (ls,es)=>(.rcd t ls,es)
 | .frz,d=>(jY d.t d.x,[])
def O4(k:Nat):Γ RK->Γ aS->Γ c7×bM
 | _,[]=>([],[])
 | ks,d::r=>match zP k (RK.hd ks) d with
  | (A,es)=>match O4 (k+es.length) ks.tail r with
   | (As,fs)=>(A::As,es++fs)
theorem Uq{t:Ty}{cs:Γ Value}(hl:cs.length=t.size)(h:H8 t cs v):v=gY t cs:=by
 cases t <;> simp[H8]at h <;> subst h <;> rfl
theorem Ur{t:Ty}{x:t.den}{cs:Γ Value}(hf:t.flat=true)(h:iH w t x cs bs)(hv:H8 t cs v)(G:Nat->Prop) :
  nE w0 G L V (jY t x) v/\bs=[]:=by
 obtain⟨hr,hb⟩:=h.flat (w':=w0) (G:=G) hf;rw[Uq h.length hv];exact⟨Ab hr.repB,hb⟩
theorem CG{b:Γ Nat}{bs:Γ (Γ Nat)}(h:(b::bs).flatten.Nodup):b.Nodup/\bs.flatten.Nodup/\∀x∈b,x ∉ bs.flatten:=by
 grind
theorem aM9{k:RK}{d:aS}{Gc F:Nat->Prop}{b:Γ Nat}(hR:bQ n K w0 G w a E L V own)(hk:k = .own\/((∀c,Gc c\/F c->G c)/\w0=w))(hr:U4 w Gc F k d v b)(hn:b.Nodup)(hg:∀c∈b,Out K G c)(hd:∀r A,bZ L r=some A->∀c∈own r,c ∉ b) :
  ∃V' own',bQ n K w0 G w a E (L++(zP L.length k d).2) V' own'/\qF L (zP L.length k d).2 V V' own own' b/\nE w0 G (L++(zP L.length k d).2) V' (zP L.length k d).1 v:=by
 obtain⟨t,x⟩:=d;cases k with
 | own =>
  obtain⟨cs,ho,hv⟩:=hr;by_cases hsl:∃e,t = .sl e
  ·obtain⟨e,rfl⟩:=hsl;subst hv;have hE:iI w0 G w ⟨e,x,false,none,none⟩ v b:=iI.own.2 ho;obtain⟨h1,h2⟩:=O3 hR hE hn hg hd;exact⟨_,_,h1,h2,vB (w0:=w0) (G:=G) (u:=w0) (G':=G) hE⟩
  ·have e:zP L.length .own ⟨t,x⟩=match t.flat with
     | true=>(jY t x,[])
     | false=>match sP L.length t x with
      | (ls,es)=>(.rcd t ls,es):=by
    cases t with
    | sl e=>lia
    | _=>rfl
   rw[e];cases hf:t.flat with
   | true =>
    grind [qF.refl,Ur]
   | false =>
    obtain⟨V',own',h1,h2,h3,h4⟩:=Bu hR ho hn hg hd;refine⟨V',own',h1,h2,cs,?_,h4,h3⟩;rw[Uq ho.length hv];cases t with
    | sl e=>lia
    | unit=>rfl
    | cons _ _=>rfl
    | int _=>cases hf
    | bool=>cases hf
    | fn=>cases hf
    | str=>cases hf
 | frz =>
  obtain⟨hG,rfl⟩:=hk.resolve_left (by lia);obtain⟨rfl,cs,hc,hv⟩:=hr;refine⟨V,own,by grind [zP],qF.refl _ _ _,?_⟩;rw[Uq hc.length hv];exact Ab (hc.keep hG (λ_ _=>rfl)).repB
theorem Us:∀ {ks:Γ RK} {ds:Γ aS} {Gc F:Nat->Prop} {L:bM} {V:Nat->Value} {own:Nat->Γ Nat} {rs:Γ Value} {rbs:Γ (Γ Nat)},
  bQ n K w0 G w a E L V own->(fe ks=true\/((∀c,Gc c\/F c->G c)/\w0=w))->Yo w Gc F ks ds rs rbs->rbs.flatten.Nodup->(∀b∈rbs.flatten,Out K G b)->(∀r A,bZ L r=some A->∀b∈own r,b ∉ rbs.flatten) ->
  ∃V' own',bQ n K w0 G w a E (L++(O4 L.length ks ds).2) V' own'/\qF L (O4 L.length ks ds).2 V V' own own' rbs.flatten/\uS w0 G (L++(O4 L.length ks ds).2) V' (O4 L.length ks ds).1 rs
 | ks,[],Gc,F,L,V,own,rs,rbs,hR,_,hr,_,_,_=>by
  have hr':rs=[]/\rbs=[]:=by cases ks <;> exact hr
  obtain⟨rfl,rfl⟩:=hr';have e:O4 L.length ks []=([],[]):=by rfl
  exact⟨V,own,by grind,qF.refl _ _ _,rfl⟩
 | ks,d::ds,Gc,F,L,V,own,rs,rbs,hR,hk,hr,hn,hg,hd=>by
  have hr':∃v s b bs,rs=v::s/\rbs=b::bs/\U4 w Gc F (RK.hd ks) d v b/\Yo w Gc F ks.tail ds s bs:=by cases ks <;> exact hr
  obtain⟨v,s,b,bs,rfl,rfl,h1,h2⟩:=hr';obtain⟨hn1,hn2,hn3⟩:=CG hn;have hk1:RK.hd ks = .own\/((∀c,Gc c\/F c->G c)/\w0=w):=hk.imp_left λh=>by
   cases ks with
   | nil=>rfl
   | cons k ks=>cases k <;> first | rfl | cases h
  have hk2:fe ks.tail=true\/((∀c,Gc c\/F c->G c)/\w0=w):=hk.imp_left λh=>by
   cases ks with
   | nil=>rfl
   | cons k ks=>cases k <;> first | exact h | cases h
  obtain⟨V1,own1,r1,g1,a1⟩:=aM9 hR hk1 h1 hn1 (λc hc=>hg c (by grind)) (λr A hA c hc hm=>hd r A hA c hc (by grind));have hlen:(L++(zP L.length (RK.hd ks) d).2).length=L.length+(zP L.length (RK.hd ks) d).2.length:=by simp
  obtain⟨V2,own2,r2,g2,a2⟩:=Us r1 hk2 h2 hn2 (λc hc=>hg c (by grind)) (g1.apart (λr A hA c hc hm=>hd r A hA c hc (by grind)) hn3);rw[hlen]at r2 g2 a2;have e:O4 L.length ks (d::ds)=((zP L.length (RK.hd ks) d).1::(O4 (L.length+(zP L.length (RK.hd ks) d).2.length) ks.tail ds).1,(zP L.length (RK.hd ks) d).2++(O4 (L.length+(zP L.length (RK.hd ks) d).2.length) ks.tail ds).2):=by
   rfl
  rw[e, <- cK];refine⟨V2,own2,r2,g1.trans g2 (λc hc=>by grind) (λc hc=>by grind),v,s,rfl,?_,a2⟩;exact CF a1 λr hr=>g2.agree r (Kd a1 r hr)
end
abbrev FB:=Γ (Nat×Option iE)
def aD2(t:Ty):Γ gB:=aP t.size .junk
def Kf(us:Γ Nat):FB:=us.map λr=>(r,none)
def Q8(L:bM):(t:Ty)->Γ gB->t.den->Option (Γ Prop×FB)
 | .sl e,ls,xs=>match ls with
  | [.osl r none]=>match bZ L r with
   | some A=>match decide (A.t=e),A.ls with
    | true,none=>some ([xs.length=A.xs.length],[(r,some ⟨e,xs,false,none,none⟩)])
    | _,_=>none
   | none=>none
  | [.val (.slice none _ _)]=>some ([],[])
  | _=>none
 | .cons a b,ls,x=>match Q8 L a (ls.take a.size) x.1,Q8 L b (ls.drop a.size) x.2 with
  | some (cs,as),some (ds,bs)=>some (cs++ds,as++bs)
  | _,_=>none
 | _,_,_=>some ([],[])
def aMA(t:Ty)(A:jD):Option t.den:=if h:A.t=t then aZN (qE h A.xs)else none
def aD3(L:bM)(us:Γ Nat)(A':jD):Option (Γ Prop×FB) :=
 match us with
 | [r]=>match bZ L r with
  | some A=>match decide (A'.t=A.t),A.ls with
   | true,none=>some ([A'.xs.length=A.xs.length],[(r,some ⟨A'.t,A'.xs,false,none,none⟩)])
   | _,_=>none
  | none=>none
 | _=>none
def aIa(t:Ty)(us:Γ Nat)(A':jD):Option (FB×Γ (Nat×aS)) :=
 match us,aMA t A' with
 | r::vs,some x=>some ((r,some ⟨t,[],false,some (aD2 t),none⟩)::Kf vs,[(r,⟨t,x⟩)])
 | _,_=>none
def aIb(L:bM)(t:Ty)(p:PV)(A':jD):Option (Γ Prop×FB) :=
 match p,aMA t A' with
 | .a (.rcd _ ls),some x=>Q8 L t ls x
 | _,_=>none
def O5(L:bM)(q:Bool):AT->PV->Γ Nat->jD->Option (Γ Prop×FB×Γ (Nat×aS))
 | .own t,p,us,A'=>match aD3 L us A' with | some (cs,as)=>some (cs,as,[]) | none=>none
 | .po t,p,us,A'=>match aIa t us A' with | some (as,ex)=>some ([],as,ex) | none=>none
 | .sv t,p,us,A'=>match aIb L t p A' with | some (cs,as)=>some (cs,as,[]) | none=>none
 | _,_,_,_=>none
def ff(L:bM)(q:Bool)(o:AT)(p:PV)(us:Γ Nat):Option jD->Option (Γ Prop×FB×Γ (Nat×aS))
 | none=>some ([],Kf us,[])
 | some A'=>O5 L q o p us A'
def O6:AT->Bool
 | .own _=>true
 | .po _=>true
 | .sv _=>true
 | _=>false
def Fj(L:bM)(q:Bool):Γ AT->Γ PV->Γ (Γ Nat)->Γ (Option jD)->Option (Γ Prop×FB×Γ (Nat×aS))
 | [],_,_,[]=>some ([],[],[])
 | o::r,p::s,us::os,ups=>match O6 o with
  | false=>Fj L q r s os ups
  | true=>match ups with
   | u::ups=>match ff L q o p us u,Fj L q r s os ups with
    | some (cs,as,ex),some (ds,bs,fx)=>some (cs++ds,as++bs,ex++fx)
    | _,_=>none
   | []=>none
 | _,_,_,_=>none
def y6:FB->gH×bM->gH×bM
 | [],EL=>EL
 | (r,none)::s,EL=>y6 s (O1 r EL.1,y5 r (jT EL.2 r none))
 | (r,some A)::s,EL=>y6 s (EL.1,jT EL.2 r (some A))
def fg:Γ (Nat×aS)->bM->bM
 | [],L=>L
 | (r,d)::s,L=>match sP L.length d.t d.x with
  | (ls,es)=>fg s (jT (L++es) r (some ⟨d.t,[],false,some ls,none⟩))
def ug:Γ c7->PV
 | [A] => .a A
 | ats => .tup ats
def Zr(ext:Aw)(E:gH)(L:bM)(f:FuncId)(ps:Γ PV):Option (Γ Prop×PV×gH×bM) :=
 match ext with
 | []=>none
 | (g,S)::r=>match cE f g with
  | true=>match xP L S.sig ps with
   | some (x,os,us)=>match uc os.flatten us&&CD os.flatten&&(fe S.kds||us.isEmpty),Fj L (uX L S.sig ps) S.sig ps os (S.upd x)with
    | true,some (cs,acts,ex)=>match y6 acts (E,L)with
     | (E',L1)=>match fg ex L1 with
      | L2=>match O4 L2.length S.kds (S.res x)with
       | (ats,es)=>some (S.pre x::cs,ug ats,E',L2++es)
    | _,_=>Zr r E L f ps
   | none=>Zr r E L f ps
  | false=>Zr r E L f ps
section
variable {P:Program} {n:Nat} {K:fG} {G:Nat->Prop} {w0 w:World} {a:Act} {E:gH} {L:bM} {V:Nat->Value} {own:Nat->Γ Nat}
variable {r:Nat}
theorem j0{L:bM}{x:Option iE}{A:iE}(h:bZ L r=some A):bZ (jT L r x) r=x:=by
 rw[Zc,π ⟨rfl,xL h⟩]
theorem dM{L:bM}{r s:Nat}{x:Option iE}(h:r≠s):bZ (jT L r x) s=bZ L s:=by
 rw[Zc,ν (λhh=>h hh.1)]
def Zs(A A':iE):Prop:=A'.t=A.t/\A'.xs.length=A.xs.length/\∀ls,A.ls=some ls->∃ls',A'.ls=some ls'
theorem aBg{A A':iE}(h:Zs A A'):Zs (pQ r A) A':=by
 obtain⟨h1,h2,h3⟩:=h;refine⟨h1.trans (O2 r A).symm,h2.trans (Q7 r A).symm,λls hls=>?_⟩;obtain⟨l0,h0,_⟩:=IU.2 ls hls
 grind
theorem Q9{A A':iE}(hA:bZ L r=some A)(h:Zs A A')(V:Nat->Value)(s:Nat):n9 L V (jT L r (some A')) V s:=by
 refine⟨rfl,λB hB=>?_⟩;by_cases hs:r=s
 ·subst hs;rw[hA]at hB;cases hB;exact⟨A',j0 hA,h.1,h.2.1,h.2.2⟩
 ·exact⟨B,by grind [dM],rfl,rfl,λls h=>⟨ls,h⟩⟩
def aBh{r s:Nat}(hs:s≠r)(V:Nat->Value):n9 L V (jT L r none) V s :=
 n9.of_same rfl (dM (kQ hs))
structure Qa (n:Nat) (K:fG) (w0:World) (G:Nat->Prop) (w:World) (a:Act) (E:gH) (L:bM) (V:Nat->Value) (own:Nat->Γ Nat) (pend:Γ Nat) (rest:Nat->Prop):Prop where
 glob:Ym K.w0 K.O
 kept:dD K.O K.w0 w
 size:a.tmps.size=n
 defers:a.defers=[]
 glt:∀b,G b->b<w.heap.size
 gref:∀b,G b->w.heap[b]? = w0.heap[b]?
 gsub:∀b,K.G0 b->G b
 gold:∀b,K.G0 b->Good K.w0 K.O b
 gup:∀b,G b->K.Ga b\/¬Good K.w0 K.O b
 heap:∀r A,bZ L r=some A->r ∉ pend->iI w0 G w A (V r) (own r)
 good:∀r A,bZ L r=some A->r ∉ pend->∀b∈own r,Out K G b
 nodup:∀r A,bZ L r=some A->r ∉ pend->(own r).Nodup
 apart:∀r s A B,bZ L r=some A->bZ L s=some B->r ∉ pend->s ∉ pend->r≠s->∀b∈own r,b ∉ own s
 boxs:∀r A ls,bZ L r=some A->r ∉ pend->A.ls=some ls->Dk w0 G w L V A.t ls (V r)
 small:∀r A q,bZ L r=some A->r ∉ pend->A.sm=some q->(∃b off,V r = .slice (some ⟨b,off,none⟩) 1 1)/\(q=true->A.bor=true/\iI w0 K.G0 w A (V r) (own r))
 env:∀i,mK w0 G L V (E.get i) (a.tmps.getD i undef)
 live:∀r∈pend,∃A,bZ L r=some A
 rest:∀r A,bZ L r=some A->r ∉ pend->∀b∈own r,¬rest b
variable {rest:Nat->Prop}
theorem Qa.done(h:Qa n K w0 G w a E L V own [] rest):bQ n K w0 G w a E L V own :=
 ⟨h.glob,h.kept,h.size,h.defers,h.glt,h.gref,h.gsub,h.gold,h.gup,λr A hA=>h.heap r A hA (by simp),λr A hA=>h.good r A hA (by simp),λr A hA=>h.nodup r A hA (by simp),λr s A B h1 h2=>h.apart r s A B h1 h2 (by simp) (by simp),λr A ls hA=>h.boxs r A ls hA (by simp),λr A q hA=>h.small r A q hA (by simp),h.env⟩
theorem mG{r s:Nat}{rs:Γ Nat}(h1:s≠r)(h2:s ∉ rs):s ∉ r::rs:=λhm=>by
 grind
theorem Qa.drop{pend:Γ Nat}(hp:Qa n K w0 G w a E L V own (r::pend) rest)(hr:r ∉ pend):Qa n K w0 G w a (O1 r E) (y5 r (jT L r none)) V own pend rest:=by
 obtain⟨A0,hA0⟩:=hp.live r (aR ..);have hback:∀s A,bZ (y5 r (jT L r none)) s=some A->s≠r/\∃B,bZ L s=some B/\A=pQ r B:=by
  intro s A hs;rw[oS]at hs;by_cases hsr:s=r
  ·grind [j0]
  ·rw[dM (kQ hsr)]at hs;cases hB:bZ L s with
   | none=>grind
   | some B=>grind
 have hag:∀s,s≠r->n9 L V (y5 r (jT L r none)) V s:=λs hs=>(aBh hs V).trans (uf r _ V s);refine⟨hp.glob,hp.kept,hp.size,hp.defers,hp.glt,hp.gref,hp.gsub,hp.gold,hp.gup,?_,?_,?_,?_,?_,?_,λi=>?_,?_,?_⟩
 ·intro s A hs hm;obtain⟨h1,B,h2,rfl⟩:=hback s A hs;exact Ke.2 (hp.heap s B h2 (mG h1 hm))
 ·intro s A hs hm;obtain⟨h1,B,h2,rfl⟩:=hback s A hs;exact hp.good s B h2 (mG h1 hm)
 ·intro s A hs hm;obtain⟨h1,B,h2,rfl⟩:=hback s A hs;exact hp.nodup s B h2 (mG h1 hm)
 ·intro s t A B hs ht hm hm' hst;obtain⟨h1,C,h2,rfl⟩:=hback s A hs;obtain⟨h3,D,h4,rfl⟩:=hback t B ht;exact hp.apart s t C D h2 h4 (mG h1 hm) (mG h3 hm') hst
 ·intro s A ls hs hm hls;obtain⟨h1,B,h2,rfl⟩:=hback s A hs;obtain⟨l0,h0,rfl⟩:=IU.2 ls hls;rw[O2];refine((hp.boxs s B l0 h2 (mG h1 hm) h0).kill r).agree λu hu=>hag u λe=>?_
  grind [IV]
 ·intro s A q hs hm hq;obtain⟨h1,B,h2,rfl⟩:=hback s A hs;rw[ue]at hq;obtain⟨g1,g2⟩:=hp.small s B q h2 (mG h1 hm) hq
  grind [Zq,Ke]
 ·rw[Q6];exact sU (Zn r (hp.env i)) λs hs=>hag s λe=>Un.1 (e ▸ hs)
 ·intro s hs;obtain⟨A,hA⟩:=hp.live s (aM _ hs);have:s≠r:=λe=>hr (e ▸ hs);exact⟨pQ r A,by rw[oS,dM (kQ this),hA];rfl⟩
 ·intro s A hs hm;obtain⟨h1,B,h2,rfl⟩:=hback s A hs;exact hp.rest s B h2 (mG h1 hm)
theorem Qa.set{pend b:Γ Nat}{A':iE}(hp:Qa n K w0 G w a E L V own (r::pend) (λc=>c∈b\/rest c))(hr:r ∉ pend)(hsh:∀A,bZ L r=some A->Zs A A')(hE:iI w0 G w A' (V r) b)
  (hbox:∀ls,A'.ls=some ls->Dk w0 G w L V A'.t ls (V r)) (hsm:∀q,A'.sm=some q->(∃b off,V r = .slice (some ⟨b,off,none⟩) 1 1)/\(q=true->A'.bor=true/\iI w0 K.G0 w A' (V r) b)) (hn:b.Nodup) (hnr:∀c∈b,¬rest c) (hg:∀c∈b,Out K G c) :
  Qa n K w0 G w a E (jT L r (some A')) V (FA own r b) pend rest:=by
 obtain⟨A0,hA0⟩:=hp.live r (aR ..);have hag:∀s,n9 L V (jT L r (some A')) V s:=Q9 hA0 (hsh A0 hA0) V;have hsplit:∀s B,bZ (jT L r (some A')) s=some B->(s≠r/\bZ L s=some B)\/(s=r/\B=A'):=by
  intro s B hs;by_cases hsr:s=r
  ·subst hsr;rw[j0 hA0]at hs;lia
  ·exact .inl ⟨hsr,by rwa [dM (kQ hsr)]at hs⟩
 have hold:∀s B,bZ L s=some B->s≠r->s ∉ pend->∀c∈own s,c ∉ b/\¬rest c:=by
  intro s B hs h1 h2 c hc;have:=hp.rest s B hs (mG h1 h2) c hc
  lia
 refine⟨hp.glob,hp.kept,hp.size,hp.defers,hp.glt,hp.gref,hp.gsub,hp.gold,hp.gup,?_,?_,?_,?_,?_,?_,λi=>sU (hp.env i) λs _=>hag s,?_,?_⟩
 ·intro s B hs hm;rcases hsplit s B hs with ⟨h1,h2⟩ | ⟨rfl,rfl⟩
  ·rw[dF _ _ h1];exact hp.heap s B h2 (mG h1 hm)
  grind [eX]
 ·intro s B hs hm;rcases hsplit s B hs with ⟨h1,h2⟩ | ⟨rfl,rfl⟩
  ·rw[dF _ _ h1];exact hp.good s B h2 (mG h1 hm)
  grind [eX]
 ·intro s B hs hm;rcases hsplit s B hs with ⟨h1,h2⟩ | ⟨rfl,rfl⟩
  ·rw[dF _ _ h1];exact hp.nodup s B h2 (mG h1 hm)
  grind [eX]
 ·intro s t B C hs ht hm hm' hst;rcases hsplit s B hs with ⟨h1,h2⟩ | ⟨rfl,rfl⟩
  ·rcases hsplit t C ht with ⟨h3,h4⟩ | ⟨rfl,rfl⟩
   ·rw[dF _ _ h1,dF _ _ h3];exact hp.apart s t B C h2 h4 (mG h1 hm) (mG h3 hm') hst
   grind [dF,eX]
  ·rcases hsplit t C ht with ⟨h3,h4⟩ | ⟨rfl,rfl⟩
   ·grind [dF,eX]
   lia
 ·intro s B ls hs hm hls;rcases hsplit s B hs with ⟨h1,h2⟩ | ⟨rfl,rfl⟩
  ·exact(hp.boxs s B ls h2 (mG h1 hm) hls).agree λu _=>hag u
  ·exact(hbox ls hls).agree λu _=>hag u
 ·intro s B q hs hm hq;rcases hsplit s B hs with ⟨h1,h2⟩ | ⟨rfl,rfl⟩
  ·rw[dF _ _ h1];exact hp.small s B q h2 (mG h1 hm) hq
  grind [eX]
 ·intro s hs;obtain⟨B,hB⟩:=hp.live s (aM _ hs);have:s≠r:=λe=>hr (e ▸ hs);exact⟨B,by rw[dM (kQ this)];lia⟩
 ·all_goals grind [dF,eX]
def zQ(K:fG)(w0:World)(G:Nat->Prop)(w:World)(V:Nat->Value):FB->Γ (Γ Nat)->Prop
 | [],bss=>bss=[]
 | (r,none)::s,bss=>zQ K w0 G w V s bss
 | (r,some A')::s,bss=>∃b t,bss=b::t/\iI w0 G w A' (V r) b/\(∀ls,A'.ls=some ls->jC ls=[]/\Dk w0 G w [] V A'.t ls (V r)) /\
   (∀q,A'.sm=some q->(∃b off,V r = .slice (some ⟨b,off,none⟩) 1 1)/\(q=true->A'.bor=true/\iI w0 K.G0 w A' (V r) b))/\zQ K w0 G w V s t
theorem zQ.append{as bs:FB}:∀ {xs ys:Γ (Γ Nat)},zQ K w0 G w V as xs->zQ K w0 G w V bs ys->zQ K w0 G w V (as++bs) (xs++ys):=by
 induction as with
 | nil=>intro xs ys h1 h2;cases h1;grind
 | cons p s ih =>
  intro xs ys h1 h2;obtain⟨r,o⟩:=p;cases o with
  | none=>exact ih (xs:=xs) h1 h2
  | some A' =>
   obtain⟨b,t,rfl,h3,h4,h5,h6⟩:=h1;exact⟨b,t++ys,rfl,h3,h4,h5,ih h6 h2⟩
theorem MF:∀ {us:Γ Nat},zQ K w0 G w V (Kf us) []
 | []=>rfl
 | r::s=>MF (us:=s)
theorem IW:∀(us:Γ Nat),(Kf us).map eE=us
 | []=>rfl
 | r::s=>by simp only[Kf,dY,List.cons.injEq,true_and];exact IW s
def Qb(L:bM)(acts:FB):Prop:=∀p∈acts,∀A',p.2=some A'->∀A,bZ L p.1=some A->Zs A A'
theorem Qa.mono{pend:Γ Nat}{R R':Nat->Prop}(h:Qa n K w0 G w a E L V own pend R)(hR:∀c,R' c->R c):Qa n K w0 G w a E L V own pend R' :=
 { h with rest:=λr A hA hr c hc hm=>h.rest r A hA hr c hc (hR c hm) }
theorem Qc:∀ {acts:FB} {E:gH} {L:bM} {own:Nat->Γ Nat} {bss:Γ (Γ Nat)} {rest:Nat->Prop},
  Qa n K w0 G w a E L V own (acts.map eE) (λc=>c∈bss.flatten\/rest c)->(acts.map eE).Nodup->zQ K w0 G w V acts bss->Qb L acts->bss.flatten.Nodup->(∀c∈bss.flatten,¬rest c)->(∀b∈bss.flatten,Out K G b) ->
  ∃own',bQ n K w0 G w a (y6 acts (E,L)).1 (y6 acts (E,L)).2 V own'/\(∀r A,bZ (y6 acts (E,L)).2 r=some A->∀b∈own' r,¬rest b)
 | [],E,L,own,bss,rest,hp,_,hok,_,_,_,_=>by
  exact⟨own,hp.done,λr A hA b hb hm=>hp.rest r A hA (by simp) b hb (.inr hm)⟩
 | (r,none)::acts,E,L,own,bss,rest,hp,hnd,hok,hsh,hn,hnr,hg=>by
  obtain⟨hr,hnd'⟩:=jH.1 hnd;refine Qc (acts:=acts) (hp.drop hr) hnd' hok ?_ hn hnr hg;rintro⟨p1,p2⟩ hp' A' hA' A hA;rw[oS]at hA;have hpr:p1≠r:=λe=>hr (cW.2 ⟨_,hp',e⟩);rw[dM (kQ hpr)]at hA;cases hB:bZ L p1 with
  | none=>grind
  | some B =>
   rw[hB]at hA;cases hA;exact aBg (hsh (p1,p2) (aM _ hp') A' hA' B hB)
 | (r,some A')::acts,E,L,own,bss,rest,hp,hnd,hok,hsh,hn,hnr,hg=>by
  obtain⟨hr,hnd'⟩:=jH.1 hnd;obtain⟨b,t,rfl,hE,hbox,hsm,hok'⟩:=hok;simp only[gR]at hp hn hnr hg;rw[lR]at hn;have hp':=(hp.mono (R':=λc=>c∈b\/(c∈t.flatten\/rest c)) (λc hc=>by
   grind)).set hr (hsh _ (aR ..) A' rfl) hE (λls hls=>(hbox ls hls).2.agree λu hu=>by grind) hsm hn.1 (λc hc hm=>hm.elim (λhm=>hn.2.2 c hc c hm rfl) (hnr c (dE _ hc))) (λc hc=>hg c (dE _ hc))
  refine Qc (acts:=acts) hp' hnd' hok' ?_ hn.2.1 (λc hc=>hnr c (dJ _ hc)) (λc hc=>hg c (dJ _ hc));rintro⟨p1,p2⟩ hp2 B' hB' B hB;have hpr:p1≠r:=λe=>hr (cW.2 ⟨_,hp2,e⟩);rw[dM (kQ hpr)]at hB;exact hsh (p1,p2) (aM _ hp2) B' hB' B hB
theorem bQ.setLs(hR:bQ n K w0 G w a E L V own){A:iE}{l0 ls:Γ gB}(hA:bZ L r=some A)(h0:A.ls=some l0)(hb:Dk w0 G w L V A.t ls (V r)):bQ n K w0 G w a E (jT L r (some ⟨A.t,A.xs,A.bor,some ls,A.sm⟩)) V own:=by
 have hag:∀s,n9 L V (jT L r (some ⟨A.t,A.xs,A.bor,some ls,A.sm⟩)) V s:=Q9 (A':=⟨A.t,A.xs,A.bor,some ls,A.sm⟩) hA ⟨rfl,rfl,λ_ _=>⟨ls,rfl⟩⟩ V;have hsplit:∀s B,bZ (jT L r (some ⟨A.t,A.xs,A.bor,some ls,A.sm⟩)) s=some B->(s≠r/\bZ L s=some B)\/(s=r/\B=⟨A.t,A.xs,A.bor,some ls,A.sm⟩):=by
  intro s B hs;by_cases hsr:s=r
  ·subst hsr;rw[j0 hA]at hs;lia
  ·exact .inl ⟨hsr,by rwa [dM (kQ hsr)]at hs⟩
 have hlive:∀s B,bZ (jT L r (some ⟨A.t,A.xs,A.bor,some ls,A.sm⟩)) s=some B->∃C,bZ L s=some C:=λs B hs=>by
  grind
 refine⟨hR.glob,hR.kept,hR.size,hR.defers,hR.glt,hR.gref,hR.gsub,hR.gold,hR.gup,?_,?_,?_,?_,?_,?_,λi=>sU (hR.env i) λs _=>hag s⟩
 ·intro s B hs;rcases hsplit s B hs with ⟨_,h⟩ | ⟨rfl,rfl⟩
  ·exact hR.heap s B h
  ·exact hR.heap s A hA
 ·intro s B hs;obtain⟨C,hC⟩:=hlive s B hs;exact hR.good s C hC
 ·intro s B hs;obtain⟨C,hC⟩:=hlive s B hs;exact hR.nodup s C hC
 ·intro s t B D hs ht hst;obtain⟨C,hC⟩:=hlive s B hs;obtain⟨F,hF⟩:=hlive t D ht;exact hR.apart s t C F hC hF hst
 ·intro s B l hs hl;rcases hsplit s B hs with ⟨_,h⟩ | ⟨rfl,rfl⟩
  ·exact(hR.boxs s B l h hl).agree λu _=>hag u
  ·cases hl;exact hb.agree λu _=>hag u
 ·intro s B q hs hq;rcases hsplit s B hs with ⟨_,h⟩ | ⟨rfl,rfl⟩
  ·exact hR.small s B q h hq
  ·exact hR.small s A q hA hq
def Ut(w:World)(V:Nat->Value):Γ (Nat×aS)->Γ (Γ Nat)->Prop
 | [],bss=>bss=[]
 | (r,d)::s,bss=>∃b t blk off cs,bss=b::t/\V r = .slice (some ⟨blk,off,none⟩) 0 1/\kZ w blk off cs/\iH w d.t d.x cs b/\Ut w V s t
theorem Ut.append:∀ {as bs:Γ (Nat×aS)} {xs ys:Γ (Γ Nat)},Ut w V as xs->Ut w V bs ys->Ut w V (as++bs) (xs++ys)
 | [],_,_,_,h1,h2=>by cases h1;grind
 | (r,d)::as,bs,_,ys,⟨b,t,blk,off,cs,h1,h3,h4,h5,h6⟩,h2=>by
  subst h1;exact⟨b,t++ys,blk,off,cs,rfl,h3,h4,h5,h6.append h2⟩
def aZO(L:bM)(ex:Γ (Nat×aS)):Prop:=∀p∈ex,∃ls,bZ L p.1=some ⟨p.2.t,[],false,some ls,none⟩
theorem uh:∀ {ex:Γ (Nat×aS)} {L:bM} {V:Nat->Value} {own:Nat->Γ Nat} {bss:Γ (Γ Nat)} {rest:Nat->Prop},bQ n K w0 G w a E L V own->Ut w V ex bss->aZO L ex->(ex.map eE).Nodup ->
  bss.flatten.Nodup->(∀c∈bss.flatten,¬rest c)->(∀b∈bss.flatten,Out K G b)->(∀r A,bZ L r=some A->∀b∈own r,b ∉ bss.flatten/\¬rest b) ->
  ∃V' own',bQ n K w0 G w a E (fg ex L) V' own'/\(∀r A,bZ (fg ex L) r=some A->∀b∈own' r,¬rest b)
 | [],L,V,own,bss,rest,hR,hok,_,_,_,_,_,hd=>by
  exact⟨V,own,hR,λr A hA b hb=>(hd r A hA b hb).2⟩
 | (r,d)::ex,L,V,own,bss,rest,hR,hok,hin,hnd,hn,hnr,hg,hd=>by
  obtain⟨b,t,blk,off,cs,rfl,hv,hc,ho,hok'⟩:=hok;obtain⟨l0,hA⟩:=hin _ (aR ..);obtain⟨hr,hnd'⟩:=jH.1 hnd;have hn':=lR.1 hn;obtain⟨V1,own1,r1,g1,l1,n1⟩:=Bu hR ho hn'.1 (λc hc=>hg c (dE _ hc)) (λs A hs c hc hm=>(hd s A hs c hc).1 (dE _ hm));have hA':bZ (L++(sP L.length d.t d.x).2) r=some ⟨d.t,[],false,some l0,none⟩:=by
   rw[nC,π (xL hA)];lia
  have hVr:V1 r=V r:=(g1.same r (xL hA)).1;have jT:=r1.setLs (ls:=(sP L.length d.t d.x).1) hA' rfl ⟨blk,off,cs,by lia,ho.length,n1,hc,l1⟩;have hap:∀s A,bZ (L++(sP L.length d.t d.x).2) s=some A->∀c∈own1 s,c ∉ t.flatten/\¬rest c:=by
   intro s A hs c hc;rw[nC]at hs;split at hs
   ·rename_i hlt;rw[(g1.same s hlt).2]at hc
    grind
   ·have hlt:=xL hs;have hcb:=g1.new s (by lia) (by lia) c hc
    grind
  have hV1:∀s A,bZ L s=some A->V1 s=V s:=λs A hs=>(g1.same s (xL hs)).1;have hokV:∀ {ex:Γ (Nat×aS)} {bss:Γ (Γ Nat)},(∀p∈ex,V1 p.1=V p.1)->Ut w V ex bss->Ut w V1 ex bss:=by
   intro ex
   induction ex with
   | nil=>intro bss _ h;exact h
   | cons p s ih =>
    intro bss hh h;obtain⟨b',t',blk',off',cs',e1,e2,e3,e4,e5⟩:=h;exact⟨b',t',blk',off',cs',e1,by simp_all,e3,e4,ih (λp hp=>hh p (aM _ hp)) e5⟩
  refine uh (ex:=ex) jT (hokV (λp hp=>?_) hok') ?_ hnd' hn'.2.1 (λc hc=>hnr c (dJ _ hc)) (λc hc=>hg c (dJ _ hc)) ?_
  ·obtain⟨ls,h⟩:=hin p (aM _ hp)
   grind
  ·rintro⟨p1,p2⟩ hp;obtain⟨ls,h⟩:=hin (p1,p2) (aM _ hp);have hpr:p1≠r:=λe=>hr (cW.2 ⟨_,hp,e⟩);exact⟨ls,by rw[dM (kQ hpr),nC,π (xL h)];lia⟩
  ·intro s A hs;by_cases hsr:s=r
   ·grind
   ·rw[dM (kQ hsr)]at hs
    grind
theorem aD4{t:Ty}{A:jD}{x:t.den}(h:aMA t A=some x){y:t.den}(hy:A=⟨t,[y]⟩):x=y:=by
 subst hy;unfold aMA at h;rw[dif_pos rfl]at h;have:=aM7 h;cases this;rfl
variable {us:Γ Nat}
theorem aMB{e:Ty}{y:Γ e.den}(h:slW L e (.osl r none)=some (y,us)):us=[r]:=by
 have h:(match bZ L r with
  | some A=>match A.bor with
   | true=>none
   | false=>if h:A.t=e then some (qE h A.xs,[r])else none
  | none=>none)=some (y,us):=h
 lia
theorem IX{w':World}(hR:bQ n K w0 G w a E L V own):∀ {t:Ty} {ls:Γ gB} {x:t.den} {cs:Γ Value} {bs:Γ Nat} {cd:Γ Prop} {acts:FB} {y:t.den} {us:Γ Nat},Q8 L t ls x=some (cd,acts)->sS L t ls=some (y,us)->gZ cd->iG w0 G L V ls cs->iH w' t x cs bs ->
  ∃bss,zQ K w0 G w' V acts bss/\bss.flatten=bs/\Qb L acts/\acts.map eE=us
 | .int k,ls,x,cs,bs,cd,acts,y,us,h,ho,_,hr,hx=>by
  cases h;simp only[sS]at ho;split at ho
  ·cases ho;exact⟨[],rfl,by rw[hx.2.2];rfl,(λp hp=>by cases hp),rfl⟩
  ·cases ho
 | .bool,ls,x,cs,bs,cd,acts,y,us,h,ho,_,hr,hx=>by
  cases h;simp only[sS]at ho;split at ho
  ·cases ho;exact⟨[],rfl,by rw[hx.2];rfl,(λp hp=>by cases hp),rfl⟩
  ·cases ho
 | .fn,ls,x,cs,bs,cd,acts,y,us,h,ho,_,hr,hx=>by
  cases h;simp only[sS]at ho;split at ho
  ·cases ho;exact⟨[],rfl,by rw[hx.2];rfl,(λp hp=>by cases hp),rfl⟩
  ·cases ho
 | .str,ls,x,cs,bs,cd,acts,y,us,h,ho,_,hr,hx=>by
  cases h;simp only[sS]at ho;split at ho
  ·cases ho;exact⟨[],rfl,by rw[hx.2.2];rfl,(λp hp=>by cases hp),rfl⟩
  ·cases ho
 | .unit,ls,x,cs,bs,cd,acts,y,us,h,ho,_,hr,hx=>by
  cases h;simp only[sS]at ho;split at ho
  ·cases ho;exact⟨[],rfl,by rw[hx.2];rfl,(λp hp=>by cases hp),rfl⟩
  ·cases ho
 | .sl e,ls,x,cs,bs,cd,acts,y,us,h,ho,hc,hr,hx=>by
  simp only[Q8]at h;split at h
  ·rename_i r;split at h
   ·rename_i A hA;split at h
    ·rename_i hte hls;have hte:=of_decide_eq_true hte;cases h;have hus:us=[r]:=aMB (e:=e) ho;subst hus;obtain⟨hlen,_⟩:=hc;obtain⟨v,s,rfl,⟨B,hB,hve,_⟩,h2⟩:=hr;cases h2;obtain rfl:=hve rfl;refine⟨[bs],⟨bs,[],rfl,iI.own.2 hx,(λl h=>by cases h),(λq h=>by cases h),rfl⟩,by simp,λp hp A' hA' A2 hA2=>?_,rfl⟩;rw[dG]at hp;subst hp;cases hA';rw[hA]at hA2;cases hA2;exact⟨hte.symm,hlen,λl hl=>by rw[hls]at hl;cases hl⟩
    ·cases h
   ·cases h
  ·cases h;simp only[sS,slW]at ho;cases ho;obtain⟨v,s,rfl,⟨rfl,⟨h3,h4⟩,_⟩,h2⟩:=hr;cases h2;obtain⟨v',hv',hx⟩:=hx;cases hv';rcases hx.2 with ⟨_,_,_,hb⟩ | ⟨b,off,cap,cur,ty,fz,bss,h1,_⟩
   ·exact⟨[],rfl,by rw[hb];rfl,(λp hp=>by cases hp),rfl⟩
   ·cases h1
  ·cases h
 | .cons p q,ls,x,cs,bs,cd,acts,y,us,h,ho,hc,hr,hx=>by
  simp only[Q8]at h;split at h
  ·rename_i c1 a1 c2 a2 h1 h2;cases h;simp only[sS]at ho;split at ho
   ·rename_i y1 us1 y2 us2 ho1 ho2;cases ho;obtain⟨hc1,hc2⟩:=gZ.append.1 hc;obtain⟨d1,d2,b1,b2,hcs,rfl,hx1,hx2⟩:=hx;have e1:cs.take p.size=d1:=by rw[hcs, <- hx1.length,Hi];rfl
    have e2:cs.drop p.size=d2:=by rw[hcs, <- hx1.length,Hj];rfl
    have r1:=qO p.size hr;have r2:=qN p.size hr;rw[e1]at r1;rw[e2]at r2;obtain⟨s1,k1,k2,k3,k4⟩:=IX hR h1 ho1 hc1 r1 hx1;obtain⟨s2,m1,m2,m3,m4⟩:=IX hR h2 ho2 hc2 r2 hx2;refine⟨s1++s2,k1.append m1,by rw[pK,k2,m2],λz hz=>?_,by rw[List.map_append,k4,m4]⟩;rcases dC.1 hz with hz | hz
    ·exact k3 z hz
    ·exact m3 z hz
   ·cases ho
  ·cases h
theorem fI.one{w:World}{G:Nat->Prop}:∀ {t:Ty} {x:t.den} {cs:Γ Value},fI w G t x cs->∀c∈cs,c.oneCell'=true
 | .int _,_,_,h,c,hc=>by rw[h.1]at hc;simp at hc;subst hc;rfl
 | .bool,_,_,h,c,hc=>by rw[h]at hc;simp at hc;subst hc;rfl
 | .fn,x,_,h,c,hc=>by rw[h]at hc;grind [Tw]
 | .str,_,_,h,c,hc=>by rw[h.1]at hc;simp at hc;subst hc;rfl
 | .sl _,_,_,⟨v,h,h2⟩,c,hc=>by
  rw[h]at hc;simp at hc;subst hc;rcases h2.2 with ⟨_,rfl,_⟩ | ⟨b,off,cap,rfl,_⟩ <;> rfl
 | .unit,_,_,h,c,hc=>by rw[h]at hc;grind
 | .cons _ _,_,_,⟨c1,c2,h,h1,h2⟩,c,hc=>by
  rw[h]at hc;rcases dC.1 hc with hc | hc
  ·exact h1.one c hc
  ·exact h2.one c hc
theorem iH.one{w:World}:∀ {t:Ty} {x:t.den} {cs:Γ Value} {bs:Γ Nat},iH w t x cs bs->∀c∈cs,c.oneCell'=true:=λ{t x cs bs} h =>
 (h.read (G:=λ_=>True) (λ_ _=>trivial)).one
theorem Zt(w:World):∀ {cs:Γ Value} {k:Nat},(∀c∈cs,c.oneCell'=true)->cs.length=k->iG w0 G [] V (aP k .junk) cs
 | [],k,_,h=>by subst h;rfl
 | c::cs,k,hc,h=>by
  subst h;exact⟨c,cs,rfl,hc c (aR ..),Zt w (λd hd=>hc d (aM _ hd)) rfl⟩
theorem Uu:∀k:Nat,jC (aP k .junk)=[]
 | 0=>rfl
 | k+1=>by simp[BZ,jC,MD,Uu]
theorem Uv:Qb L (Kf us):=by
 intro p hp A' hA';obtain⟨r,_,rfl⟩:=cW.1 hp
 lia
def aZP(w:World)(G0:Nat->Prop)(o:AT)(v:Value)(b:Γ Nat):Option jD->Prop
 | none=>b=[]
 | some A=>aAV w G0 o A v b
theorem fh{w':World}{Gq:Nat->Prop}{q:Bool}(hR:bQ n K w0 G w a E L V own)(hGq:∀b,Gq b->G b)(hGs:q=true->∀b,Gq b->K.G0 b)(href:∀b,G b->w'.heap[b]? = w0.heap[b]?){o:AT}{p:PV}{x:o.den}{u:Option jD}{v:Value}{bs:Γ Nat}{cd:Γ Prop}{acts:FB}{ex:Γ (Nat×aS)}(how:O6 o=true)(hp:mK w0 G L V p v)(hd:Ax L o p=some (x,us,[]))
  (h:ff L q o p us u=some (cd,acts,ex)) (hc:gZ cd) (hu:aZP w' Gq o v bs u) :
  ∃bss exs,zQ K w0 G w' V acts bss/\Ut w' V ex exs/\(bss.flatten++exs.flatten).Perm bs/\Qb L acts/\acts.map eE=us/\(∀r∈ex.map eE,r∈us)/\(ex.map eE).Nodup/\(∀z∈ex,∃ls,(z.1,some ⟨z.2.t,[],false,some ls,none⟩)∈acts):=by
 cases u with
 | none =>
  cases h;have hu:bs=[]:=hu;subst hu;exact⟨[],[],MF,rfl,.refl _,Uv,IW us,(λr hr=>by grind),kE,λz hz=>by grind⟩
 | some A' =>
  simp only[ff]at h;cases o with
  | v t=>cases how
  | p t=>cases how
  | fn f c=>cases how
  | own t =>
   simp only[O5]at h;split at h
   ·rename_i cs as hpl;cases h;unfold aD3 at hpl;split at hpl
    ·rename_i r;split at hpl
     ·rename_i A hA;split at hpl
      ·rename_i hte hls;have hte:=of_decide_eq_true hte;cases hpl;obtain⟨hlen,_⟩:=hc;have hv:v=V r:=by
        cases p with
        | a B =>
         cases B with
         | osl s rg =>
          cases rg with
          | none =>
           simp only[Ax]at hd;split at hd
           ·split at hd
            ·lia
            ·split at hd
             ·obtain⟨_,_,hve,_⟩:=hp
              lia
             lia
           lia
          | some _=>cases hd
         | _=>cases hd
        | tup _=>cases hd
        | fn _ _=>cases hd
       rw[hv]at hu;refine⟨[bs],[],⟨bs,[],rfl,iI.own.2 hu,(λl h=>by lia),(λq h=>by lia),rfl⟩,rfl,by simp,λz hz B' hB' B2 hB2=>?_,rfl,(λr hr=>by grind),kE,λz hz=>by grind⟩;rw[dG]at hz;subst hz;cases hB';rw[hA]at hB2;cases hB2;exact⟨hte,hlen,λl hl=>by lia⟩
      lia
     lia
    lia
   lia
  | po t =>
   simp only[O5]at h;split at h
   ·rename_i as ex' hpl;cases h;unfold aIa at hpl;split at hpl
    ·rename_i r vs x' hx';cases hpl;obtain⟨y,hA',hat⟩:=hu;have hxy:=aD4 hx' hA';subst hxy;cases p with
     | a B =>
      simp only[Ax]at hd;split at hd
      ·rename_i x1 us1 hpo;cases hd;obtain⟨_,_,r',B',vs',b,off,ls,e1,e2,e3,e4,e5,e6,e7,e8⟩:=Kc hR (dD.refl _ _) hp hpo;cases e1;obtain⟨b',off',e9,hO⟩:=hat;rw[e8]at e9;cases e9;rcases hO.2 with ⟨_,h1,_,_⟩ | ⟨b2,off2,cap,cur,ty,fz,bss,h1,h2,h3,h4,h5,h6,h7,h8,h9⟩
       ·lia
       ·simp only[kF,gQ,vH]at h1;obtain⟨⟨q1,q2,_⟩,_,q3⟩:=h1;subst q1 q2 q3;obtain⟨bi,rfl⟩:∃bi,bss=[bi]:=by
         match bss,h7 with
         | [bi],_=>lia
        obtain⟨cs,g1,g2,g3⟩:=h9 0 x' bi rfl rfl;have hcells:kZ w' b off cs:=λj c hj=>by
         grind [iK]
        have hE1:iI w0 G w' ⟨t,[],false,some (aD2 t),none⟩ (V r) [b]:=by
         refine⟨by simp,.inr ⟨b,off,1,cur,ty,fz,[],e7,aY _,h3,h4,h5,h6,rfl,rfl,λi y bi hy=>by simp⟩⟩
        refine⟨[[b]],[bi],⟨[b],[],rfl,hE1,λl hl=>?_,(λq h=>by lia),MF⟩,⟨bi,[],b,off,cs,rfl,e7,hcells,g3,rfl⟩,by grind,?_,?_,?_,?_,?_⟩
        ·cases hl;exact⟨Uu _,b,off,cs,e7,g1,by simp[aD2],hcells,Zt w' g3.one g1⟩
        ·intro z hz A2 hA2 A3 hA3;rcases bA.1 hz with rfl | hz
         ·cases hA2;rw[e3]at hA3;cases hA3;exact⟨e4.symm,by lia,λl hl=>⟨_,rfl⟩⟩
         ·exact Uv z hz A2 hA2 A3 hA3
        all_goals simp[dY,IW,aR,dG,aD2]
      lia
     | tup _=>cases hd
     | fn _ _=>cases hd
    lia
   lia
  | sv t =>
   simp only[O5]at h;split at h
   ·rename_i cs1 as hpl;cases h;unfold aIb at hpl;split at hpl
    ·rename_i t' ls x' hx';obtain⟨y,hA',hat⟩:=hu;have hxy:=aD4 hx' hA';subst hxy;simp only[Ax]at hd;split at hd
     ·rename_i x1 us1 hsv;cases hd;have hsv:(match decide (t'=t)with
       | true=>sS L t ls
       | false=>none)=some (x,us):=hsv
      ·split at hsv
       ·rename_i ht;obtain⟨cs,hvv,hl,hr⟩:=hp;obtain⟨cs',hv',ho⟩:=hat;have hcs:cs'=cs:=by
         rw[hvv]at hv';simp only[Value.agg.injEq]at hv';have:=congrArg Array.toList hv';simpa using this.symm
        subst hcs;obtain⟨bss,k1,k2,k3,k4⟩:=IX (w':=w') hR hpl hsv hc hr ho;exact⟨bss,[],k1,rfl,by rw[k2];simp,k3,k4,(λr hr=>by cases hr),kE,λz hz=>by cases hz⟩
       ·cases hsv
     ·cases hd
    ·cases hpl
   ·cases h
theorem aIc{o:AT}{p:PV}{x:o.den}{us vs:Γ Nat}(h:Ax L o p=some (x,us,vs)):(O6 o=false->us=[])/\(O6 o=true->vs=[]):=by
 cases o with
 | v t=>cases p with
  | a A=>simp only[Ax]at h;split at h <;> cases h;exact⟨λ_=>rfl,(λh=>by cases h)⟩
  | tup _=>cases h
  | fn _ _=>cases h
 | p t=>cases p with
  | a A=>simp[Ax]at h;split at h <;> cases h;exact⟨λ_=>rfl,(λh=>by cases h)⟩
  | tup _=>cases h
  | fn _ _=>cases h
 | fn f c=>cases p with
  | a A=>cases h
  | tup _=>cases h
  | fn _ _=>simp[Ax]at h;split at h <;> cases h;exact⟨λ_=>rfl,(λh=>by cases h)⟩
 | own t=>cases p with
  | a A =>
   refine⟨(λh=>by cases h),λ_=>?_⟩;cases A with
   | osl r rg=>cases rg with
    | none =>
     grind [Ax]
    | some _=>cases h
   | _=>cases h
  | tup _=>cases h
  | fn _ _=>cases h
 | po t=>cases p with
  | a A=>refine⟨(λh=>by cases h),λ_=>?_⟩;grind [Ax]
  | tup _=>cases h
  | fn _ _=>cases h
 | sv t=>cases p with
  | a A=>refine⟨(λh=>by cases h),λ_=>?_⟩;grind [Ax]
  | tup _=>cases h
  | fn _ _=>cases h
theorem Qd{w':World}{Gq:Nat->Prop}{q:Bool}(hR:bQ n K w0 G w a E L V own)(hGq:∀b,Gq b->G b)(hGs:q=true->∀b,Gq b->K.G0 b)(href:∀b,G b->w'.heap[b]? = w0.heap[b]?):∀ {sig:Γ AT} {ps:Γ PV} {vs:Γ Value} {x:eF sig} {os:Γ (Γ Nat)} {us:Γ Nat} {ups:Γ (Option jD)} {ubs:Γ (Γ Nat)} {cd:Γ Prop} {acts:FB} {ex:Γ (Nat×aS)},
  DR w0 G L V ps vs->xP L sig ps=some (x,os,us)->Fj L q sig ps os ups=some (cd,acts,ex)->gZ cd->T9 w' Gq (CA sig) ups (kO sig vs) ubs->os.flatten.Nodup ->
  ∃bss exs,zQ K w0 G w' V acts bss/\Ut w' V ex exs/\(bss.flatten++exs.flatten).Perm ubs.flatten/\Qb L acts/\acts.map eE=os.flatten/\(∀r∈ex.map eE,r∈os.flatten)/\(ex.map eE).Nodup/\(∀z∈ex,∃ls,(z.1,some ⟨z.2.t,[],false,some ls,none⟩)∈acts)
 | [],ps,vs,x,os,us,ups,ubs,cd,acts,ex,hp,hd,h,hc,hu,hn=>by
  cases ps with
  | cons p s=>cases hd
  | nil =>
   cases hd;cases ups with
   | cons u r=>cases h
   | nil =>
    cases h;have hub:ubs=[]:=hu.2;subst hub;exact⟨[],[],rfl,rfl,.refl _,(λz hz=>by grind),rfl,(λr hr=>by grind),kE,λz hz=>by grind⟩
 | o::sig,[],vs,x,os,us,ups,ubs,cd,acts,ex,hp,hd,h,hc,hu,hn=>by cases hd
 | o::sig,p::ps,vs,x,os,us,ups,ubs,cd,acts,ex,⟨v,vs',hvs,hp,hps⟩,hd,h,hc,hu,hn=>by
  subst hvs;simp[xP]at hd;split at hd
  ·rename_i z o1 u1 zs os' us' hd1 hd2;cases hd;obtain⟨n1,n2⟩:=aIc hd1;simp[Fj]at h;rw[gR,lR]at hn;split at h
   ·rename_i how;have ho1:=n1 how;subst ho1;have hu':T9 w' Gq (CA sig) ups (kO sig vs') ubs:=by cases o <;> first | exact hu | cases how
    have:=Qd (os:=os') hR hGq hGs href hps hd2 h hc hu' hn.2.1;simpa using this
   ·rename_i how;have ho1:=n2 how;subst ho1;split at h
    ·rename_i u ups';split at h
     ·rename_i c1 a1 e1 c2 a2 e2 hp1 hp2;cases h;obtain⟨hc1,hc2⟩:=gZ.append.1 hc;have hu':T9 w' Gq (o::CA sig) (u::ups') (v::kO sig vs') ubs:=by cases o <;> first | exact hu | cases how
      have hcomb:∀ {b:Γ Nat} {bs':Γ (Γ Nat)},ubs=b::bs'->T9 w' Gq (CA sig) ups' (kO sig vs') bs'->aZP w' Gq o v b u ->
        ∃bss exs,zQ K w0 G w' V (a1++a2) bss/\Ut w' V (e1++e2) exs/\(bss.flatten++exs.flatten).Perm ubs.flatten/\Qb L (a1++a2)/\(a1++a2).map eE=(o1::os').flatten/\(∀r∈(e1++e2).map eE,r∈(o1::os').flatten)/\((e1++e2).map eE).Nodup/\(∀z∈e1++e2,∃ls,(z.1,some ⟨z.2.t,[],false,some ls,none⟩)∈a1++a2):=by
       intro b bs' hub hu1 hu2;obtain⟨s1,x1,k1,k2,k3,k4,k5,k6,k7,k8⟩:=fh (w':=w') hR hGq hGs href how hp hd1 hp1 hc1 hu2;obtain⟨s2,x2,m1,m2,m3,m4,m5,m6,m7,m8⟩:=Qd hR hGq hGs href hps hd2 hp2 hc2 hu1 hn.2.1;refine⟨s1++s2,x1++x2,k1.append m1,k2.append m2,?_,λz hz=>?_,by grind,λr hr=>?_,?_,λz hz=>?_⟩
       ·grind
       ·rcases dC.1 hz with hz | hz
        ·exact k4 z hz
        ·exact m4 z hz
       all_goals grind
      cases u with
      | none =>
       obtain⟨v',s',bs',h1,h2,h3⟩:=hu';cases h1;exact hcomb h2 h3 rfl
      | some A =>
       obtain⟨v',s',b,bs',h1,h2,h3,h4⟩:=hu';cases h1;exact hcomb h2 h4 h3
     lia
    lia
  lia
theorem fi{r:Nat}{A':iE}:∀ {acts:FB} {E:gH} {L:bM},(acts.map eE).Nodup->(r,some A')∈acts->(∀p∈acts,∃A,bZ L p.1=some A)->(∀ls,A'.ls=some ls->jC ls=[])->bZ (y6 acts (E,L)).2 r=some A'
 | [],_,_,_,h,_,_=>by cases h
 | (s,o)::acts,E,L,hn,h,hl,hj=>by
  obtain⟨hs,hn'⟩:=jH.1 hn;have kill:∀k,pQ k A'=A':=by
   intro k;unfold pQ;split
   ·rename_i ls hls;have h0:=hj ls hls;have:ls.map (zO k)=ls:=by
     clear hls
     induction ls with
     | nil=>rfl
     | cons l r ih =>
      simp only[jC,List.append_eq_nil_iff]at h0;rw[dY,ih h0.2]
      congr 1
      cases l with
      | osl a b=>simp[MD]at h0
      | _=>rfl
    rw[this];obtain⟨_,_,_,_,_⟩:=A';simp only at hls;subst hls;rfl
   ·rfl
  have keep:∀ {acts:FB} {E:gH} {L:bM},r ∉ acts.map eE->bZ L r=some A'->bZ (y6 acts (E,L)).2 r=some A':=by
   intro acts
   induction acts with
   | nil=>intro E L _ h;exact h
   | cons p acts ih =>
    intro E L hm h;obtain⟨s,o⟩:=p;simp only[dY,bA,not_or]at hm;cases o with
    | none =>
     refine ih hm.2 ?_;show bZ (y5 s (jT L s none)) r=some A';rw[oS,dM (λe=>hm.1 e.symm),h];simp[kill]
    | some B =>
     refine ih hm.2 ?_;show bZ (jT L s (some B)) r=some A';rw[dM (λe=>hm.1 e.symm)];exact h
  have step:∀L',(∀p∈acts,bZ L' p.1=bZ L p.1\/∃A,bZ L' p.1=some A)->∀p∈acts,∃A,bZ L' p.1=some A:=λL' hh p hp=>by
   rcases hh p hp with h | h
   ·rw[h];exact hl p (aM _ hp)
   ·exact h
  rcases bA.1 h with h1 | h1
  ·cases h1;obtain⟨A,hA⟩:=hl _ (aR ..);show bZ (y6 acts (E,jT L r (some A'))).2 r=some A';exact keep hs (j0 hA)
  ·cases o with
   | none =>
    show bZ (y6 acts (O1 s E,y5 s (jT L s none))).2 r=some A';refine fi (acts:=acts) hn' h1 (step _ λp hp => .inr ?_) hj;have hps:p.1≠s:=λe=>hs (cW.2 ⟨_,hp,e⟩);obtain⟨A,hA⟩:=hl p (aM _ hp);exact⟨pQ s A,by
     show bZ (y5 s (jT L s none)) p.1=_;rw[oS,dM (kQ hps),hA];rfl⟩
   | some B =>
    show bZ (y6 acts (E,jT L s (some B))).2 r=some A';refine fi (acts:=acts) hn' h1 (step _ λp hp => .inl ?_) hj;have hps:p.1≠s:=λe=>hs (cW.2 ⟨_,hp,e⟩);exact dM (kQ hps)
theorem MG(hR:bQ n K w0 G w a E L V own){A:c7}{v:Value}(h:nE w0 G L V A v):∀r∈IP L A,∃B,bZ L r=some B:=by
 unfold IP;split
 ·rename_i r o t;obtain⟨B,ls,b,off,hB,hls,_⟩:=h;simp only[hB,hls];intro s hs;rcases bA.1 hs with rfl | hs
  ·grind
  ·exact(hR.boxs r B ls hB hls).live s hs
 grind [Kd]
theorem Fk(hR:bQ n K w0 G w a E L V own):∀ {caps:Γ (Bool×Ty)} {ats:Γ c7} {x:vL caps} {us:Γ Nat} {vs:Γ Value},B5 L caps ats=some (x,us)->uS w0 G L V ats vs->∀r∈us,∃A,bZ L r=some A
 | [],[],x,us,vs,h,_,r,hr=>by cases h;grind
 | (true,t)::c,A::s,x,us,vs,h,⟨v,q,_,h1,h2⟩,r,hr=>by
  simp[B5]at h;split at h
  ·rename_i y z us' hy hz;cases h;rcases dC.1 hr with hr | hr
   ·exact MG hR h1 r hr
   ·exact Fk hR hz h2 r hr
  ·cases h
 | (false,t)::c,A::s,x,us,vs,h,⟨v,q,_,h1,h2⟩,r,hr=>by
  simp only[B5]at h;split at h
  ·rename_i y z us' hy hz;cases h;exact Fk hR hz h2 r hr
  ·cases h
 | [],_::_,_,_,_,h,_,_,_=>by cases h
 | (true,_)::_,[],_,_,_,h,_,_,_=>by cases h
 | (false,_)::_,[],_,_,_,h,_,_,_=>by cases h
theorem aF8(hR:bQ n K w0 G w a E L V own){o:AT}{p:PV}{x:o.den}{us vs:Γ Nat}{v:Value}(hp:mK w0 G L V p v)(h:Ax L o p=some (x,us,vs)):(∀r∈vs,∃A,bZ L r=some A)/\∀r∈us,∃A,bZ L r=some A:=by
 cases o with
 | v t=>cases p with
  | a A=>simp only[Ax]at h;split at h <;> cases h;exact⟨MG hR hp,λr hr=>by grind⟩
  | tup _=>cases h
  | fn _ _=>cases h
 | p t=>cases p with
  | a A=>simp[Ax]at h;split at h <;> cases h;exact⟨MG hR hp,λr hr=>by grind⟩
  | tup _=>cases h
  | fn _ _=>cases h
 | fn f c=>cases p with
  | a A=>cases h
  | tup _=>cases h
  | fn _ _ =>
   simp[Ax]at h;split at h
   ·obtain⟨vs,hv,hr⟩:=hp
    grind [Fk]
   lia
 | own t=>cases p with
  | a A =>
   cases A with
   | osl r rg=>cases rg with
    | none =>
     grind [Ax]
    | some _=>cases h
   | _=>cases h
  | tup _=>cases h
  | fn _ _=>cases h
 | po t=>cases p with
  | a A =>
   simp[Ax]at h;split at h
   ·rename_i x1 us1 hpo;cases h;exact⟨(λr hr=>by grind),(Kc hR (dD.refl _ _) hp hpo).2.1⟩
   lia
  | tup _=>cases h
  | fn _ _=>cases h
 | sv t=>cases p with
  | a A =>
   simp[Ax]at h;split at h
   ·rename_i x1 us1 hsv;cases h;exact⟨(λr hr=>by grind),(Q5 hR (dD.refl _ _) hp hsv).2⟩
   lia
  | tup _=>cases h
  | fn _ _=>cases h
theorem xQ(hR:bQ n K w0 G w a E L V own):∀ {sig:Γ AT} {ps:Γ PV} {vs:Γ Value} {x:eF sig} {os:Γ (Γ Nat)} {us:Γ Nat},DR w0 G L V ps vs->xP L sig ps=some (x,os,us) ->
  (∀r∈us,∃A,bZ L r=some A)/\(∀r∈os.flatten,∃A,bZ L r=some A)
 | [],[],vs,x,os,us,hp,h=>by cases h;simp
 | t::q,y::s,vs,x,os,us,⟨v,vs',hvs,hpy,hps⟩,h=>by
  simp[xP]at h;split at h
  ·rename_i z o u zs os' us' h1 h2;cases h;obtain⟨i1,i2⟩:=xQ hR hps h2;obtain⟨k1,k2⟩:=aF8 hR hpy h1;refine⟨λr hr=>?_,λr hr=>?_⟩
   ·rcases dC.1 hr with hr | hr
    ·exact k1 r hr
    ·exact i1 r hr
   ·rcases dC.1 hr with hr | hr
    ·exact k2 r hr
    ·exact i2 r hr
  ·cases h
 | [],_::_,_,_,_,_,_,h=>by cases h
 | _::_,[],_,_,_,_,_,h=>by cases h
theorem vC(own:Nat->Γ Nat):∀os:Γ (Γ Nat),(BV own os).flatten=(os.flatten.map own).flatten
 | []=>rfl
 | o::os=>by
  have:=vC own os;simp[BV]at this ⊢;rw[this]
theorem Qe(hR:bQ n K w0 G w a E L V own):∀ {rs:Γ Nat},rs.Nodup->(∀r∈rs,∃A,bZ L r=some A)->(rs.map own).flatten.Nodup
 | [],_,_=>kE
 | r::rs,hn,hl=>by
  obtain⟨h1,h2⟩:=jH.1 hn;obtain⟨A,hA⟩:=hl r (aR ..);simp;rw[lR];refine⟨hR.nodup r A hA,Qe hR h2 (λs hs=>hl s (aM _ hs)),λb hb c hc e=>?_⟩;subst e;obtain⟨l,hl',hbl⟩:=kU.1 hc;obtain⟨s,hs,rfl⟩:=cW.1 hl';obtain⟨B,hB⟩:=hl s (aM _ hs);exact hR.apart r s A B hA hB (λe=>h1 (e ▸ hs)) b hb hbl
def Qf{G:Nat->Prop}:∀ {ats:Γ c7} {rs:Γ Value},uS w0 G L V ats rs->mK w0 G L V (ug ats) (II rs)
 | [],rs,h=>by subst h;exact⟨[],rfl,rfl⟩
 | [A],rs,⟨v,s,h,h1,h2⟩=>by subst h;cases h2;exact h1
 | A::B::ats,rs,h=>by
  obtain⟨v,s,hs,h1,h2⟩:=h;obtain⟨v',s',hs',h1',h2'⟩:=h2;subst hs hs';exact⟨_,rfl,_,_,rfl,h1,_,_,rfl,h1',h2'⟩
theorem Zu(hR:bQ n K w0 G w a E L V own){S:Spec}{ps:Γ PV}{vs:Γ Value}{x:eF S.sig}{os:Γ (Γ Nat)}{cd:Γ Prop}{acts:FB}{ex:Γ (Nat×aS)}{e:Ending}{w':World}
  (hps:DR w0 G L V ps vs) (hd:xP L S.sig ps=some (x,os,us)) (hnd:os.flatten.Nodup) (hko:fe S.kds=true\/us=[]) (hpl:Fj L (uX L S.sig ps) S.sig ps os (S.upd x)=some (cd,acts,ex)) (hc:gZ cd)
  (hpost:aHL w (BV own os).flatten (So G own us) (SmG K G (uX L S.sig ps)) S.kds (S.res x) (CA S.sig) (S.upd x) (kO S.sig vs) e w') :
  ∃v w0' G' V' own',e = .returned v/\dD (BV own os).flatten w w'/\bQ n K w0' G' w' a (y6 acts (E,L)).1 (fg ex (y6 acts (E,L)).2++(O4 (fg ex (y6 acts (E,L)).2).length S.kds (S.res x)).2) V' own' /\
   mK w0' G' (fg ex (y6 acts (E,L)).2++(O4 (fg ex (y6 acts (E,L)).2).length S.kds (S.res x)).2) V' (ug (O4 (fg ex (y6 acts (E,L)).2).length S.kds (S.res x)).1) v:=by
 obtain⟨rs,ubs,rbs,F,rfl,hk,hrr,hur,hnn,hgg,hF⟩:=hpost;obtain⟨l1,l2⟩:=xQ hR hps hd;have hH:∀b∈(BV own os).flatten,∃r∈os.flatten,b∈own r:=λb hb=>by
  rw[vC]at hb;obtain⟨l,hl,hbl⟩:=kU.1 hb;obtain⟨r,hr,rfl⟩:=cW.1 hl;exact⟨r,hr,hbl⟩
 have hg:∀b∈(BV own os).flatten,Out K G b:=λb hb=>by
  obtain⟨r,hr,hbr⟩:=hH b hb;obtain⟨A,hA⟩:=l2 r hr;exact hR.good r A hA b hbr
 have hout:∀b,¬Good w (BV own os).flatten b->Out K G b:=λb h1=>by
  by_cases hm:b∈(BV own os).flatten
  ·exact hg b hm
  ·exact hR.out_new (Nat.le_of_not_lt λhlt=>h1 ⟨hlt,hm⟩)
 have hfar:∀r A,bZ L r=some A->r ∉ os.flatten->∀b∈own r,b<w.heap.size/\b ∉ (BV own os).flatten:=λr A hA hr b hb=>by
  refine⟨hR.own_lt hA b hb,λhm=>?_⟩;obtain⟨s,hs,hbs⟩:=hH b hm;obtain⟨B,hB⟩:=l2 s hs;exact hR.apart r s A B hA hB (λe=>hr (e ▸ hs)) b hb hbs
 have hGk:∀b,G b->w'.heap[b]? = w0.heap[b]? := λb hb=>(hk.block b (hR.glt b hb) (λhm=>(hg b hm).2 hb)).trans (hR.gref b hb);have hGq:∀b,SmG K G (uX L S.sig ps) b->G b:=λb hb=>by
  unfold SmG at hb;split at hb
  ·exact hR.gsub b hb
  ·exact hb
 have hGs:uX L S.sig ps=true->∀b,SmG K G (uX L S.sig ps) b->K.G0 b:=λhq b hb=>by
  unfold SmG at hb
  rwa [π hq]at hb
 obtain⟨bss,exs,k1,k2,k3,k4,k5,k6,k7,k8⟩:=Qd (w':=w') hR hGq hGs hGk hps hd hpl hc hur hnd;have hall:((bss.flatten++exs.flatten)++rbs.flatten).Perm (ubs.flatten++rbs.flatten):=List.Perm.append_right _ k3;have hnn2:=hall.nodup_iff.2 hnn;have hn12:=lR.1 hnn2;have hn1:=lR.1 hn12.1;have hmem:∀b,b∈bss.flatten\/b∈exs.flatten\/b∈rbs.flatten->b∈ubs.flatten++rbs.flatten:=λb hb=>by
  refine hall.mem_iff.1 ?_;rcases hb with hb | hb | hb
  ·exact dE _ (dE _ hb)
  ·exact dE _ (dJ _ hb)
  ·exact dJ _ hb
 have hp:Qa n K w0 G w' a E L V own (acts.map eE) (λc=>c∈bss.flatten\/(c∈exs.flatten\/(c∈rbs.flatten\/F c))):=by
  rw[k5];refine⟨hR.glob,?_,hR.size,hR.defers,λb hb=>dZ (hR.glt b hb) hk.size,hGk,hR.gsub,hR.gold,hR.gup,λr A hA hr=>?_,λr A hA _=>hR.good r A hA,λr A hA _=>hR.nodup r A hA,λr s A B h1 h2 _ _=>hR.apart r s A B h1 h2,λr A ls hA hr hls=>?_,λr A q hA hr hq=>?_,hR.env,l2,λr A hA hr b hb hm=>?_⟩
  ·refine⟨hk.os.trans hR.kept.os,hk.tape.trans hR.kept.tape,hk.output.trans hR.kept.output,gI hR.kept.size hk.size,λb hb ho=>?_⟩;rw[hk.block b (dZ hb hR.kept.size) (λhm=>(hg b hm).1 ⟨hb,ho⟩)];exact hR.kept.block b hb ho
  ·exact(hR.heap r A hA).keep λb hb=>hk.block b (hfar r A hA hr b hb).1 (hfar r A hA hr b hb).2
  ·exact(hR.boxs r A ls hA hls).keepB λb off hv=>hk.block b (hfar r A hA hr b ((hR.heap r A hA).block hv (aU _))).1 (hfar r A hA hr b ((hR.heap r A hA).block hv (aU _))).2
  ·obtain⟨g1,g2⟩:=hR.small r A q hA hq;exact⟨g1,λe=>⟨(g2 e).1,(g2 e).2.keep λb hb=>hk.block b (hfar r A hA hr b hb).1 (hfar r A hA hr b hb).2⟩⟩
  ·rcases hm with hm | hm | hm | hm
   ·exact hgg b (hmem b (.inl hm)) (hfar r A hA hr b hb)
   ·exact hgg b (hmem b (.inr (.inl hm))) (hfar r A hA hr b hb)
   ·exact hgg b (hmem b (.inr (.inr hm))) (hfar r A hA hr b hb)
   ·exact(hF b hm).2.1 (hfar r A hA hr b hb)
 obtain⟨own1,r1,d1⟩:=Qc hp (by rw[k5];exact hnd) k1 k4 hn1.1 (λc hc hm=>by
  rcases hm with hm | hm | hm
  ·exact hn1.2.2 c hc c hm rfl
  ·exact hn12.2.2 c (dE _ hc) c hm rfl
  ·exact(hF c hm).2.2 (hmem c (.inl hc))) (λb hb=>hout b (hgg b (hmem b (.inl hb))))
 have hin:aZO (y6 acts (E,L)).2 ex:=λp hp'=>by
  obtain⟨ls,hls⟩:=k8 p hp';refine⟨ls,fi (by rw[k5];exact hnd) hls (λz hz=>l2 z.1 (by rw[<- k5];exact cW.2 ⟨_,hz,rfl⟩)) λl hl=>?_⟩;cases hl;have key:∀ {acts:FB} {bss:Γ (Γ Nat)},zQ K w0 G w' V acts bss->∀r A' l,(r,some A')∈acts->A'.ls=some l->jC l=[]:=by
   intro acts
   induction acts with
   | nil=>intro bss _ r A' l hm;cases hm
   | cons z s ih =>
    intro bss h r A' l hm hl;obtain⟨r0,o⟩:=z;cases o with
    | none =>
     rcases bA.1 hm with hm | hm
     ·cases hm
     ·exact ih (bss:=bss) h r A' l hm hl
    | some B =>
     obtain⟨b,t,_,_,h3,_,h5⟩:=h;rcases bA.1 hm with hm | hm
     ·cases hm;exact(h3 l hl).1
     ·exact ih h5 r A' l hm hl
  exact key k1 _ _ _ hls rfl
 obtain⟨V2,own2,r2,d2⟩:=uh (rest:=λc=>c∈rbs.flatten\/F c) r1 k2 hin k7 hn1.2.1 (λc hc hm=>by
  rcases hm with hm | hm
  ·exact hn12.2.2 c (dJ _ hc) c hm rfl
  ·exact(hF c hm).2.2 (hmem c (.inr (.inl hc)))) (λb hb=>hout b (hgg b (hmem b (.inr (.inl hb))))) (λr A hA b hb=>⟨λhm=>d1 r A hA b hb (.inl hm),λhm=>d1 r A hA b hb (.inr hm)⟩)
 have hrout:∀b∈rbs.flatten,Out K G b:=λb hb=>hout b (hgg b (hmem b (.inr (.inr hb))));rcases hko with hko | hus
 ·obtain⟨V3,own3,r3,_,a3⟩:=Us r2 (.inl hko) hrr hn12.2.1 hrout (λr A hA b hb hm=>d2 r A hA b hb (.inl hm));exact⟨_,w0,G,V3,own3,rfl,hk,r3,Qf a3⟩
 ·have r2':=r2.widen (F:=F) (λb hb=>(hF b hb).1) (λb hb=>(hout b (hF b hb).2.1).1) (λb hb r A hA hm=>d2 r A hA b hm (.inr hb));have hrout':∀b∈rbs.flatten,Out K (λc=>G c\/F c) b:=λb hb=>by
   obtain⟨h1,h2⟩:=hrout b hb;exact⟨h1,λh=>h.elim h2 λhf=>(hF b hf).2.2 (hmem b (.inr (.inr hb)))⟩
  obtain⟨V3,own3,r3,_,a3⟩:=Us r2' (.inr ⟨λc hc=>by
   rcases hc with hc | hc
   ·rcases hc with hc | ⟨r,hr,_⟩
    ·exact .inl hc
    ·rw[hus]at hr;cases hr
   ·exact .inr hc,rfl⟩) hrr hn12.2.1 hrout' (λr A hA b hb hm=>d2 r A hA b hb (.inl hm))
  exact⟨_,w',_,V3,own3,rfl,hk,r3,Qf a3⟩
theorem Fm:∀ {ext:Aw} (hX:rM P ext) (hR:bQ n K w0 G w a E L V own) {f:FuncId} {ps:Γ PV} {vs:Γ Value} {cs:Γ Prop} {pv:PV} {E':gH} {L':bM}
  (hps:DR w0 G L V ps vs) (h:Zr ext E L f ps=some (cs,pv,E',L')) (hc:gZ cs),
  CC P f/\Calls P f vs.toArray w λe w'=>∃v w0' G' V' own',e = .returned v/\bQ n K w0' G' w' a E' L' V' own'/\mK w0' G' L' V' pv v
 | [],_,_,_,_,_,_,_,_,_,_,h,_=>by cases h
 | (g,S)::r,hX,hR,f,ps,vs,cs,pv,E',L',hps,h,hc=>by
  obtain⟨⟨hcall,hcon⟩,hX'⟩:=hX;simp[Zr]at h;split at h
  ·rename_i hfg;obtain rfl:=aZ hfg;split at h
   ·rename_i x os us hd;split at h
    ·rename_i cd acts ex hdis hpl;cases h;obtain⟨hpre,hc⟩:=hc;simp at hdis;obtain⟨⟨hdj,hnb⟩,hko⟩:=hdis;have hnd:=IQ hnb;obtain⟨l1,l2⟩:=xQ hR hps hd;have hH:∀b∈(BV own os).flatten,∃r∈os.flatten,b∈own r:=λb hb=>by
      rw[vC]at hb
      grind
     have hg:∀b∈(BV own os).flatten,Out K G b:=λb hb=>by
      obtain⟨r,hr,hbr⟩:=hH b hb;obtain⟨A,hA⟩:=l2 r hr;exact hR.good r A hA b hbr
     have hGood:∀b,So G own us b->Good w (BV own os).flatten b:=by
      rintro b (hb | ⟨r,hr,hb⟩)
      ·exact⟨hR.glt b hb,λhm=>(hg b hm).2 hb⟩
      ·obtain⟨A,hA⟩:=l1 r hr;refine⟨hR.own_lt hA b hb,λhm=>?_⟩;obtain⟨s,hs,hbs⟩:=hH b hm;obtain⟨B,hB⟩:=l2 s hs;have hrs:r≠s:=λe=>Uj hdj s hs (e ▸ hr);exact hR.apart r s A B hA hB hrs b hb hbs
     have hargs:=DS (q:=uX L S.sig ps) hR (dD.refl [] w) (G':=So G own us) (λb hb => .inl hb) hps hd (λh=>h) (λr hr b hb => .inr ⟨r,hr,hb⟩);have hnd':(BV own os).flatten.Nodup:=by grind [vC,Qe]
     refine⟨hcall,(hcon w (So G own us) (SmG K G (uX L S.sig ps)) x _ _ (hR.gok (dD.refl _ _) hg) hGood (λb hb => .inl ?_) hpre hargs hnd').mono ?_⟩
     ·unfold SmG at hb;split at hb
      ·exact hR.gsub b hb
      lia
     grind [Zu]
    ·exact Fm hX' hR hps h hc
   ·exact Fm hX' hR hps h hc
  ·exact Fm hX' hR hps h hc
end
theorem aId{w0 w:World}{G:Nat->Prop}{t:Ty}{bor:Bool}{x:t.den}{cs:Γ Value}{bi:Γ Nat}(h:pO w0 G w t bor x cs bi):∀c∈cs,c.oneCell'=true:=by
 revert h;cases bor with
 | true=>exact λh=>h.1.one
 | false=>exact λh=>h.one
theorem aF9{w0 w w':World}{G G':Nat->Prop}{t:Ty}{bor bor':Bool}{x:t.den}{cs:Γ Value}{bi:Γ Nat}(hf:t.flat=true)(h:pO w0 G w t bor x cs bi):pO w0 G' w' t bor' x cs []:=by
 have h1:fI w0 G t x cs:=by
  revert h;unfold pO;cases bor with
  | true=>lia
  | false=>exact λh=>(h.flat (w':=w0) (G:=G) hf).1
 cases bor' with
 | true=>exact⟨h1.flat hf,rfl⟩
 | false=>exact h1.own hf
theorem xR{P:Program}:∀(vs:Γ Value) (w:World) (b o i:Nat) (cur:Array Value) (ty:TypeId) (fz:Nat×Nat),w.heap[b]? = some (.cells cur ty fz)->aHJ fz cur.size->o+i+vs.length<=cur.size->(∀v∈vs,v.oneCell'=true) ->
  ∃w' cur',(storeCells ⟨b,o,none⟩ vs i).run P w = .ok () w'/\w'.heap[b]? = some (.cells cur' ty fz)/\cur'.toList=fT cur.toList (o+i) vs/\dD [b] w w'/\w'.heap.size=w.heap.size
 | [],w,b,o,i,cur,ty,fz,hb,_,_,_=>⟨w,cur,rfl,hb,by simp[fT],dD.refl _ _,rfl⟩
 | v::vs,w,b,o,i,cur,ty,fz,hb,hf,hl,h1=>by
  simp at hl;have hcell:w.cell? ⟨b,o+i,none⟩=some (cur[o+i]'(by lia)):=by
   grind [iK]
  have hfr:w.frozen? ⟨b,o+i,none⟩=false:=by
   simp[World.frozen?];have:=hf (o+i) (by lia)
   lia
  have jT:(w.setCell ⟨b,o+i,none⟩ v).heap[b]? = some (.cells (cur.setIfInBounds (o+i) v) ty fz):=by
   simp only[World.setCell,Array.getElem?_modify,hb];rfl
  obtain⟨w',cur',h2,h3,h4,h5,h6⟩:=xR (P:=P) vs (w.setCell ⟨b,o+i,none⟩ v) b o (i+1) (cur.setIfInBounds (o+i) v) ty fz jT (by grind) (by grind) (λu hu=>h1 u (aM _ hu));refine⟨w',cur',?_,h3,?_,?_,?_⟩
  ·unfold storeCells;simp[fX,run_store P w _ v _ (h1 v (aR ..)),hcell,hfr,Bool.false_eq_true,if_false,cJ]
   lia
  ·rw[h4];have hlt:o+i<cur.toList.length:=by grind
   simp[fT];rw[show o+(i+1)=o+i+1 from by lia,iC];simp[HJ hlt,Option.toList_some,cK,List.cons_append,fV];rw[LW (aU _),LX (by lia),show o+i+1+vs.length=o+i+(vs.length+1)from by lia]
  ·have hk1:dD [b] w (w.setCell ⟨b,o+i,none⟩ v):=⟨rfl,rfl,rfl,by simp,λk hk hkb=>Go.RowKit.Below.heap_setCell w ⟨b,o+i,none⟩ v k (by grind)⟩;exact hk1.trans h5
  simp_all
def AZ{α:Type}(R:α->Γ Value->Γ Nat->Prop)(sz:Nat):Γ α->Γ (Γ Value)->Γ (Γ Nat)->Prop
 | [],css,bss=>css=[]/\bss=[]
 | y::ys,css,bss=>∃c cs b bs,css=c::cs/\bss=b::bs/\c.length=sz/\R y c b/\AZ R sz ys cs bs
theorem AZ.len{α:Type}{R:α->Γ Value->Γ Nat->Prop}{sz:Nat}:∀ {ys:Γ α} {css:Γ (Γ Value)} {bss:Γ (Γ Nat)},AZ R sz ys css bss->css.length=ys.length/\bss.length=ys.length/\css.flatten.length=ys.length*sz
 | [],_,_,⟨h1,h2⟩=>by grind
 | y::ys,_,_,⟨c,cs,b,bs,h1,h2,h3,h4,h5⟩=>by
  obtain⟨e1,e2,e3⟩:=h5.len
  grind
theorem AZ.mono{α:Type}{R R':α->Γ Value->Γ Nat->Prop}{sz:Nat}:∀ {ys:Γ α} {css:Γ (Γ Value)} {bss:Γ (Γ Nat)},(∀y c b,b∈bss->R y c b->R' y c b)->AZ R sz ys css bss->AZ R' sz ys css bss
 | [],_,_,_,h=>h
 | y::ys,_,_,hm,⟨c,cs,b,bs,h1,h2,h3,h4,h5⟩=>⟨c,cs,b,bs,h1,h2,h3,hm _ _ _ (by grind) h4,h5.mono (λy c b hb=>hm y c b (by grind))⟩
theorem AZ.nil{α:Type}{R R':α->Γ Value->Γ Nat->Prop}{sz:Nat}:∀ {ys:Γ α} {css:Γ (Γ Value)} {bss:Γ (Γ Nat)},(∀y c b,R y c b->R' y c [])->AZ R sz ys css bss->∃bss',AZ R' sz ys css bss'/\bss'.flatten=[]
 | [],css,_,_,h=>⟨[],⟨h.1,rfl⟩,rfl⟩
 | y::ys,_,_,hm,⟨c,cs,b,bs,h1,h2,h3,h4,h5⟩=>by
  obtain⟨bs',h6,h7⟩:=h5.nil hm;exact⟨[]::bs',⟨c,cs,[],bs',h1,rfl,h3,hm _ _ _ h4,h6⟩,by grind⟩
theorem AZ.append{α:Type}{R:α->Γ Value->Γ Nat->Prop}{sz:Nat}:∀ {ys zs:Γ α} {cs ds:Γ (Γ Value)} {bs es:Γ (Γ Nat)},AZ R sz ys cs bs->AZ R sz zs ds es->AZ R sz (ys++zs) (cs++ds) (bs++es)
 | [],_,_,_,_,_,⟨h1,h2⟩,h=>by grind
 | y::ys,_,_,_,_,_,⟨c,cs,b,bs,h1,h2,h3,h4,h5⟩,h=>by
  subst h1 h2;exact⟨c,_,b,_,rfl,rfl,h3,h4,h5.append h⟩
theorem AZ.get{α:Type}{R:α->Γ Value->Γ Nat->Prop}{sz:Nat}:∀ {ys:Γ α} {css:Γ (Γ Value)} {bss:Γ (Γ Nat)},AZ R sz ys css bss->∀i y bi,ys[i]? = some y->bss[i]? = some bi ->
  ∃c,c.length=sz/\R y c bi/\∀j v,c[j]? = some v->css.flatten[i*sz+j]? = some v
 | [],_,_,_,i,y,bi,h,_=>by grind
 | y::ys,_,_,⟨c,cs,b,bs,h1,h2,h3,h4,h5⟩,0,z,bi,hy,hb=>by
  grind
 | y::ys,_,_,⟨c,cs,b,bs,h1,h2,h3,h4,h5⟩,i+1,z,bi,hy,hb=>by
  obtain⟨d,e1,e2,e3⟩:=h5.get i z bi (by grind) (by grind)
  grind
theorem aBi{α:Type}{R:α->Γ Value->Γ Nat->Prop}{sz:Nat}{f:Nat->Option Value}:∀(ys:Γ α) (bss:Γ (Γ Nat)) (off:Nat),bss.length=ys.length ->
  (∀i y bi,ys[i]? = some y->bss[i]? = some bi->∃cs,cs.length=sz/\(∀j c,cs[j]? = some c->f (off+i*sz+j)=some c)/\R y cs bi) ->
  ∃css,AZ R sz ys css bss/\∀j c,css.flatten[j]? = some c->f (off+j)=some c
 | [],bss,off,hl,_=>⟨[],⟨rfl,bN hl⟩,λj c h=>by grind⟩
 | y::ys,[],_,hl,_=>by grind
 | y::ys,b::bs,off,hl,h=>by
  obtain⟨c,hc1,hc2,hc3⟩:=h 0 y b rfl rfl;obtain⟨cs,hr,hcs⟩:=aBi ys bs (off+sz) (by grind) (λi z bi hz hb=>by
   obtain⟨d,e1,e2,e3⟩:=h (i+1) z bi (by grind) (by grind);refine⟨d,e1,λj v hj=>?_,e3⟩;have:=e2 j v hj
   rwa [show off+(i+1)*sz+j=off+sz+i*sz+j from by lia]at this)
  refine⟨c::cs,⟨c,cs,b,bs,rfl,rfl,hc1,hc3,hr⟩,λj v hj=>?_⟩
  grind
theorem uE{w:World}{α:Type}{R:α->Γ Value->Γ Nat->Prop}{sz:Nat}{xs:Γ α}{css:Γ (Γ Value)}{bss:Γ (Γ Nat)}(h:AZ R sz xs css bss){b off cap:Nat}{cur:Array Value}{ty:TypeId}{fz:Nat×Nat}
  (hl:xs.length<=maxLen) (h1:xs.length<=cap) (h2:cap<=maxLen) (h3:off+cap*sz<=cur.size) (h4:w.heap[b]? = some (.cells cur ty fz)) (h5:OV sz fz cur.size)
  (h6:∀j c,css.flatten[j]? = some c->cur[off+j]? = some c):Aa w R sz xs (.slice (some ⟨b,off,none⟩) xs.length cap) (b::bss.flatten):=by
 refine⟨hl,.inr ⟨b,off,cap,cur,ty,fz,bss,rfl,h1,h2,h3,h4,h5,h.len.2.1,rfl,λi x bi hx hb=>?_⟩⟩;obtain⟨c,e1,e2,e3⟩:=h.get i x bi hx hb
 grind
theorem AZ.one{α:Type}{R:α->Γ Value->Γ Nat->Prop}{sz:Nat}(hR:∀y c b,R y c b->∀v∈c,v.oneCell'=true):∀ {ys:Γ α} {css:Γ (Γ Value)} {bss:Γ (Γ Nat)},AZ R sz ys css bss->∀v∈css.flatten,v.oneCell'=true
 | [],_,_,⟨h1,h2⟩,v,hv=>by grind
 | y::ys,_,_,⟨c,cs,b,bs,h1,h2,h3,h4,h5⟩,v,hv=>by
  subst h1;simp only[gR,dC]at hv;rcases hv with hv | hv
  ·grind
  ·exact h5.one hR v hv
theorem AZ.take{α:Type}{R:α->Γ Value->Γ Nat->Prop}{sz:Nat}:∀ {ys:Γ α} {css:Γ (Γ Value)} {bss:Γ (Γ Nat)} (k:Nat),AZ R sz ys css bss->AZ R sz (ys.take k) (css.take k) (bss.take k)
 | _,_,_,0,_=>⟨by rfl,by rfl⟩
 | [],_,_,k+1,⟨h1,h2⟩=>by subst h1 h2;exact⟨rfl,rfl⟩
 | y::ys,_,_,k+1,⟨c,cs,b,bs,h1,h2,h3,h4,h5⟩=>by
  subst h1 h2;exact⟨c,_,b,_,rfl,rfl,h3,h4,h5.take k⟩
theorem AZ.drop{α:Type}{R:α->Γ Value->Γ Nat->Prop}{sz:Nat}:∀ {ys:Γ α} {css:Γ (Γ Value)} {bss:Γ (Γ Nat)} (k:Nat),AZ R sz ys css bss->AZ R sz (ys.drop k) (css.drop k) (bss.drop k)
 | _,_,_,0,h=>h
 | [],_,_,k+1,⟨h1,h2⟩=>by subst h1 h2;exact⟨rfl,rfl⟩
 | y::ys,_,_,k+1,⟨c,cs,b,bs,h1,h2,h3,h4,h5⟩=>by
  subst h1 h2;exact h5.drop k
theorem y7{α:Type}(l:Γ α):∀(n j:Nat),(aP n l).flatten[j]? = if j<n*l.length then l[j%l.length]? else none
 | 0,j=>by simp
 | n+1,j=>by
  rw[BZ,gR];by_cases h:j<l.length
  ·rw[c6 h,Nat.mod_eq_of_lt h]
   lia
  ·rw[cY (by lia),y7 l n];have e:(j-l.length)%l.length=j%l.length:=by
    grind [Nat.mod_eq_sub_mod]
   lia
theorem Uw(z:Array Value)(n:Nat):((I' (n*z.size)).map (z[· % z.size]!)).toList=(aP n z.toList).flatten:=by
 apply yM;intro j;rw[y7];by_cases h:j<n*z.size
 ·have hz:0<z.size:=by
   lia
  have hm:j%z.size<z.size:=Nat.mod_lt _ hz;simp[h,hm]
 grind
theorem Dn{w0 w:World}{G:Nat->Prop}(t:Ty)(bor:Bool):∀n:Nat,AZ (pO w0 G w t bor) t.size (aP n t.dflt) (aP n (fN t)) (aP n [])
 | 0=>⟨rfl,rfl⟩
 | n+1=>by
  refine⟨fN t,_,[],_,rfl,rfl,(jA w G t).length,?_,Dn t bor n⟩;cases bor with
  | true=>exact⟨jA w0 G t,rfl⟩
  | false=>exact own_dcells t
where
 own_dcells {w:World}:∀t:Ty,iH w t t.dflt (fN t) []
 | .int k=>⟨rfl,by cases k <;> simp[aX,qH,qI,oI,nT,Ty.dflt],rfl⟩
 | .bool=>⟨rfl,rfl⟩
 | .fn=>⟨rfl,rfl⟩
 | .str=>⟨rfl,aY _,rfl⟩
 | .sl e=>⟨_,rfl,aY _,.inl ⟨_,rfl,rfl,rfl⟩⟩
 | .unit=>⟨rfl,rfl⟩
 | .cons a b=>⟨_,_,[],[],rfl,rfl,own_dcells a,own_dcells b⟩
theorem AZ.set{α:Type}{R:α->Γ Value->Γ Nat->Prop}{sz:Nat}{y':α}{c':Γ Value}{b':Γ Nat}(h1:c'.length=sz)(h2:R y' c' b'):∀ {ys:Γ α} {css:Γ (Γ Value)} {bss:Γ (Γ Nat)} (i:Nat),AZ R sz ys css bss ->
  AZ R sz (ys.set i y') (css.set i c') (bss.set i b')
 | [],_,_,i,⟨e1,e2⟩=>by subst e1 e2;exact⟨rfl,rfl⟩
 | y::ys,_,_,0,⟨c,cs,b,bs,e1,e2,e3,e4,e5⟩=>by subst e1 e2;exact⟨c',cs,b',bs,rfl,rfl,h1,h2,e5⟩
 | y::ys,_,_,i+1,⟨c,cs,b,bs,e1,e2,e3,e4,e5⟩=>by subst e1 e2;exact⟨c,_,b,_,rfl,rfl,e3,e4,e5.set h1 h2 i⟩
theorem Sp{sz:Nat}{c':Γ Value}(h1:c'.length=sz):∀ {css:Γ (Γ Value)} {i:Nat},(∀c∈css,c.length=sz)->i<css.length->fT css.flatten (i*sz) c'=(css.set i c').flatten
 | [],i,_,h=>by grind
 | c::cs,0,h,_=>by
  grind [fT]
 | c::cs,i+1,h,hi=>by
  have hc:=h c (aR ..);have ih:=Sp h1 (css:=cs) (i:=i) (λd hd=>h d (aM _ hd)) (by grind);simp[fT]at ih ⊢;rw[<- ih,fZ,Dd,Nat.add_comm (i*sz) sz];rw[<- hc,AU];simp[eA,fS]
theorem AZ.lens{α:Type}{R:α->Γ Value->Γ Nat->Prop}{sz:Nat}:∀ {ys:Γ α} {css:Γ (Γ Value)} {bss:Γ (Γ Nat)},AZ R sz ys css bss->∀c∈css,c.length=sz
 | [],_,_,⟨e1,e2⟩,c,hc=>by grind
 | y::ys,_,_,⟨d,cs,b,bs,e1,e2,e3,e4,e5⟩,c,hc=>by
  subst e1;rcases bA.1 hc with rfl | hc
  ·lia
  ·exact e5.lens c hc
def aZQ(lv:Bool)(t:Ty)(A:c7):Option iE :=
 match lv && !t.flat,DG t A with
 | false,some x=>some ⟨t,[x],true,none,some false⟩
 | _,_=>match ey t A with
  | some ls=>some ⟨t,[],false,some ls,none⟩
  | none=>none
def Yt:PV->PV
 | .fn f [] => .a (.val (.func (.func f) #[] #[]))
 | p=>p
def aMC(tab:Γ TI)(lv:Bool)(T:TypeId)(p:PV):Option iE:=match Yt p with
 | .a A=>match (jO tab T).ty with
  | some t=>aZQ lv t A
  | none=>none
 | _=>none
def fj(tab:Γ TI)(T:TypeId):Option iE :=
 match (jO tab T).ty with
 | some t=>match t.flat with
  | true=>some ⟨t,[t.dflt],true,none,some false⟩
  | false=>some ⟨t,[],false,some (zLs t),none⟩
 | none=>none
def Ux(k:Nat)(A:iE):c7 :=
 match A.ls with
 | some _ => .bptr k 0 A.t
 | none => .optr k 0 []
def aBj(t:Ty):Γ t.den->Γ (Nat×PV)->Option (Γ t.den)
 | xs,[]=>some xs
 | xs,(i,.a A)::r=>match Nat.blt i xs.length,DG t A with
  | true,some y=>aBj t (xs.set i y) r
  | _,_=>none
 | _,_=>none
def Kg(tab:Γ TI)(T:TypeId)(n:Nat)(parts:Γ (Nat×PV)):Option iE :=
 match jO tab T with
 | .slice _ t _=>match pJ (n*t.size) 16777216&&pJ 1 t.size,aBj t (aP n t.dflt) (parts.map λp=>(p.1,Yt p.2))with
  | true,some xs=>some ⟨t,xs, !t.flat && !(cE n 0),none,none⟩
  | _,_=>none
 | _=>none
def aD5(tab:Γ TI)(T:TypeId)(l c:PV):Option (Γ Prop×iE) :=
 match jO tab T,l,c with
 | .slice _ t by',.a (.val (.int .i64 l)),.a (.val (.int .i64 c))=>some ([0<=l,l<=c,(by':Int)*c<=281474976710656],⟨t,aP l.toNat t.dflt,false,none,none⟩)
 | _,_,_=>none
def aZR(A:iE)(t:Ty):Bool :=
 match A.sm with
 | some true=>t.flat
 | _=>true
def aBk(tab:Γ TI)(L:bM)(T:TypeId):PV->PV->Option bM
 | .a (.optr r i p),.a B=>match (jO tab T).ty,bZ L r with
  | some t,some A=>match (A.bor||t.flat)&&aZR A t,A.ls,DG t B with
   | true,none,some y=>match Yn A.t (A.xs.getD i A.t.dflt) p ⟨t,y⟩ with
    | some x=>some (jT L r (some ⟨A.t,A.xs.set i x,A.bor,none,A.sm⟩))
    | none=>none
   | _,_,_=>none
  | _,_=>none
 | .a (.bptr r o t'),.a B=>match (jO tab T).ty,bZ L r with
  | some t,some A=>match decide (t'=t),A.ls,ey t B with
   | true,some ls,some l=>some (jT L r (some ⟨A.t,A.xs,A.bor,some (Fe ls o l),A.sm⟩))
   | _,_,_=>none
  | _,_=>none
 | _,_=>none
section
variable {P:Program} {n:Nat} {K:fG} {G:Nat->Prop} {w0 w:World} {a:Act} {E:gH} {L:bM} {V:Nat->Value} {own:Nat->Γ Nat}
theorem bQ.fresh(hR:bQ n K w0 G w a E L V own){w':World}(hk:dD [] w w'){A0:iE}{v:Value}{bs:Γ Nat}(h:iI w0 G w' A0 v bs)(hn:bs.Nodup)(hb:∀b∈bs,w.heap.size<=b)
  (hbox:∀ls,A0.ls=some ls->Dk w0 G w' L V A0.t ls v:=by intro ls h;cases h) (hsm:∀q,A0.sm=some q->(∃b off,v = .slice (some ⟨b,off,none⟩) 1 1)/\(q=true->A0.bor=true/\iI w0 K.G0 w' A0 v bs):=by intro q h;cases h) :
  bQ n K w0 G w' a E (L++[some A0]) (FA V L.length v) (FA own L.length bs) :=
 (hR.ext hk).grow h hn (λb hb'=>hR.out_new (hb b hb')) (λr A hA b hb' hm=>by have:=hb b hm;have:=hR.own_lt hA b hb';lia) hbox hsm
structure New (L:bM) (w w':World) (V V':Nat->Value) (own own':Nat->Γ Nat):Prop where
 kept:dD [] w w'
 same:∀r,r<L.length->V' r=V r/\own' r=own r
 fresh:∀r,L.length<=r->∀A L',bZ (L++L') r=some A->L'.length<=1->∀b∈own' r,w.heap.size<=b
def ui(n:Nat)(K:fG)(w0:World)(G:Nat->Prop)(w w':World)(a:Act)(E:gH)(L L':bM)(V V':Nat->Value)(own own':Nat->Γ Nat):Prop :=
 bQ n K w0 G w' a E L' V' own'/\New L w w' V V' own own'
theorem bQ.freshN(hR:bQ n K w0 G w a E L V own){w':World}(hk:dD [] w w'){A0:iE}{v:Value}{bs:Γ Nat}(h:iI w0 G w' A0 v bs)(hn:bs.Nodup)(hb:∀b∈bs,w.heap.size<=b)
  (hbox:∀ls,A0.ls=some ls->Dk w0 G w' L V A0.t ls v:=by intro ls h;cases h) (hsm:∀q,A0.sm=some q->(∃b off,v = .slice (some ⟨b,off,none⟩) 1 1)/\(q=true->A0.bor=true/\iI w0 K.G0 w' A0 v bs):=by intro q h;cases h) :
  ui n K w0 G w w' a E L (L++[some A0]) V (FA V L.length v) own (FA own L.length bs) :=
 ⟨hR.fresh hk h hn hb hbox hsm,hk,λr hr=>⟨dF _ _ (by lia),dF _ _ (by lia)⟩,λr hr A L' hg hl b hb'=>by
  have hlt:=xL hg;rw[bS]at hlt;have:r=L.length:=by lia
  grind [eX]⟩
variable {t:Ty}
theorem Fo{A:c7}{v:Value}(hb:yZ w0 G A v){x:t.den}(h:DG t A=some x)(bor:Bool)(hf:bor=false->t.flat=true):∃cs,v=gY t cs/\cs.length=t.size/\fI w0 G t x cs/\∀w,pO w0 G w t bor x cs []:=by
 obtain⟨cs,hr,hv⟩:=Bt hb h;refine⟨cs,hv,hr.length,hr,λw=>?_⟩;unfold pO;cases bor with
 | true=>lia
 | false=>exact hr.own (hf rfl)
theorem FC(w:World)(o:Obj):(w.alloc o).heap[w.heap.size]? = some o:=heap_alloc_new w o
theorem Zv(n:Nat):aHJ (0,0) n:=λj _ h=>by lia
def CH(sz n:Nat):OV sz (0,0) n:=⟨Zv _,.inr (Zv _)⟩
variable {cs:Γ Value}
theorem aMD{w:World}{bor:Bool}{sm:Option Bool}{x:t.den}(h:∀w,pO w0 G w t bor x cs [])(hl:cs.length=t.size)(ty:TypeId) :
  iI w0 G (w.alloc (.cells cs.toArray ty)) ⟨t,[x],bor,none,sm⟩ (.slice (some ⟨w.heap.size,0,none⟩) 1 1) [w.heap.size]:=by
 have hrow:AZ (pO w0 G (w.alloc (.cells cs.toArray ty)) t bor) t.size [x] [cs] [[]]:=⟨cs,[],[],[],rfl,rfl,hl,h _,rfl,rfl⟩;have:=uE hrow (b:=w.heap.size) (off:=0) (cap:=1) (cur:=cs.toArray) (ty:=ty) (fz:=(0,0)) (by simp[maxLen]) (by simp) (by simp[maxLen]) (by grind) (FC _ _) (CH _ _) (by simp)
 grind [iI]
theorem Fp{x:t.den}(h:fI w0 G t x cs):(gY t cs).cells=cs.toArray:=by
 have:=congrArg rD (sR h)
 grind
theorem aD6(hR:bQ n K w0 G w a E L V own){A:iE}(T:TypeId)(hl:cs.length=t.size)
  (h:(∃x,A=⟨t,[x],true,none,some false⟩/\fI w0 G t x cs)\/∃ls,A=⟨t,[],false,some ls,none⟩/\ls.length=t.size/\iG w0 G L V ls cs) :
  ∃V' own',ui n K w0 G w (w.alloc (.cells cs.toArray T)) a E L (L++[some A]) V V' own own'/\mK w0 G (L++[some A]) V' (.a (Ux L.length A)) (.pointer (some ⟨w.heap.size,0,none⟩)):=by
 rcases h with ⟨x,rfl,hr⟩ | ⟨ls,rfl,hll,hr⟩
 ·have hE:=aMD (w:=w) (sm:=some false) (bor:=true) (x:=x) (λw=>(⟨hr,rfl⟩:pO w0 G w t true x cs [])) hl T;refine⟨_,_,hR.freshN ((dD.refl [] w).alloc _) hE (by simp) (by simp) (hsm:=λq hq=>⟨⟨_,_,rfl⟩,λe=>by lia⟩),?_⟩;exact⟨_,Up _ _,by simp,w.heap.size,0,1,1,0,t,eX _ _ _,rfl,by lia⟩
 ·have hE:iI w0 G (w.alloc (.cells cs.toArray T)) ⟨t,[],false,some ls,none⟩ (.slice (some ⟨w.heap.size,0,none⟩) 0 1) [w.heap.size] :=
   ⟨by simp,.inr ⟨w.heap.size,0,1,cs.toArray,T,(0,0),[],rfl,aY _,by simp[maxLen],by grind,FC _ _,CH _ _,rfl,rfl,λi y bi hy=>by simp⟩⟩
  refine⟨_,_,hR.freshN ((dD.refl [] w).alloc _) hE (by simp) (by simp) (hbox:=λl hl'=>?_),?_⟩
  ·cases hl';refine⟨w.heap.size,0,cs,rfl,hl,hll,λj c hj=>?_,hr⟩;simp_all
  ·exact⟨_,ls,w.heap.size,0,Up _ _,rfl,eX _ _ _,rfl,by lia⟩
theorem aFA(hR:bQ n K w0 G w a E L V own)(x:Operand){A:c7}(hA:Yt (opnd E x) = .a A):nE w0 G L V A (a.eval x):=by
 unfold Yt at hA;split at hA
 ·rename_i f hq;cases hA;have hv:=hR.opnd x;rw[hq]at hv;obtain⟨us,hu,hr⟩:=hv;cases hr;exact⟨hu,trivial⟩
 ·exact hR.atom hA
theorem uj(hR:bQ n K w0 G w a E L V own)(x:Operand){A:c7}(hA:Yt (opnd E x) = .a A){y:t.den}(hd:DG t A=some y):yZ w0 G A (a.eval x):=by
 unfold Yt at hA;split at hA
 ·rename_i f hq;cases hA;have hv:=hR.opnd x;rw[hq]at hv;obtain⟨us,hu,hr⟩:=hv;cases hr;exact⟨hu,trivial⟩
 ·exact qP (hR.atom hA) hd
theorem uk{tab:Γ TI}(hT:kW P tab)(hR:bQ n K w0 G w a E L V own){lv:Bool}{T:TypeId}{x:Operand}{A:iE}(h:aMC tab lv T (opnd E x)=some A) :
  ∃v w' V' own',(aH8 T (a.eval x)).run P w = .ok v w'/\ui n K w0 G w w' a E L (L++[some A]) V V' own own'/\mK w0 G (L++[some A]) V' (.a (Ux L.length A)) v:=by
 unfold aMC at h;split at h
 ·rename_i B hB;split at h
  ·rename_i t ht;have key:∃cs,cs.length=t.size/\(a.eval x).cells=cs.toArray/\((∃y,A=⟨t,[y],true,none,some false⟩/\fI w0 G t y cs)\/∃ls,A=⟨t,[],false,some ls,none⟩/\ls.length=t.size/\iG w0 G L V ls cs):=by
    unfold aZQ at h;split at h
    ·rename_i y _ hy;cases h;obtain⟨cs,hv,hl,hrep,hcs⟩:=Fo (uj hR x hB hy) hy true (λh=>by lia);exact⟨cs,hl,by grind [Fp],.inl ⟨y,rfl,hrep⟩⟩
    ·split at h
     ·rename_i ls hls;cases h;obtain⟨cs,e1,e2,e3,e4,e5⟩:=Uh (aFA hR x hB) hls
      lia
     lia
   obtain⟨cs,hl,hc,hcase⟩:=key;obtain⟨V',own',h1,h2⟩:=aD6 hR T hl hcase;refine⟨_,_,V',own',?_,h1,h2⟩;simp[aH8,newVar,hc];rfl
  lia
 lia
theorem Uy{tab:Γ TI}(hT:kW P tab)(hR:bQ n K w0 G w a E L V own){T:TypeId}{A:iE}(h:fj tab T=some A) :
  ∃v w' V' own',(J' T true (.tuple #[])).run P w = .ok v w'/\ui n K w0 G w w' a E L (L++[some A]) V V' own own'/\mK w0 G (L++[some A]) V' (.a (Ux L.length A)) v:=by
 unfold fj at h;split at h
 ·rename_i t ht;have hd:=jA w0 G t;have key:(∃y,A=⟨t,[y],true,none,some false⟩/\fI w0 G t y (fN t))\/∃ls,A=⟨t,[],false,some ls,none⟩/\ls.length=t.size/\iG w0 G L V ls (fN t):=by
   split at h
   ·grind
   ·cases h;exact .inr ⟨_,rfl,Ly,UA⟩
  obtain⟨V',own',h1,h2⟩:=aD6 hR T hd.length key;refine⟨_,_,V',own',?_,h1,h2⟩;simp[J',newVar,(TI.ty_ok (hT T) ht).zero_run,Fp hd];rfl
 lia
theorem ul{t:Ty}{bor:Bool}(hbor:bor=false->t.flat=true):∀ {parts:Γ (Nat×PV)} {vs:Γ (Nat×Value)} {xs xs':Γ t.den} {css:Γ (Γ Value)} {bss:Γ (Γ Nat)},
  aBj t xs parts=some xs'->Ey w0 G parts vs->(∀w,AZ (pO w0 G w t bor) t.size xs css bss)->bss.flatten=[] ->
  ∃css' bss',tY (λi=>some (i*t.size,t.size)) css.flatten.toArray vs=some css'.flatten.toArray/\(∀w,AZ (pO w0 G w t bor) t.size xs' css' bss')/\bss'.flatten=[]/\xs'.length=xs.length
 | [],vs,xs,xs',css,bss,h,hv,hr,hb=>by
  cases hv;cases h;exact⟨css,bss,rfl,hr,hb,rfl⟩
 | (i,.a A)::r,vs,xs,xs',css,bss,h,hv,hr,hb=>by
  obtain⟨v,s,rfl,h1,h2⟩:=hv;simp[aBj]at h;split at h
  ·rename_i y hlt hy;have hlt:i<xs.length:=by simp_all
   obtain⟨cs,hv,hl,hrep,hcs⟩:=Fo (h1 A rfl _ _ hy) hy bor hbor;obtain⟨e1,e2,e3⟩:=(hr w0).len;have jT:∀w,AZ (pO w0 G w t bor) t.size (xs.set i y) (css.set i cs) (bss.set i []):=λw=>(hr w).set hl (hcs w) i;have hbn:(bss.set i []).flatten=[]:=by
    grind [xE]
   obtain⟨css',bss',e4,e5,e6,e7⟩:=ul hbor h h2 jT hbn;refine⟨css',bss',?_,e5,e6,by grind⟩;rw[Q4 _ css.flatten i (i*t.size) v cs t.size s rfl (by grind [sR]) hl (by have:=cV t.size hlt;lia),
    Sp hl (hr w0).lens (by lia)]
   lia
  lia
 | (_,.tup _)::_,_,_,_,_,_,h,_,_,_=>by cases h
 | (_,.fn _ _)::_,_,_,_,_,_,h,_,_,_=>by cases h
theorem O7{w:World}{bor:Bool}{sm:Option Bool}{xs:Γ t.den}{css:Γ (Γ Value)}{bss:Γ (Γ Nat)}{rest:Γ Value}{cap:Nat}{ty:TypeId}(hr:AZ (pO w0 G (w.alloc (.cells (css.flatten++rest).toArray ty)) t bor) t.size xs css bss)(hb:bss.flatten=[])
  (hl:xs.length<=cap) (hm:cap<=maxLen) (hc:cap*t.size<=(css.flatten++rest).length) :
  iI w0 G (w.alloc (.cells (css.flatten++rest).toArray ty)) ⟨t,xs,bor,none,sm⟩ (.slice (some ⟨w.heap.size,0,none⟩) xs.length cap) [w.heap.size]:=by
 have:=uE hr (b:=w.heap.size) (off:=0) (cap:=cap) (cur:=(css.flatten++rest).toArray) (ty:=ty) (fz:=(0,0)) (by lia) hl hm (by grind) (FC _ _) (CH _ _) (λj c hj=>by
  grind)
 rw[hb]at this;exact this
theorem Fq(t:Ty):(gY t (fN t)).cells=(fN t).toArray:=Fp (w0:=default) (G:=λ_=>True) (jA default (λ_=>True) t)
theorem CI(t:Ty)(k:Nat)(z:Array Value)(hz:k*t.size≠0->z=(fN t).toArray):((I' (k*t.size)).map (z[· % z.size]!))=(aP k (fN t)).flatten.toArray:=by
 have hl:(fN t).length=t.size:=(jA default (Good default []) t).length;by_cases h:k*t.size=0
 ·have:(aP k (fN t)).flatten=[]:=by
   apply bN;simp_all
  grind
 ·have hs:(fN t).toArray.size=t.size:=by grind
  grind [Uw]
theorem um(hR:bQ n K w0 G w a E L V own):∀(l:Γ (Nat×Operand)),Ey w0 G ((l.map λp=>(p.1,opnd E p.2)).map λp=>(p.1,Yt p.2)) (l.map λp=>(p.1,a.eval p.2))
 | []=>rfl
 | p::r=>⟨a.eval p.2,_,rfl,λA hA t x hd=>uj hR p.2 hA hd,um hR r⟩
theorem L3{tab:Γ TI}(hT:kW P tab)(hR:bQ n K w0 G w a E L V own){T:TypeId}{k:Nat}{parts:Array (Nat×Operand)}{A:iE}(h:Kg tab T k (parts.toList.map λp=>(p.1,opnd E p.2))=some A) :
  ∃v w' V' own',(S3 T k (parts.map λp=>(p.1,a.eval p.2))).run P w = .ok v w'/\ui n K w0 G w w' a E L (L++[some A]) V V' own own'/\mK w0 G (L++[some A]) V' (.a (.osl L.length none)) v:=by
 unfold Kg at h;split at h
 ·rename_i e t by' ht
  split at h
  ·rename_i xs hle hlit;cases h;have hS:=hT T;rw[ht]at hS;obtain⟨_,hu,he,_⟩:=hS;simp at hle;obtain⟨hle,hsz⟩:=hle;have hkm:k<=maxLen:=by have:=xF k hsz;grind [maxLen]
   have hb0:(aP k ([]:Γ Nat)).flatten=[]:=by simp
   have hbor:(!t.flat && !(cE k 0))=false->t.flat=true\/k=0:=by
    simp;lia
   have hfill:∃css' bss',tY (λi=>some (i*t.size,t.size)) (aP k (fN t)).flatten.toArray (parts.toList.map λp=>(p.1,a.eval p.2))=some css'.flatten.toArray/\(∀w,AZ (pO w0 G w t (!t.flat && !(cE k 0))) t.size xs css' bss')/\bss'.flatten=[]/\xs.length=k:=by
    by_cases hk:k=0
    ·subst hk;have:parts.toList=[]:=by
      cases hp:parts.toList with
      | nil=>rfl
      | cons q r =>
       rw[hp]at hlit;simp at hlit;cases hq:opnd E q.2 with
       | a A=>rw[hq]at hlit;simp[Yt,aBj]at hlit
       | tup _=>grind [Yt,aBj]
       | fn _ cs=>rw[hq]at hlit;cases cs <;> simp[Yt,aBj]at hlit
     rw[this]at hlit ⊢;cases hlit;exact⟨[],[],rfl,λw=>⟨rfl,rfl⟩,rfl,rfl⟩
    ·obtain⟨css',bss',e1,e2,e3,e4⟩:=ul (bor := !t.flat && !(cE k 0)) (λhh=>(hbor hh).resolve_right hk) hlit (um hR parts.toList) (λw=>Dn t _ k) hb0
     grind
   obtain⟨css,bss,hf,hrow,hbn,hlen⟩:=hfill;obtain⟨l1,l2,l3⟩:=(hrow w).len;have hent:=O7 (w:=w) (sm:=none) (ty:=e) (rest:=[]) (cap:=k) (hrow _) hbn (by lia) hkm (by grind);rw[List.append_nil]at hent;refine⟨_,_,_,_,?_,hR.freshN ((dD.refl [] w).alloc _) hent (by simp) (by simp),vB (w0:=w0) (G:=G) (u:=w0) (G':=G) hent⟩;have e1:(parts.map λp=>(p.1,a.eval p.2)).toList=parts.toList.map λp=>(p.1,a.eval p.2):=by simp
   unfold S3;simp only[dV,run_underlying hu,cJ,he.size_run];rw[ν (by lia)];by_cases h0:k*t.size=0
   ·have hz:=CI t k #[] (λh=>absurd h0 h);rw[π h0];simp only[dV,fP,cJ,hz,e1,hf,hlen];rfl
   ·have hz:=CI t k (fN t).toArray (λ_=>rfl);rw[ν h0];simp only[dV,fP,cJ,he.zero_run,Fq,hz,e1,hf,hlen];rfl
  lia
 lia
end
def cD(s:Δ):Γ Int:=s.data.toList.map λb=>(b.toNat:Int)
def aME(tab:Γ TI)(src dst:TypeId):PV->Option iE
 | .a (.val (.string s))=>match jO tab src,jO tab dst with
  | .scal .str,.slice _ (.int .u8) _=>some ⟨.int .u8,cD s,false,none,none⟩
  | _,_=>none
 | _=>none
def aSf(tab:Γ TI)(L:bM)(src dst:TypeId):PV->Option Δ
 | .a A=>match jO tab src,jO tab dst,aHY L (.sl (.int .u8)) A with
  | .slice _ (.int .u8) _,.scal .str,some xs=>some (jQ xs)
  | _,_,_=>none
 | _=>none
section
variable {P:Program} {n:Nat} {K:fG} {G:Nat->Prop} {w0 w:World} {a:Act} {E:gH} {L:bM} {V:Nat->Value} {own:Nat->Γ Nat}
theorem aMF{n:Int}(h:aX .i64 n) : -9223372036854775808<=n/\n<=9223372036854775807:=by
 grind [aX,qH,qI,oI,nT]
theorem Zw{tab:Γ TI}(hT:kW P tab)(hR:bQ n K w0 G w a E L V own){T:TypeId}{l c:Operand}{cs:Γ Prop}{A:iE}(h:aD5 tab T (opnd E l) (opnd E c)=some (cs,A))(hc:gZ cs) :
  ∃v w' V' own',(To T (a.eval l) (a.eval c)).run P w = .ok v w'/\ui n K w0 G w w' a E L (L++[some A]) V V' own own'/\mK w0 G (L++[some A]) V' (.a (.osl L.length none)) v:=by
 unfold aD5 at h;split at h
 ·rename_i e t by' li ci ht hl hcc
  cases h;simp[gZ]at hc;obtain⟨e1,o1⟩:=hR.valEq hl;obtain⟨e2,o2⟩:=hR.valEq hcc;have hS:=hT T;rw[ht]at hS;obtain⟨_,hu,he,hby⟩:=hS;obtain⟨i,hi,hbi⟩:∃i,P.info? e=some i/\i.bytes=by':=by
   simp_all
  have hcm:ci.toNat<=maxLen:=by have:=(aMF o2).2;grind [maxLen]
  have hdl:(fN t).length=t.size:=(jA default (Good default []) t).length;have hsplit:(aP ci.toNat (fN t)).flatten=(aP li.toNat (fN t)).flatten++(aP (ci.toNat-li.toNat) (fN t)).flatten:=by
   grind [List.replicate_append_replicate]
  have hent:=O7 (w:=w) (sm:=none) (ty:=e) (rest:=(aP (ci.toNat-li.toNat) (fN t)).flatten) (cap:=ci.toNat) (Dn (w0:=w0) (G:=G) t false li.toNat) (by simp) (by grind) hcm (by
   rw[<- hsplit];simp[hdl])
  rw[<- hsplit,List.length_replicate]at hent;refine⟨_,_,_,_,?_,hR.freshN ((dD.refl [] w).alloc _) hent (by simp) (by simp),vB (w0:=w0) (G:=G) (u:=w0) (G':=G) hent⟩;rw[e1,e2];unfold To;simp only[dV,run_underlying hu,cJ,asInt,asIntOf,fP,typeInfo,run_program,hi,qD o1,qD o2];rw[ν (by lia)];simp only[dV,run_askRoom,cJ,he.size_run];by_cases hz:ci.toNat*t.size=0
  ·have hzl:=CI t ci.toNat #[] (λh=>absurd hz h);rw[π hz];simp only[dV,fP,cJ,hzl,newRow];rfl
  ·have hzl:=CI t ci.toNat (fN t).toArray (λ_=>rfl);rw[ν hz];simp only[dV,fP,cJ,he.zero_run,Fq,hzl,newRow];rfl
 lia
theorem O8{cs c:Γ Value}(h:cs.length=c.length):fT cs 0 c=c:=by
 grind [fT]
theorem Sq{c1 c2 c:Γ Value}{o:Nat}(h:o+c.length<=c1.length):fT (c1++c2) o c=fT c1 o c++c2:=by
 unfold fT;rw[List.take_append_of_le_length (by omega),qJ (by omega)];simp
theorem O9{c1 c2 c:Γ Value}{o:Nat}:fT (c1++c2) (c1.length+o) c=c1++fT c2 o c:=by
 unfold fT;rw[AU,eA (by lia),AS,gW (by lia)]
 grind
theorem oT{cs c:Γ Value}{o:Nat}(h:o+c.length<=cs.length):(fT cs o c).length=cs.length:=by
 grind [fT]
theorem IY{w:World}{G:Nat->Prop}{d:aS}{c:Γ Value}(hd:fI w G d.t d.x c):∀ {t:Ty} {x x':t.den} {p:Γ Nat} {cs:Γ Value},Yn t x p d=some x'->fI w G t x cs ->
  ∃o,kY p t=some (o,d.t)/\fI w G t x' (fT cs o c)/\o+c.length<=cs.length
 | t,x,x',[],cs,h,hr=>by
  have h':(if h:d.t=t then some (h ▸ d.x)else none:Option t.den)=some x':=by
   cases t <;> exact h
  split at h'
  ·rename_i ht;have hl:cs.length=c.length:=by rw[hr.length,hd.length,ht]
   refine⟨0,by rw[ht];rfl,?_,by lia⟩
   grind [O8]
  lia
 | .cons a b,x,x',0::p,cs,h,hr=>by
  obtain⟨c1,c2,rfl,h1,h2⟩:=hr;simp[Yn]at h;split at h
  ·rename_i y hy;cases h;obtain⟨o,ho,hr',hl⟩:=IY hd (t:=a) hy h1;refine⟨o,by grind [kY,kT],?_,by grind⟩;rw[Sq hl];exact⟨_,_,rfl,hr',h2⟩
  lia
 | .cons a b,x,x',(k+1)::p,cs,h,hr=>by
  obtain⟨c1,c2,rfl,h1,h2⟩:=hr;simp only[Yn]at h;split at h
  ·rename_i y hy;cases h;obtain⟨o,ho,hr',hl⟩:=IY hd (t:=b) hy h2;have hp:kY ((k+1)::p) (.cons a b)=some (a.size+o,d.t):=by
    grind [kY,kT]
   refine⟨a.size+o,hp,?_,by rw[bS,h1.length];lia⟩;rw[<- h1.length,O9];exact⟨_,_,rfl,h1,hr'⟩
  lia
 | .int _,_,_,0::_,_,h,_=>by cases h
 | .bool,_,_,0::_,_,h,_=>by cases h
 | .fn,_,_,0::_,_,h,_=>by cases h
 | .str,_,_,0::_,_,h,_=>by cases h
 | .sl _,_,_,0::_,_,h,_=>by cases h
 | .unit,_,_,0::_,_,h,_=>by cases h
 | .int _,_,_,(_+1)::_,_,h,_=>by cases h
 | .bool,_,_,(_+1)::_,_,h,_=>by cases h
 | .fn,_,_,(_+1)::_,_,h,_=>by cases h
 | .str,_,_,(_+1)::_,_,h,_=>by cases h
 | .sl _,_,_,(_+1)::_,_,h,_=>by cases h
 | .unit,_,_,(_+1)::_,_,h,_=>by cases h
theorem Oa{w:World}{d:aS}{c:Γ Value}(hf:d.t.flat=true)(hd:iH w d.t d.x c []):∀ {t:Ty} {x x':t.den} {p:Γ Nat} {cs:Γ Value} {bs:Γ Nat},Yn t x p d=some x'->iH w t x cs bs ->
  ∃o,kY p t=some (o,d.t)/\iH w t x' (fT cs o c) bs/\o+c.length<=cs.length
 | t,x,x',[],cs,bs,h,hr=>by
  have h':(if h:d.t=t then some (h ▸ d.x)else none:Option t.den)=some x':=by
   cases t <;> exact h
  split at h'
  ·rename_i ht;have hl:cs.length=c.length:=by rw[hr.length,hd.length,ht]
   have hb:=(hr.flat (w':=w) (G:=λ_=>True) (by lia)).2;refine⟨0,by rw[ht];rfl,?_,by lia⟩
   grind [O8]
  lia
 | .cons a b,x,x',0::p,cs,bs,h,hr=>by
  obtain⟨c1,c2,b1,b2,rfl,rfl,h1,h2⟩:=hr;simp only[Yn]at h;split at h
  ·rename_i y hy;cases h;obtain⟨o,ho,hr',hl⟩:=Oa hf hd (t:=a) hy h1;refine⟨o,by grind [kY,kT],?_,by grind⟩;rw[Sq hl];exact⟨_,_,_,_,rfl,rfl,hr',h2⟩
  lia
 | .cons a b,x,x',(k+1)::p,cs,bs,h,hr=>by
  obtain⟨c1,c2,b1,b2,rfl,rfl,h1,h2⟩:=hr;simp[Yn]at h;split at h
  ·rename_i y hy;cases h;obtain⟨o,ho,hr',hl⟩:=Oa hf hd (t:=b) hy h2;have hp:kY ((k+1)::p) (.cons a b)=some (a.size+o,d.t):=by
    grind [kY,kT]
   refine⟨a.size+o,hp,?_,by rw[bS,h1.length];lia⟩;rw[<- h1.length,O9];exact⟨_,_,_,_,rfl,rfl,h1,hr'⟩
  lia
 | .int _,_,_,0::_,_,_,h,_=>by cases h
 | .bool,_,_,0::_,_,_,h,_=>by cases h
 | .fn,_,_,0::_,_,_,h,_=>by cases h
 | .str,_,_,0::_,_,_,h,_=>by cases h
 | .sl _,_,_,0::_,_,_,h,_=>by cases h
 | .unit,_,_,0::_,_,_,h,_=>by cases h
 | .int _,_,_,(_+1)::_,_,_,h,_=>by cases h
 | .bool,_,_,(_+1)::_,_,_,h,_=>by cases h
 | .fn,_,_,(_+1)::_,_,_,h,_=>by cases h
 | .str,_,_,(_+1)::_,_,_,h,_=>by cases h
 | .sl _,_,_,(_+1)::_,_,_,h,_=>by cases h
 | .unit,_,_,(_+1)::_,_,_,h,_=>by cases h
theorem L4{l c1 c:Γ Value}{o1 o:Nat}(h:o+c.length<=c1.length)(hl:o1+c1.length<=l.length)(hc:∀j v,c1[j]? = some v->l[o1+j]? = some v):fT l (o1+o) c=fT l o1 (fT c1 o c):=by
 have hc1:c1=(l.drop o1).take c1.length:=by
  apply yM
  grind
 unfold fT;have e2:l.drop (o1+o+c.length)=c1.drop (o+c.length)++l.drop (o1+c1.length):=by
  have:l.drop o1=c1++l.drop (o1+c1.length):=by
   grind [fD,pY]
  rw[fS, <- pY,this,qJ (by lia)]
 grind
theorem bQ.turn(hR:bQ n K w0 G w a E L V own){w':World}{r b:Nat}{A A':iE}(hA:bZ L r=some A)(hb:b∈own r)(hk:dD [b] w w')(hs:Zs A A')(hE:iI w0 G w' A' (V r) (own r))
  (hbox:∀ls,A'.ls=some ls->Dk w0 G w' L V A'.t ls (V r)) (hsm:∀q,A'.sm=some q->(∃b off,V r = .slice (some ⟨b,off,none⟩) 1 1)/\(q=true->A'.bor=true/\iI w0 K.G0 w' A' (V r) (own r))):bQ n K w0 G w' a E (jT L r (some A')) V own:=by
 have hag:∀s,n9 L V (jT L r (some A')) V s:=Q9 hA hs V;have hnot:∀s C,bZ L s=some C->s≠r->∀d∈own s,d≠b:=λs C hs hsr d hd e=>by
  subst e;exact hR.apart s r C A hs hA hsr d hd hb
 have hsplit:∀s C,bZ (jT L r (some A')) s=some C->(s≠r/\bZ L s=some C)\/(s=r/\C=A'):=by
  intro s C hs;by_cases hsr:s=r
  ·subst hsr;rw[j0 hA]at hs;lia
  ·exact .inl ⟨hsr,by rwa [dM (kQ hsr)]at hs⟩
 have hGb:∀c,G c->c≠b:=λc hc e=>(hR.good r A hA b hb).2 (e ▸ hc);refine⟨hR.glob,?_,hR.size,hR.defers,λc hc=>dZ (hR.glt c hc) hk.size,λc hc=>(hk.block c (hR.glt c hc) (by grind)).trans (hR.gref c hc),hR.gsub,hR.gold,hR.gup,?_,?_,?_,?_,?_,?_,λi=>sU (hR.env i) λs _=>hag s⟩
 ·refine⟨hk.os.trans hR.kept.os,hk.tape.trans hR.kept.tape,hk.output.trans hR.kept.output,gI hR.kept.size hk.size,λk hk' hkO=>?_⟩;rw[hk.block k (dZ hk' hR.kept.size) (by simp;exact λe=>(hR.good r A hA b hb).1 (e ▸ ⟨hk',hkO⟩))];exact hR.kept.block k hk' hkO
 ·intro s C hs;rcases hsplit s C hs with ⟨e1,e2⟩ | ⟨rfl,rfl⟩
  ·exact(hR.heap s C e2).keep λd hd=>hk.block d (hR.own_lt e2 d hd) (by grind)
  lia
 ·intro s C hs;rcases hsplit s C hs with ⟨e1,e2⟩ | ⟨rfl,rfl⟩
  ·exact hR.good s C e2
  ·exact hR.good s A hA
 ·intro s C hs;rcases hsplit s C hs with ⟨e1,e2⟩ | ⟨rfl,rfl⟩
  ·exact hR.nodup s C e2
  ·exact hR.nodup s A hA
 ·intro s u C D hs hu' hsu;rcases hsplit s C hs with ⟨e1,e2⟩ | ⟨rfl,rfl⟩
  ·rcases hsplit u D hu' with ⟨e3,e4⟩ | ⟨rfl,rfl⟩
   ·exact hR.apart s u C D e2 e4 hsu
   ·exact hR.apart s u C A e2 hA hsu
  ·rcases hsplit u D hu' with ⟨e3,e4⟩ | ⟨rfl,rfl⟩
   ·exact hR.apart s u A D hA e4 hsu
   lia
 ·intro s C ls hs hl;rcases hsplit s C hs with ⟨e1,e2⟩ | ⟨rfl,rfl⟩
  ·refine((hR.boxs s C ls e2 hl).keepB λd off hv=>?_).agree λu _=>hag u;have hd:=(hR.heap s C e2).block hv (aU _);exact hk.block d (hR.own_lt e2 d hd) (by grind)
  ·exact(hbox ls hl).agree λu _=>hag u
 ·intro s C q hs hq;rcases hsplit s C hs with ⟨e1,e2⟩ | ⟨rfl,rfl⟩
  ·obtain⟨g1,g2⟩:=hR.small s C q e2 hq;exact⟨g1,λe=>⟨(g2 e).1,(g2 e).2.keep λd hd=>hk.block d (hR.own_lt e2 d hd) (by grind)⟩⟩
  grind
theorem Zx{w w':World}{A:iE}{v:Value}{bs:Γ Nat}(hent:iI w0 G w A v bs)(hnd:bs.Nodup){i b off m cap po:Nat}{p:Γ Nat}{t:Ty}{z:t.den}{x':A.t.den}{c:Γ Value}{cur cur':Array Value}{ty:TypeId}{fz:Nat×Nat}{ls:Option (Γ gB)}{sm:Option Bool}
  (hi:i<A.xs.length) (hv:v = .slice (some ⟨b,off,none⟩) m cap) (hp:kY p A.t=some (po,t)) (hbf:A.bor=true\/t.flat=true) (hrc:fI w0 G t z c) (hst:Yn A.t (A.xs.getD i A.t.dflt) p ⟨t,z⟩=some x')
  (h5:w.heap[b]? = some (.cells cur ty fz)) (hs2:w'.heap[b]? = some (.cells cur' ty fz)) (hs3:cur'.toList=fT cur.toList (off+i*A.t.size+po) c) (hs4:dD [b] w w'):iI w0 G w' ⟨A.t,A.xs.set i x',A.bor,ls,sm⟩ v bs:=by
 rcases hent.2 with ⟨_,_,h1,_⟩ | ⟨b',off',cap',cur0,ty0,fz0,bss,h1,h2,h3,h4,h5',h6,h7,h8,h9⟩
 ·grind
 ·rw[h1]at hv;simp only[kF,gQ,vH]at hv;obtain⟨⟨q1,q2,_⟩,_,q3⟩:=hv;subst q1 q2 q3;rw[h5]at h5';cases h5';have hib:i<bss.length:=by lia
  obtain⟨cs,hcs1,hcs2,hcs3⟩:=h9 i _ _ (zM A.xs i A.t.dflt hi) (aV hib);have hnew:(∀w,pO w0 G w A.t A.bor (A.xs.getD i A.t.dflt) cs bss[i]->pO w0 G w A.t A.bor x' (fT cs po c) bss[i])/\po+c.length<=cs.length:=by
   cases hbor:A.bor with
   | true =>
    rw[hbor]at hcs3;obtain⟨o,e1,e2,e3⟩:=IY (d:=⟨t,z⟩) hrc hst hcs3.1;rw[hp]at e1;cases e1;exact⟨λw hh=>⟨e2,hh.2⟩,e3⟩
   | false =>
    rw[hbor]at hcs3 hbf;have hfl:t.flat=true:=hbf.resolve_left (by lia);obtain⟨o,e1,e2,e3⟩:=Oa (d:=⟨t,z⟩) hfl (hrc.own hfl (w':=w)) hst hcs3;rw[hp]at e1;cases e1;refine⟨λw' hh=>?_,e3⟩;obtain⟨o',e1',e2',_⟩:=Oa (d:=⟨t,z⟩) hfl (hrc.own hfl (w':=w')) hst hh;rw[hp]at e1';cases e1';exact e2'
  obtain⟨hnw,hol⟩:=hnew;have hsz:i*A.t.size+A.t.size<=cap'*A.t.size:=by
   have:(i+1)*A.t.size<=cap'*A.t.size:=cV _ (by lia)
   lia
  have hcl:cur.toList.length=cur.size:=iB;have hcurlen:cur'.size=cur.size:=by
   have:=congrArg aF hs3
   grind [oT]
  have hnb:∀d∈bss.flatten,d≠b':=λd hd e=>by
   grind
  refine⟨by grind,.inr ⟨b',off',cap',cur',ty,fz,bss,by grind,by grind,h3,by lia,hs2,by lia,by grind,h8,λj y bj hy hbj=>?_⟩⟩;have hkeep:∀d∈bj,w'.heap[d]? = w.heap[d]? := λd hd=>by
   have hm:=qM hbj d hd;exact hs4.block d (hent.lt d (by grind)) (by grind)
  have hkeepR:∀ {yy:A.t.den} {cc:Γ Value},pO w0 G w A.t A.bor yy cc bj->pO w0 G w' A.t A.bor yy cc bj:=λhh=>Zd (λ_ h=>h) (λ_ _=>rfl) hkeep hh;have hb2:off'+i*A.t.size+cs.length<=cur.toList.length:=by lia
  have hcsg:∀j v,cs[j]? = some v->cur.toList[off'+i*A.t.size+j]? = some v:=λj v hj=>by grind
  have hs3':cur'.toList=fT cur.toList (off'+i*A.t.size) (fT cs po c):=by
   rw[hs3];exact L4 hol hb2 hcsg
  have hspl:(fT cs po c).length=cs.length:=oT hol;simp only at hy;rw[List.getElem?_set]at hy;by_cases hij:i=j
  ·subst hij;rw[π rfl,π hi]at hy;cases hy;rw[aV hib]at hbj;cases hbj;refine⟨fT cs po c,by lia,λk v hk=>?_,hkeepR (hnw w hcs3)⟩;have hk':k<cs.length:=by grind
   rw[<- eK,hs3',fT,cK,cY (by grind)];rw[c6 (by grind)]
   grind
  ·rw[ν hij]at hy;obtain⟨ds,e1,e2,e3⟩:=h9 j y bj hy hbj;refine⟨ds,e1,λk v hk=>?_,hkeepR e3⟩;have hk':k<A.t.size:=by grind
   show cur'[off'+j*A.t.size+k]? = some v;have:=e2 k v hk;rw[<- eK]at this;rw[<- eK,hs3',fT,hspl,hcs1];rcases Nat.lt_or_gt_of_ne hij with hlt | hgt
   ·have hle:(i+1)*A.t.size<=j*A.t.size:=cV _ hlt;rw[fZ,Dd]at hle;rw[cY (by grind),wV]
    grind
   ·have hle:(j+1)*A.t.size<=i*A.t.size:=cV _ hgt;rw[fZ,Dd]at hle;rw[cK,c6 (by grind),nU,π (by lia)]
    lia
def tgt:PV->Option Nat
 | .a (.optr r _ _)=>some r
 | .a (.bptr r _ _)=>some r
 | _=>none
theorem aBl{tab:Γ TI}(hT:kW P tab)(hR:bQ n K w0 G w a E L V own){T:TypeId}{x y:Operand}{L':bM}(h:aBk tab L T (opnd E x) (opnd E y)=some L') :
  ∃w',(Lj T (a.eval x) (a.eval y)).run P w = .ok () w'/\bQ n K w0 G w' a E L' V own/\∃r,tgt (opnd E x)=some r/\dD (own r) w w':=by
 unfold aBk at h;split at h
 ·rename_i r i p B hx hy;split at h
  ·rename_i t A ht hA;split at h
   ·rename_i z hbf hls hz;split at h
    ·rename_i x' hst;cases h;simp only[aT,Bool.or_eq_true]at hbf;obtain⟨hbf,hsmok⟩:=hbf;obtain⟨A',hA',hi,b,off,m,cap,po,t',hv,hp,he⟩:=hR.atom hx;rw[hA]at hA';cases hA';obtain⟨c,hrc,hvc⟩:=Bt (qP (hR.atom hy) hz) hz;have hcl:=hrc.length;have hent:=hR.heap r A hA;have hb:b∈own r:=by
      rcases hent.2 with ⟨_,_,h1,_⟩ | ⟨b',off',cap',cur,ty,fz,bss,h1,h2,h3,h4,h5,h6,h7,h8,h9⟩
      all_goals grind
     -- the place of the part
     have hpt:t'=t/\po+t.size<=A.t.size:=by
      obtain⟨cs,bi,hc,ho,_⟩:=Ud hent hv (zM A.xs i A.t.dflt hi);revert ho;unfold pO;cases A.bor with
      | true =>
       intro ho;obtain⟨o,e1,e2,e3⟩:=IY (d:=⟨t,z⟩) hrc hst ho.1;rw[hp]at e1;cases e1;rw[ho.1.length,hcl]at e3
       lia
      | false =>
       intro ho;obtain⟨o,e1,e2,e3⟩:=IY (w:=w) (G:=λ_=>True) (d:=⟨t,z⟩) (hrc.keep (w':=w) (λ_ _=>trivial) (λc hc=>hR.gref c hc)) hst (ho.read (λ_ _=>trivial));rw[hp]at e1;cases e1;rw[ho.length,hcl]at e3
       lia
     obtain⟨rfl,hps⟩:=hpt;rcases hent.2 with ⟨_,_,h1,_⟩ | ⟨b',off',cap',cur,ty,fz,bss,h1,h2,h3,h4,h5,h6,h7,h8,h9⟩
     ·grind
     ·rw[h1]at hv;simp only[kF,gQ,vH]at hv;obtain⟨⟨q1,q2,_⟩,_,q3⟩:=hv;subst q1 q2 q3;have hsz:i*A.t.size+A.t.size<=cap'*A.t.size:=by
       have:(i+1)*A.t.size<=cap'*A.t.size:=cV _ (by lia)
       lia
      obtain⟨w',cur',hs1,hs2,hs3,hs4,hs5⟩:=xR (P:=P) c w b' (off'+i*A.t.size+po) 0 cur ty fz h5 h6.1 (by lia) hrc.one;rw[oJ]at hs3;refine⟨w',?_,?_,r,by rw[hx];rfl,hs4.mono λk hk=>by grind⟩
      ·unfold Lj;rw[he,hvc];have hvs:(gY t' c).cells.toList=c:=sR hrc;have hvz:(gY t' c).cells.size=t'.size:=by grind
       simp only[tX,dV,fP,cJ,storeVar,(TI.ty_ok (hT T) ht).size_run,hvz,hvs]
       lia
      ·refine hR.turn hA hb hs4 ⟨rfl,by simp,λl hl=>by lia⟩ (Zx hent (hR.nodup r A hA) hi h1 hp hbf hrc hst h5 hs2 hs3 hs4) (λl hl=>by lia) λq hq=>?_;have hq:A.sm=some q:=hq;obtain⟨g1,g2⟩:=hR.small r A q hA hq;refine⟨g1,λe=>⟨(g2 e).1,?_⟩⟩;subst e;have hfl:t'.flat=true:=by grind [aZR]
       exact Zx (g2 rfl).2 (hR.nodup r A hA) hi h1 hp (.inr hfl) (hrc.flat hfl) hst h5 hs2 hs3 hs4
    lia
   lia
  lia
 ·rename_i r o t' B hx hy;split at h
  ·rename_i t A ht hA;split at h
   ·rename_i ls l htt hls hl;obtain rfl:=of_decide_eq_true htt;cases h;obtain⟨A',ls',b,off,hA',hls',hv,he,hsz⟩:=hR.atom hx;rw[hA]at hA';cases hA';rw[hls]at hls';cases hls';obtain⟨c,hvc,ell,hcl,hrl,hvs⟩:=Uh (hR.atom hy) hl;obtain⟨b1,off1,cs,e1,e3,e4,e5,e6⟩:=hR.boxs r A ls hA hls;rw[hv]at e1;cases e1;have hent:=hR.heap r A hA;have hb:=hent.block hv (aU _);rcases hent.2 with ⟨_,h1,_,_⟩ | ⟨b',off',cap',cur,ty,fz,bss,h1,h2,h3,h4,h5,h6,h7,h8,h9⟩
    ·lia
    ·rw[hv]at h1;simp only[kF,gQ,vH]at h1;obtain⟨⟨q1,q2,_⟩,q4,q3⟩:=h1;subst q1 q2 q3;have hx0:A.xs=[]:=bN q4.symm;have hcsl:cs.length=A.t.size:=e3;obtain⟨w',cur',hs1,hs2,hs3,hs4,hs5⟩:=xR (P:=P) c w b (off+o) 0 cur ty fz h5 h6.1 (by lia) hrl.one;rw[oJ]at hs3;have hcurl:cur.toList.length=cur.size:=iB;have hcurlen:cur'.size=cur.size:=by
      have:=congrArg aF hs3
      grind [oT]
     refine⟨w',?_,?_,r,by rw[hx];rfl,hs4.mono λk hk=>by grind⟩
     ·unfold Lj;rw[he];have hvz:(a.eval y).cells.size=t'.size:=by grind
      simp only[tX,dV,fP,cJ,storeVar,(TI.ty_ok (hT T) ht).size_run,hvz,hvs]
      lia
     ·have hE:iI w0 G w' ⟨A.t,A.xs,A.bor,some (Fe ls o l),A.sm⟩ (V r) (own r):=by
       refine⟨hent.1,.inr ⟨b,off,1,cur',ty,fz,bss,by lia,by lia,h3,by lia,hs2,by lia,h7,h8,λi y bi hy=>?_⟩⟩
       grind
      refine hR.turn hA hb hs4 ⟨rfl,rfl,λ_ _=>⟨_,rfl⟩⟩ hE (λls2 h2=>?_) (λq hq=>?_)
      ·cases h2;refine⟨b,off,fT cs o c,hv,by grind [oT],by grind [IN],λj v hj=>?_,Sl e6 hrl⟩;have hjl:j<cs.length:=by
        grind [eH,oT]
       simp only[iK, hs2];show cur'[off+j]? = some v;have hcs:cs=(cur.toList.drop off).take cs.length:=by
        apply yM;intro k;rw[nU];by_cases hk:k<cs.length
        ·rw[π hk,wV,aV hk];have:=e5 k _ (aV hk);simp only[iK, h5]at this;rw[eK];exact this.symm
        grind
       have hcg:∀j v,cs[j]? = some v->cur.toList[off+j]? = some v:=λj v hj=>by
        grind
       rw[<- eK,hs3,L4 (by lia) (by lia) hcg];have hlen:(fT cs o c).length=cs.length:=oT (by lia);rw[fT,cK,cY (by grind),c6 (by grind)]
       grind
      ·have hq:A.sm=some q:=hq;obtain⟨⟨b2,off2,g1⟩,_⟩:=hR.small r A q hA hq
       lia
   lia
  lia
 lia
end
section
variable {P:Program}
theorem aMG(n:Nat):aHJ (n,n+1) n:=λj hj h=>by lia
theorem MH{w : World}{T T2 ty e : TypeId}{i : TypeInfo}{d : TypeDesc}{t : Ty}(hT : P.underlying T = some (.slice e))(hT2 : P.underlying T2 = some d)(hd : ∀ k, d ≠ .int k)(hi : P.info? e = some i)(he : rL P e t)(hsz : 0 < t.size)
    {adr:Option Addr} {len cap m:Nat} {x:Value} {olds news:Γ Value} (hx : ∀w':World, w'.heap = w.heap->(eQ t.size m x).run P w' = .ok news.toArray w') (hxl : ∀w', (rU x).run P w' = .ok m w')
    (ho : ∀w':World, w'.heap = w.heap->(eQ t.size len (.slice adr len cap)).run P w' = .ok olds.toArray w') (hol:olds.length = len*t.size) (hnl:news.length = m*t.size) (h1 : ∀v ∈ news, v.oneCell' = true)
    (hbound:(len+m)*i.bytes<=140737488355328) (hml:len+m<=maxLen)
    (hadr:cap = 0 \/ ∃b o cur ct fz, adr = some ⟨b, o, none⟩ /\ w.heap[b]? = some (.cells cur ct fz) /\ OV t.size fz cur.size /\ o+cap*t.size<=cur.size) :
    ∃v' w', (iP #[T, T2] ty #[.slice adr len cap, x]).run P w = .ok v' w' /\
      ((len + m <= cap /\ ((cap = 0 /\ v' = .slice adr 0 0 /\ w' = w /\ m = 0 /\ len = 0) \/
          cap ≠ 0 /\ ∃b o cur ct fz cur', adr = some ⟨b, o, none⟩ /\ w.heap[b]? = some (.cells cur ct fz) /\ OV t.size fz cur.size /\ o+cap*t.size<=cur.size /\ v' = .slice (some ⟨b, o, none⟩) (len+m) cap /\ w'.heap[b]? = some (.cells cur' ct fz) /\ cur'.toList = fT cur.toList (o+len*t.size) news /\ dD [b] w w')) \/
       (cap<len+m /\ ∃nc rest, v' = .slice (some ⟨w.heap.size, 0, none⟩) (len+m) nc /\ len+m<=nc /\ nc<=maxLen /\ w' = w.drew.alloc (.cells (olds ++ news ++ rest).toArray e) /\ (olds ++ news ++ rest).length = nc*t.size)):=by
  have hzero:(match d with | .int _=>true | _=>false) = false:=by
    simp
  have jT : ∀w, (sizeOf e).run P w = .ok t.size w:=he.size_run;by_cases hroom:len+m<=cap
  · by_cases hcap:cap = 0
    · subst hcap
      have e0:m = 0:=by lia
      have e1:len = 0:=by lia
      subst e0 e1;have en:news = []:=bN (by lia);subst en;refine⟨.slice adr 0 0, w, ?_, .inl ⟨hroom, .inl ⟨rfl, rfl, rfl, rfl, rfl⟩⟩⟩;unfold iP;simp only[run_underlying hT, run_underlying hT2, jT, hzero, hxl, hx w rfl, dV, cJ];cases adr <;> simp[run_underlying hT, run_underlying hT2, jT, hzero, hxl, hx w rfl, storeCells]
    · obtain⟨b, o, cur, ct, fz, rfl, hb, hf, hfit⟩:=hadr.resolve_left hcap
      have hle:(len+m)*t.size<=cap*t.size:=cV _ hroom;rw[fZ]at hle;obtain⟨w', cur', s1, s2, s3, s4, s5⟩:=xR (P:=P) news w b (o+len*t.size) 0 cur ct fz hb hf.1 (by lia) h1;refine⟨_, w', ?_, .inl ⟨hroom, .inr ⟨hcap, b, o, cur, ct, fz, cur', rfl, hb, hf, hfit, rfl, s2, by lia, s4⟩⟩⟩;unfold iP;simp[run_underlying hT, run_underlying hT2, jT, hzero, hxl, hx w rfl, hroom, fX, s1]
  · have hlt:cap<len+m:=by lia
    have hge:=grownCap_ge w (len+m) cap e;have hcm:=grownCap_le_maxLen w (len+m) cap e hml;have hdl:(fN t).length = t.size:=(jA default (Good default []) t).length;have hzl:=CI t (grownCap w (len+m) cap e-(len+m)) (fN t).toArray (λ_=>rfl);refine⟨.slice (some ⟨w.heap.size, 0, none⟩) (len+m) (grownCap w (len+m) cap e), _, ?_, .inr ⟨hlt, grownCap w (len+m) cap e, (aP (grownCap w (len+m) cap e-(len+m)) (fN t)).flatten, rfl, hge, hcm, rfl, ?_⟩⟩
    · have hfit:=growslice_fits hlt hbound
      have h2 : ¬(((len+m:Nat):Int) > 9223372036854775807):=by grind [maxLen]
      have h2' : ¬((9223372036854775807:Int)<(len:Int)+(m:Int)):=by lia
      have hzc:gS (gY t (fN t)).cells (grownCap w (len+m) cap e-(len+m)) = (aP (grownCap w (len+m) cap e-(len+m)) (fN t)).flatten.toArray:=by
        grind [Fq, gS, List.size_toArray]
      have hforced:(Question.appendCap (len+m) cap e).forced = false:=rfl;have hfit' : ¬(281474976710656<Builtin.nextslicecap (len+m) cap*i.bytes):=by lia
      have ho':=ho w.drew rfl;have hx':=hx w.drew rfl;have hgc:(Question.appendCap (len+m) cap e).cut (w.tape w.drawn (.appendCap (len+m) cap e)) = grownCap w (len+m) cap e:=rfl;have hdr:({ w with drawn:=w.drawn+1 } : World) = w.drew:=rfl;unfold iP;simp[run_underlying hT, run_underlying hT2, jT, hzero, hxl, hroom, typeInfo, hi, h2', hfit', hforced, hgc, hdr, ho', hx', he.zero_run, hzc, newRow]
    · simp only[bS, hol, hnl, List.length_flatten]
      simp[hdl];rw[<- fZ, <- fZ]
      grind
theorem Ac{w:World}{sz m b o len cap:Nat}{cs:Γ Value}(hl:cs.length=m*sz)(hc:kZ w b o cs):(eQ sz m (.slice (some ⟨b,o,none⟩) len cap)).run P w = .ok cs.toArray w:=by
 have:=run_loadCells_list (P:=P) w ⟨b,o,none⟩ cs (λj v hj=>by rw[fX];exact hc j v hj)
 grind [eQ]
end
theorem oA.row{w:World}{G:Nat->Prop}{α:Type}{R:α->Γ Value->Prop}{sz:Nat}{xs:Γ α}{v:Value}(h:oA w G R sz xs v) :
  ∃css bss,AZ (λy c b=>R y c/\b=[]) sz xs css bss/\bss.flatten=[]/\((∃ad,v = .slice ad 0 0/\xs=[])\/∃b off cap,v = .slice (some ⟨b,off,none⟩) xs.length cap/\G b/\kZ w b off css.flatten):=by
 rcases h.2 with ⟨ad,rfl,rfl⟩ | ⟨b,off,cap,rfl,h1,h2,h3,h4⟩
 ·exact⟨[],[],⟨rfl,rfl⟩,rfl,.inl ⟨ad,rfl,rfl⟩⟩
 ·obtain⟨css,hr,hc⟩:=aBi (R:=λy c b=>R y c/\b=[]) (sz:=sz) (f:=λj=>w.cell? ⟨b,j,none⟩) xs (aP xs.length []) off (by simp) (λi y bi hy hb=>by
   grind)
  exact⟨css,_,hr,by simp,.inr ⟨b,off,cap,rfl,h3,hc⟩⟩
theorem Aa.row{w:World}{α:Type}{R:α->Γ Value->Γ Nat->Prop}{sz:Nat}{xs:Γ α}{v:Value}{bs:Γ Nat}(h:Aa w R sz xs v bs) :
  ∃css bss,AZ R sz xs css bss/\((∃ad,v = .slice ad 0 0/\xs=[]/\bs=[])\/∃b off cap cur ty fz,v = .slice (some ⟨b,off,none⟩) xs.length cap/\xs.length<=cap/\cap<=maxLen/\off+cap*sz<=cur.size /\
   w.heap[b]? = some (.cells cur ty fz)/\OV sz fz cur.size/\bs=b::bss.flatten/\∀j c,css.flatten[j]? = some c->cur[off+j]? = some c):=by
 rcases h.2 with ⟨ad,rfl,rfl,rfl⟩ | ⟨b,off,cap,cur,ty,fz,bss,rfl,h1,h2,h3,h4,h5,h6,h7,h8⟩
 ·exact⟨[],[],⟨rfl,rfl⟩,.inl ⟨ad,rfl,rfl,rfl⟩⟩
 ·obtain⟨css,hr,hc⟩:=aBi (R:=R) (sz:=sz) (f:=λj=>cur[j]?) xs bss off h6 (λi y bi hy hb=>h8 i y bi hy hb);exact⟨css,bss,hr,.inr ⟨b,off,cap,cur,ty,fz,rfl,h1,h2,h3,h4,h5,h7,hc⟩⟩
def aZS:(t:Ty)->Δ->Option (Γ t.den)
 | .int .u8,s=>some (cD s)
 | _,_=>none
def aZT(tab:Γ TI)(L:bM)(T2:TypeId)(t:Ty):c7->Option (Γ t.den)
 | .val (.string s)=>match jO tab T2 with
  | .scal .str=>aZS t s
  | _=>none
 | A=>match jO tab T2 with
  | .slice _ _ _=>aHY L (.sl t) A
  | _=>none
def aZU(L:bM)(t:Ty):c7->Option (Γ t.den)
 | .sl t' xs=>if h:t'=t then some (qE h xs)else none
 | .osl r rg=>match bZ L r with
  | some A=>match A.bor with
   | true=>if h:A.t=t then some (BU rg (qE h A.xs))else none
   | false=>none
  | none=>none
 | .val (.slice none _ _)=>some []
 | _=>none
def aSg(tab:Γ TI)(L:bM)(T2:TypeId)(t:Ty)(X:c7):Option (Γ t.den) :=
 match t.flat with
 | true=>aZT tab L T2 t X
 | false=>match jO tab T2 with
  | .slice _ _ _=>aZU L t X
  | _=>none
def aPO(A:iE):Bool:=A.t.flat||(A.bor||A.xs.isEmpty)
def aSh(tab:Γ TI)(E:gH)(L:bM)(T T2:TypeId):PV->PV->Option (Γ Prop×PV×gH×bM)
 | .a S,.a X=>match jO tab T with
  | .slice _ t by'=>match pJ 1 t.size&&pJ 1 by',aSg tab L T2 t X with
   | true,some ys=>match S with
    | .val (.slice none _ _)=>some ([ys.length*by'<=140737488355328],.a (.osl L.length none),E,L++[some ⟨t,ys, !t.flat,none,none⟩])
    | .osl r rg=>match bZ L r with
     | some A=>if h:t=A.t then(match aPO A with
      | true=>some ([((BU rg A.xs).length+ys.length)*by'<=140737488355328],.a (.osl r none),O1 r E,y5 r (jT L r (some ⟨A.t,BU rg A.xs++qE h ys,A.bor || !A.t.flat,none,none⟩)))
      | false=>none)else none
     | none=>none
    | _=>none
   | _,_=>none
  | _=>none
 | _,_=>none
section
variable {P:Program} {n:Nat} {K:fG} {G:Nat->Prop} {w0 w:World} {a:Act} {E:gH} {L:bM} {V:Nat->Value} {own:Nat->Γ Nat}
theorem bQ.replace(hR:bQ n K w0 G w a E L V own){w':World}(hk:dD K.O K.w0 w')(hsz:w.heap.size<=w'.heap.size){r:Nat}{A A':iE}(hA:bZ L r=some A)(hold:∀c,c<w.heap.size->c ∉ own r->w'.heap[c]? = w.heap[c]?)
  {v':Value} {bs':Γ Nat} (hls:A'.ls=none) (hsm:A'.sm=none) (hE:iI w0 G w' A' v' bs') (hn:bs'.Nodup) (hg:∀b∈bs',Out K G b) (hd:∀s C,bZ L s=some C->s≠r->∀b∈own s,b ∉ bs') :
  bQ n K w0 G w' a (O1 r E) (y5 r (jT L r (some A'))) (FA V r v') (FA own r bs'):=by
 have hkill:pQ r A'=A':=by grind [pQ]
 have hsplit:∀s C,bZ (y5 r (jT L r (some A'))) s=some C->(s≠r/\∃D,bZ L s=some D/\C=pQ r D)\/(s=r/\C=A'):=by
  intro s C hs;rw[oS]at hs;by_cases hsr:s=r
  ·subst hsr;rw[j0 hA]at hs;grind
  ·rw[dM (kQ hsr)]at hs;cases hD:bZ L s with
   | none=>grind
   | some D=>grind
 have hag:∀s,s≠r->n9 L V (y5 r (jT L r (some A'))) (FA V r v') s:=λs hs=>by
  refine⟨dF _ _ hs,λB hB=>⟨pQ r B,?_,O2 r B,Q7 r B,λls h=>⟨_,IU.1 ls h⟩⟩⟩;rw[oS,dM (kQ hs),hB];rfl
 have hkeep:∀s D,bZ L s=some D->s≠r->∀b∈own s,w'.heap[b]? = w.heap[b]? := λs D hD hs b hb=>hold b (hR.own_lt hD b hb) (hR.apart s r D A hD hA hs b hb);have hGk:∀c,G c->w'.heap[c]? = w.heap[c]? := λc hc=>hold c (hR.glt c hc) λhm=>(hR.good r A hA c hm).2 hc;refine⟨hR.glob,hk,hR.size,hR.defers,λc hc=>dZ (hR.glt c hc) hsz,λc hc=>(hGk c hc).trans (hR.gref c hc),hR.gsub,hR.gold,hR.gup,?_,?_,?_,?_,?_,?_,λi=>?_⟩
 ·intro s C hs;rcases hsplit s C hs with ⟨e1,D,e2,rfl⟩ | ⟨rfl,rfl⟩
  ·rw[dF _ _ e1,dF _ _ e1];exact Ke.2 ((hR.heap s D e2).keep (hkeep s D e2 e1))
  grind [eX]
 ·intro s C hs;rcases hsplit s C hs with ⟨e1,D,e2,rfl⟩ | ⟨rfl,rfl⟩
  ·rw[dF _ _ e1];exact hR.good s D e2
  grind [eX]
 ·intro s C hs;rcases hsplit s C hs with ⟨e1,D,e2,rfl⟩ | ⟨rfl,rfl⟩
  ·rw[dF _ _ e1];exact hR.nodup s D e2
  grind [eX]
 ·intro s u C D hs hu hsu;rcases hsplit s C hs with ⟨e1,C',e2,rfl⟩ | ⟨rfl,rfl⟩
  ·rcases hsplit u D hu with ⟨e3,D',e4,rfl⟩ | ⟨rfl,rfl⟩
   ·rw[dF _ _ e1,dF _ _ e3];exact hR.apart s u C' D' e2 e4 hsu
   grind [dF,eX]
  ·rcases hsplit u D hu with ⟨e3,D',e4,rfl⟩ | ⟨rfl,rfl⟩
   ·grind [eX,dF]
   lia
 ·intro s C ls hs hl;rcases hsplit s C hs with ⟨e1,D,e2,rfl⟩ | ⟨rfl,rfl⟩
  ·obtain⟨l0,h0,rfl⟩:=IU.2 ls hl;rw[dF _ _ e1,O2];refine(((hR.boxs s D l0 e2 h0).keepB λd off hv=>?_).kill r).agree λu hu=>hag u λe=>?_
   ·exact hkeep s D e2 e1 d ((hR.heap s D e2).block hv (aU _))
   grind [IV]
  lia
 ·intro s C q hs hq;rcases hsplit s C hs with ⟨e1,D,e2,rfl⟩ | ⟨rfl,rfl⟩
  ·rw[ue]at hq;obtain⟨g1,g2⟩:=hR.small s D q e2 hq;rw[dF _ _ e1,dF _ _ e1];exact⟨g1,λe=>⟨by grind [Zq],Ke.2 ((g2 e).2.keep (hkeep s D e2 e1))⟩⟩
  lia
 ·rw[Q6];exact sU (Zn r (hR.env i)) λs hs=>hag s λe=>Un.1 (e ▸ hs)
theorem Kh{r:Nat}{A:iE}{v:Value}{bs:Γ Nat}{G':Nat->Prop}{u u':World}{L:bM}{V:Nat->Value}(hA:bZ L r=some A)(hV:V r=v)(h:iI u G' u' A v bs):nE w0 G L V (.osl r none) v:=by
 refine⟨A,hA,λ_=>hV.symm,?_⟩;rw[hV];refine⟨aY _,aU _,?_⟩;rcases h.2 with ⟨ad,h1,h2,_⟩ | ⟨b,off,cap,cur,ty,fz,bss,h1,h2,h3,h4,h5,h6,h7,h8,h9⟩
 ·grind
 ·exact .inr ⟨b,off,A.xs.length,cap,off,cap,h1,by rw[h1];rfl,by grind [Ht],.inl ⟨by simp[zJ],by simp[zJ]⟩⟩
theorem un{w:World}{G G':Nat->Prop}{t:Ty}{x:t.den}{cs:Γ Value}(h:fI w G t x cs)(hf:t.flat=true)(bor:Bool)(u u':World):pO u G' u' t bor x cs []:=by
 cases bor with
 | true=>exact⟨h.flat hf,rfl⟩
 | false=>exact h.own hf
theorem IZ(sz:Nat)(ad:Option Addr)(w:World):(eQ sz 0 (.slice ad 0 0)).run P w = .ok #[] w:=by
 cases ad with
 | none=>rfl
 | some ad =>
  have:=run_loadCells_list (P:=P) w ad [] (λj v hj=>by grind)
  grind [eQ]
def oA.mapR{w:World}{G G':Nat->Prop}{α:Type}{R R':α->Γ Value->Prop}{sz:Nat}{xs:Γ α}{v:Value}(h:oA w G R sz xs v)(hG:∀b,G b->G' b)(hR:∀x cs,R x cs->R' x cs):oA w G' R' sz xs v :=
 oA.keep hR hG (λ_ _=>rfl) h
theorem aFB{w w0:World}{G G':Nat->Prop}{t e:Ty}(h:t=e){xs:Γ t.den}{v:Value}(hx:oA w G' (fI w0 G t) t.size xs v):oA w G' (fI w0 G e) e.size (qE h xs) v:=by
 subst h;exact hx
theorem aFC{tab:Γ TI}(hT:kW P tab)(hR:bQ n K w0 G w a E L V own){T2:TypeId}{t:Ty}{X:c7}{x:Operand}(hx:opnd E x = .a X){ys:Γ t.den}(h:aSg tab L T2 t X=some ys) :
  ∃d css bss,P.underlying T2=some d/\(∀k,d ≠ .int k)/\bss.flatten=[]/\(∀w1 bor,(t.flat=true\/bor=true)->AZ (pO w0 G w1 t bor) t.size ys css bss)/\(∀w':World,w'.heap=w.heap->(eQ t.size ys.length (a.eval x)).run P w' = .ok css.flatten.toArray w')/\∀w',(rU (a.eval x)).run P w' = .ok ys.length w':=by
 have slice:∀ {e:TypeId} {t':Ty} {b:Nat},jO tab T2 = .slice e t' b->oA w (λ_=>True) (fI w0 G t) t.size ys (a.eval x)->∃d css bss,P.underlying T2=some d/\(∀k,d ≠ .int k)/\bss.flatten=[]/\(∀w1 bor,(t.flat=true\/bor=true)->AZ (pO w0 G w1 t bor) t.size ys css bss) /\
   (∀w':World,w'.heap=w.heap->(eQ t.size ys.length (a.eval x)).run P w' = .ok css.flatten.toArray w')/\∀w',(rU (a.eval x)).run P w' = .ok ys.length w':=by
  intro e t' b ht hr;have hS:=hT T2;rw[ht]at hS;obtain⟨css,bss,h1,h2,h3⟩:=oA.row hr;refine⟨_,css,bss,hS.2.1,(λk h=>by lia),h2,λw1 bor hfb=>h1.mono (λy c b hb hh=>?_),?_,?_⟩
  ·rw[hh.2];unfold pO;cases bor with
   | true=>lia
   | false=>exact hh.1.own (hfb.resolve_right (by lia))
  ·intro w' hw';rcases h3 with ⟨ad,e1,e2⟩ | ⟨b',off,cap,e1,e2,e3⟩
   ·have:css=[]:=by rw[e2]at h1;exact h1.1
    grind [IZ]
   ·rw[e1];exact Ac h1.len.2.2 (e3.keep (by lia))
  ·intro w';rcases h3 with ⟨ad,e1,e2⟩ | ⟨b',off,cap,e1,e2,e3⟩
   ·rw[e1,e2];rfl
   ·rw[e1];rfl
 unfold aSg at h;split at h
 ·rename_i hf;unfold aZT at h;split at h
  ·rename_i s;split at h
   ·rename_i ht;have hS:=hT T2;rw[ht]at hS;obtain⟨e1,e2⟩:=hR.valEq hx;unfold aZS at h;split at h
    ·cases h;have hrow:∀(l:Γ UInt8) (w1:World) (bor:Bool),AZ (pO w0 G w1 (.int .u8) bor) (Ty.int YZ).size (l.map λb=>(b.toNat:Int)) (l.map λb=>[.int .u8 (b.toNat:Int)]) (l.map λ_=>[]):=by
      intro l w1 bor
      induction l with
      | nil=>exact⟨rfl,rfl⟩
      | cons b l ih =>
       refine⟨_,_,_,_,rfl,rfl,rfl,?_,ih⟩;refine un (w:=w1) (G:=λ_=>True) (t := .int .u8) (x:=(b.toNat:Int)) (cs:=[.int .u8 (b.toNat:Int)]) ⟨rfl,?_⟩ rfl bor _ _;have hb:=b.toNat_lt
       grind [aX,qH,qI,oI,nT]
     refine⟨_,_,_,rL.str_und hS,(λk h=>by lia),by simp,λw1 bor _=>hrow s.data.toList w1 bor,λw' _=>?_,λw'=>?_⟩
     ·rw[e1];have hl:(cD s).length=s.size:=by simp[cD]
      simp only[eQ,hl,fP]
      congr 1
      have hs:s.extract 0 s.size=s:=by simp
      apply Array.toList_inj.1;simp
      induction s.data.toList with
      | nil=>rfl
      | cons b l ih=>grind
     ·rw[e1];simp[cD,rU]
    lia
   lia
  ·split at h
   ·rename_i e t' b ht;have hr:=Uk hR (dD.refl [] w) (G':=λ_=>True) (λ_ _=>trivial) (hR.atom hx) h (λ_ _ _ _=>trivial);exact slice ht (oA.mapR hr (λ_ h=>h) (λy c hh=>hh.flat hf))
   lia
 ·split at h
  ·rename_i e t' b ht;refine slice ht ?_;have hX:=hR.atom hx;unfold aZU at h;split at h
   ·rename_i t2 xs;split at h
    ·cases h;have h1:oA w (λ_=>True) (fI w0 G t2) t2.size xs (a.eval x):=oA.keep (λ_ _ h=>h) (λ_ _=>trivial) hR.gref hX
     grind [aFB]
    lia
   ·rename_i r rg;split at h
    ·rename_i A hA;split at h
     ·split at h
      ·rename_i he;cases h;subst he;obtain⟨B,hB,_,hs⟩:=hX;rw[hA]at hB;cases hB;have h1:oA w (λ_=>True) (fI w0 G A.t) A.t.size A.xs (V r):=Aa.read (λy c bi _ hr=>by
        grind [pO]) (λ_ _=>trivial) (hR.heap r A hA)
       cases rg with
       | none=>exact h1.whole hs
       | some q=>exact h1.sub (nn:=0) hs
      lia
     lia
    lia
   ·cases h;obtain⟨e1,⟨e3,e4⟩⟩:=hX;subst e3 e4;rw[e1];exact⟨aY _,.inl ⟨_,rfl,rfl⟩⟩
   lia
  lia
theorem xS{r:Nat}{A A':iE}(hA:bZ L r=some A)(hls:A'.ls=none):bZ (y5 r (jT L r (some A'))) r=some A':=by
 grind [oS,j0,pQ]
theorem AZ.nilM{α:Type}{R R':α->Γ Value->Γ Nat->Prop}{sz:Nat}:∀ {ys:Γ α} {css:Γ (Γ Value)} {bss:Γ (Γ Nat)},(∀y c b,y∈ys->R y c b->R' y c [])->AZ R sz ys css bss->∃bss',AZ R' sz ys css bss'/\bss'.flatten=[]
 | [],css,_,_,h=>⟨[],⟨h.1,rfl⟩,rfl⟩
 | y::ys,_,_,hm,⟨c,cs,b,bs,h1,h2,h3,h4,h5⟩=>by
  obtain⟨bs',h6,h7⟩:=h5.nilM (λy c b hy=>hm y c b (aM _ hy));exact⟨[]::bs',⟨c,cs,[],bs',h1,rfl,h3,hm _ _ _ (aR ..) h4,h6⟩,by grind⟩
theorem Bv(w:World):w.drew.heap.size=w.heap.size:=rfl
theorem append_nil{tab:Γ TI}(hT:kW P tab)(hR:bQ n K w0 G w a E L V own){T T2 ty e:TypeId}{t:Ty}{i:TypeInfo}{d:TypeDesc}{by':Nat}{s x:Operand}{ys:Γ t.den}{css:Γ (Γ Value)}{bss:Γ (Γ Nat)}
  (hu:P.underlying T=some (.slice e)) (hd1:P.underlying T2=some d) (hd2:∀k,d ≠ .int k) (hi:P.info? e=some i) (hbi:i.bytes=by') (he:rL P e t) (hsz:1<=t.size) (hby1:1<=by') (hb0:bss.flatten=[])
  {bo:Bool} (hrow:∀w1,AZ (pO w0 G w1 t bo) t.size ys css bss) (hfc:∀w':World,w'.heap=w.heap->(eQ t.size ys.length (a.eval x)).run P w' = .ok css.flatten.toArray w') (hlen:∀w',(rU (a.eval x)).run P w' = .ok ys.length w')
  (l3:css.flatten.length=ys.length*t.size) (hone:∀v∈css.flatten,v.oneCell'=true) (hc:ys.length*by'<=140737488355328) (e1:a.eval s = .slice none 0 0) :
  ∃v w' V' own',(iP #[T,T2] ty #[a.eval s,a.eval x]).run P w = .ok v w'/\ui n K w0 G w w' a E L (L++[some ⟨t,ys,bo,none,none⟩]) V V' own own'/\mK w0 G (L++[some ⟨t,ys,bo,none,none⟩]) V' (.a (.osl L.length none)) v:=by
 have hml:0+ys.length<=maxLen:=by
  have:ys.length<=ys.length*by':=xF _ hby1
  grind [maxLen]
 obtain⟨v',w',hrun,hcase⟩:=MH (P:=P) (w:=w) (T:=T) (T2:=T2) (ty:=ty) (adr:=none) (len:=0) (cap:=0) (olds:=[]) hu hd1 hd2 hi he hsz hfc hlen (λw' _=>rfl) (by simp) l3 hone (by lia) hml (.inl rfl);rw[e1];rcases hcase with ⟨_,hcase⟩ | ⟨hlt,nc,rest,rfl,hnc1,hnc2,rfl,hlr⟩
 ·rcases hcase with ⟨_,rfl,rfl,hm,_⟩ | ⟨hh,_⟩
  ·have hys:ys=[]:=bN hm;subst hys;have hent:iI w0 G w' ⟨t,[],bo,none,none⟩ (.slice none 0 0) []:=⟨by lia,.inl ⟨_,rfl,rfl,rfl⟩⟩;exact⟨_,_,_,_,hrun,hR.freshN (dD.refl _ _) hent (by simp) (by simp),vB (w0:=w0) (G:=G) (u:=w0) (G':=G) hent⟩
  lia
 ·simp only[fV,cO]at hrun hnc1 hlr hlt;have hent:=O7 (w:=w.drew) (sm:=none) (ty:=e) (cap:=nc) (hrow _) hb0 hnc1 hnc2 (by rw[hlr];lia);exact⟨_,_,_,_,hrun,hR.freshN ((dD.refl [] w).drew.alloc _) hent (by simp) (by simp),vB (w0:=w0) (G:=G) (u:=w0) (G':=G) hent⟩
set_option maxHeartbeats 800000 in
theorem aBm{tab:Γ TI}(hT:kW P tab)(hR:bQ n K w0 G w a E L V own){T T2 ty e:TypeId}{i:TypeInfo}{d:TypeDesc}{by':Nat}{s x:Operand}{r:Nat}{rg:Option (Nat×Nat)}{A:iE}{ys:Γ A.t.den}{css:Γ (Γ Value)}{bss:Γ (Γ Nat)}
  (hu:P.underlying T=some (.slice e)) (hd1:P.underlying T2=some d) (hd2:∀k,d ≠ .int k) (hi:P.info? e=some i) (hbi:i.bytes=by') (he:rL P e A.t) {bo:Bool} (hbo:∀w1 y c b,y∈A.xs->pO w0 G w A.t A.bor y c b->pO w0 G w1 A.t bo y c []) (hsz:1<=A.t.size) (hby1:1<=by') (hb0:bss.flatten=[])
  (hrow:∀w1,AZ (pO w0 G w1 A.t bo) A.t.size ys css bss) (hfc:∀w':World,w'.heap=w.heap->(eQ A.t.size ys.length (a.eval x)).run P w' = .ok css.flatten.toArray w') (hlen:∀w',(rU (a.eval x)).run P w' = .ok ys.length w')
  (l3:css.flatten.length=ys.length*A.t.size) (hone:∀v∈css.flatten,v.oneCell'=true) (hA:bZ L r=some A) (hs:opnd E s = .a (.osl r rg)) (hc:((BU rg A.xs).length+ys.length)*by'<=140737488355328/\True) :
  ∃v w' V' own',(iP #[T,T2] ty #[a.eval s,a.eval x]).run P w = .ok v w'/\bQ n K w0 G w' a (O1 r E) (y5 r (jT L r (some ⟨A.t,BU rg A.xs++qE rfl ys,bo,none,none⟩))) V' own'/\mK w0 G (y5 r (jT L r (some ⟨A.t,BU rg A.xs++qE rfl ys,bo,none,none⟩))) V' (.a (.osl r none)) v:=by
 obtain⟨A',hA',hve,hs1,hs2,hs3⟩:=hR.atom hs;rw[hA]at hA';cases hA';have hent:=hR.heap r A hA;obtain⟨ocss,obss,horow,hocase⟩:=Aa.row hent
 -- the base's own elements
 have hbrow:∀w1,∃ob,AZ (pO w0 G w1 A.t bo) A.t.size (BU rg A.xs) (BU rg ocss) ob/\ob.flatten=[]:=by
  intro w1;obtain⟨ob,h1,h2⟩:=horow.nilM (R':=pO w0 G w1 A.t bo) (λy c b hy hh=>hbo w1 y c b hy hh);cases rg with
  | none=>exact⟨ob,h1,h2⟩
  | some q =>
   obtain⟨lo,hi⟩:=q;refine⟨(ob.take hi).drop lo,(h1.take hi).drop lo,?_⟩;rw[xE]at h2 ⊢;exact λl hl=>h2 l (iN (List.mem_of_mem_drop hl))
 obtain⟨ob,hbrow1,hbflat⟩:=hbrow w;obtain⟨m1,m2,m3⟩:=hbrow1.len;have hlenrg:(BU rg A.xs).length=Ht A.xs.length rg-zJ rg:=by
  cases rg with
  | none=>simp[BU,Ht,zJ]
  | some q =>
   obtain⟨lo,hi⟩:=q;simp only[BU,Ht,zJ,List.length_drop,fL]at hs2 ⊢;omega
 have hml:(BU rg A.xs).length+ys.length<=maxLen:=by
  have:(BU rg A.xs).length+ys.length<=((BU rg A.xs).length+ys.length)*by':=xF _ hby1
  have:=hc.1;unfold maxLen;omega
 have hcast:∀(w1:World),∃nb,AZ (pO w0 G w1 A.t bo) A.t.size (BU rg A.xs++qE rfl ys) (BU rg ocss++css) nb/\nb.flatten=[]:=by
  intro w1;obtain⟨ob,h1,h2⟩:=hbrow w1;exact⟨ob++bss,h1.append (hrow w1),by simp[h2,hb0]⟩
 have hbnot:∀s C,bZ L s=some C->s≠r->∀b∈own s,b ∉ own r:=λs C hs' hsr=>hR.apart s r C A hs' hA hsr;have hbg:=hR.good r A hA;have nothing:∀adr:Option Addr,a.eval s = .slice adr 0 0->Ht A.xs.length rg-zJ rg=0 ->
   ∃v w' V' own',(iP #[T,T2] ty #[a.eval s,a.eval x]).run P w = .ok v w'/\bQ n K w0 G w' a (O1 r E) (y5 r (jT L r (some ⟨A.t,BU rg A.xs++qE rfl ys,bo,none,none⟩))) V' own'/\mK w0 G (y5 r (jT L r (some ⟨A.t,BU rg A.xs++qE rfl ys,bo,none,none⟩))) V' (.a (.osl r none)) v:=by
  intro adr hv e0;have eo:BU rg A.xs=[]:=bN (by omega);obtain⟨v',w',hrun,hcase⟩:=MH (P:=P) (w:=w) (T:=T) (T2:=T2) (ty:=ty) (adr:=adr) (len:=0) (cap:=0) (olds:=[]) hu hd1 hd2 hi he hsz hfc hlen (λw' _=>IZ _ _ _) (by simp) l3 hone
   (by rw[hbi];have:=hc.1;rw[eo]at this;simpa using this) (by rw[eo]at hml;simpa using hml) (.inl rfl)
  rw[hv];simp only[eo,fV]at *;rcases hcase with ⟨_,hcase⟩ | ⟨hlt,nc,rest,rfl,hnc1,hnc2,rfl,hlr⟩
  ·rcases hcase with ⟨_,rfl,rfl,hm,_⟩ | ⟨hh,_⟩
   ·have hys:ys=[]:=bN hm;subst hys;have hent':iI w0 G w' ⟨A.t,qE rfl [],bo,none,none⟩ (.slice adr 0 0) []:=⟨by simp[qE],.inl ⟨_,rfl,rfl,rfl⟩⟩;exact⟨_,_,_,_,hrun,hR.replace hR.kept (aU _) hA (λ_ _ _=>rfl) rfl rfl hent' (by simp) (by simp) (by simp),Kh (w0:=w0) (G:=G) (xS hA rfl) (eX _ _ _) hent'⟩
   ·exact absurd rfl hh
  ·simp only[fV,cO]at hrun hnc1 hlr hlt;have hent':=O7 (w:=w.drew) (sm:=none) (ty:=e) (cap:=nc) (hrow _) hb0 hnc1 hnc2 (by rw[hlr];exact aU _);refine⟨_,_,_,_,hrun,hR.replace (hR.kept.drew.alloc _) (by simp[K',Bv]) hA (λc hc _=>?_) rfl rfl hent' (by simp) (by rw[Bv];intro b hb;simp at hb;subst hb;exact hR.out_new (aU _)) (λs C hs' _ b hb=>?_),Kh (w0:=w0) (G:=G) (xS hA rfl) (eX _ _ _) hent'⟩
   ·exact nS _ _ _ hc
   ·have:=hR.own_lt hs' b hb;rw[Bv];simp;omega
 rcases hs3 with ⟨ad,ad',hV,hv,hz⟩ | ⟨b0,off0,m0,cap0,o,c,hV,hv,hle,hcase⟩
 ·exact nothing ad' hv (by omega)
 by_cases hc00:c=0
 ·subst hc00;have e0:Ht A.xs.length rg-zJ rg=0:=by omega
  exact nothing _ (by rw[hv,e0]) e0
 ·rcases hocase with ⟨_,h1,_,_⟩ | ⟨b1,off1,cap1,cur,ct,fz,h1,h2,h3,h4,h5,h6,h7,h8⟩
  ·rw[h1]at hV;cases hV;have:=(hcase.resolve_right (λh=>hc00 h.1)).2;omega
  ·rw[h1]at hV;cases hV;have hoc:o+c*A.t.size<=cur.size:=by
    rcases hcase with ⟨ho,hcap⟩ | ⟨hc0,ho⟩
    ·have:(zJ rg+c)*A.t.size<=cap0*A.t.size:=cV _ hcap;rw[fZ]at this;omega
    ·rw[hc0,kw];omega
   have hold:∀j v,(BU rg ocss).flatten[j]? = some v->cur[o+j]? = some v:=by
    intro j v hj;have hjl:j<(BU rg A.xs).length*A.t.size:=by rw[<- m3];exact(eH.1 hj).1
    have hne:c≠0:=by
     intro hc0;rw[hlenrg]at hjl;have:Ht A.xs.length rg-zJ rg=0:=by omega
     rw[this,kw]at hjl;omega
    obtain⟨ho,hcap⟩:=hcase.resolve_right (λh=>hne h.1);cases rg with
    | none =>
     have:=h8 j v hj;rw[ho];simpa [zJ] using this
    | some q =>
     obtain⟨lo,hi'⟩:=q;have hl:=horow.lens;have hpre:(ocss.take lo).flatten.length=lo*A.t.size:=by
      have:=(horow.take lo).len.2.2;rw[this,fL]
      congr 1
      simp only[zJ,Ht]at hs1 hs2;omega
     have hfl:ocss.flatten[lo*A.t.size+j]? = some v:=by
      have hsplit:ocss=(ocss.take lo++(ocss.take hi').drop lo)++ocss.drop hi':=by
       have e1:ocss.take lo=(ocss.take hi').take lo:=by
        rw[YY];congr 1;simp only[zJ,Ht]at hs1;omega
       rw[e1,fD,fD]
      rw[hsplit,pK,pK,cK,cY (by omega),hpre,lP];have hj':((ocss.take hi').drop lo).flatten[j]? = some v:=hj;rw[c6 (eH.1 hj').1];exact hj'
     have:=h8 _ v hfl;rw[ho];simp only[zJ]
     rwa [<- fS]at this
   have hblt:b0<w.heap.size:=hR.own_lt hA b0 (by rw[h7];exact aR ..);have hbown:b0∈own r:=by rw[h7];exact aR ..
   have hcells:∀w':World,w'.heap=w.heap->kZ w' b0 o (BU rg ocss).flatten:=λw' hw' j v hj=>by
    simp only[iK, hw',h5];exact hold j v hj
   obtain⟨v',w',hrun,hcase'⟩:=MH (P:=P) (w:=w) (T:=T) (T2:=T2) (ty:=ty) (adr:=some ⟨b0,o,none⟩) (len:=(BU rg A.xs).length) (cap:=c) (olds:=(BU rg ocss).flatten) hu hd1 hd2 hi he hsz hfc hlen
    (λw' hw'=>Ac m3 (hcells w' hw')) m3 l3 hone (by rw[hbi];exact hc.1) hml (.inr ⟨b0,o,cur,ct,fz,rfl,h5,h6,hoc⟩)
   rw[hv, <- hlenrg];rcases hcase' with ⟨hroom,hcase'⟩ | ⟨hlt,nc,rest,rfl,hnc1,hnc2,rfl,hlr⟩
   ·rcases hcase' with ⟨hh,_⟩ | ⟨_,b2,o2,cur2,ct2,fz2,cur',hh,g1,g2,g3,rfl,g4,g5,g6⟩
    ·exact absurd hh hc00
    ·cases hh;rw[h5]at g1;cases g1;replace g5:cur'.toList=fT cur.toList (o+(BU rg A.xs).length*A.t.size) css.flatten:=g5;obtain⟨nb,hnrow,hnflat⟩:=hcast w';have hnl:(BU rg ocss).flatten.length+css.flatten.length<=c*A.t.size:=by
      rw[m3,l3, <- fZ];exact cV _ hroom
     have hcs:cur'.size=cur.size:=by
      have hsl:=oT (cs:=cur.toList) (c:=css.flatten) (o:=o+(BU rg A.xs).length*A.t.size) (by have hcl:cur.toList.length=cur.size:=iB;omega);have:=congrArg aF g5;rw[hsl]at this;simpa using this
     have hget':∀j v,(BU rg ocss++css).flatten[j]? = some v->cur'[o+j]? = some v:=by
      intro j v hj;rw[<- eK,g5,fT];rw[pK]at hj;by_cases hjl:j<(BU rg ocss).flatten.length
      ·rw[c6 hjl]at hj;rw[cK,c6 (by simp only[fL,iB];omega),nU,π (by omega),eK];exact hold j v hj
      ·rw[cY (by omega)]at hj;have hj2:=(eH.1 hj).1;rw[cK,cY (by simp only[fL,iB];omega)];have e9:o+j-(cur.toList.take (o+(BU rg A.xs).length*A.t.size)).length=j-(BU rg ocss).flatten.length:=by
        simp only[fL,iB];omega
       rw[e9,c6 hj2];exact hj
     have hnlen:(BU rg A.xs++qE rfl ys).length=(BU rg A.xs).length+ys.length:=by rw[bS];rfl
     have hent':=uE hnrow (b:=b0) (off:=o) (cap:=c) (cur:=cur') (ty:=ct) (fz:=fz) (by rw[hnlen];exact hml) (by rw[hnlen];exact hroom) (by
      rcases hcase with ⟨ho,hcap⟩ | ⟨hc0,ho⟩
      ·omega
      ·omega) (by rw[hcs];exact hoc) g4 (by rw[hcs];exact h6) hget'
     rw[hnflat,hnlen]at hent';have hent'':iI w0 G w' ⟨A.t,BU rg A.xs++qE rfl ys,bo,none,none⟩ (.slice (some ⟨b0,o,none⟩) ((BU rg A.xs).length+ys.length) c) [b0]:=hent';refine⟨_,_,_,_,hrun,hR.replace ?_ g6.size hA (λc hc hco=>g6.block c hc ?_) rfl rfl hent'' (by simp) (by simp;exact hbg b0 hbown) (λs C hs' hsr b hb=>?_),Kh (w0:=w0) (G:=G) (xS hA rfl) (eX _ _ _) hent''⟩
     ·refine⟨g6.os.trans hR.kept.os,g6.tape.trans hR.kept.tape,g6.output.trans hR.kept.output,gI hR.kept.size g6.size,λk hk hkO=>?_⟩;rw[g6.block k (dZ hk hR.kept.size) (by simp;exact λe=>(hbg b0 hbown).1 (e ▸ ⟨hk,hkO⟩))];exact hR.kept.block k hk hkO
     ·simp;exact λe=>hco (e ▸ hbown)
     ·simp;exact λe=>hbnot s C hs' hsr b hb (e ▸ hbown)
   ·obtain⟨nb,hnrow,hnflat⟩:=hcast (w.drew.alloc (.cells ((BU rg ocss++css).flatten++rest).toArray e));rw[<- pK]at hrun hlr;have hnlen:(BU rg A.xs++qE rfl ys).length=(BU rg A.xs).length+ys.length:=by rw[bS];rfl
    have hent':=O7 (w:=w.drew) (sm:=none) (ty:=e) (cap:=nc) hnrow hnflat (by rw[hnlen];exact hnc1) hnc2 (by rw[hlr];exact aU _);rw[hnlen]at hent';refine⟨_,_,_,_,hrun,hR.replace (hR.kept.drew.alloc _) (by simp[K',Bv]) hA (λc hc _=>?_) rfl rfl hent' (by simp) (by rw[Bv];intro b hb;simp at hb;subst hb;exact hR.out_new (aU _)) (λs C hs' _ b hb=>?_),Kh (w0:=w0) (G:=G) (xS hA rfl) (eX _ _ _) hent'⟩
    ·exact nS _ _ _ hc
    ·have:=hR.own_lt hs' b hb;rw[Bv];simp;omega
theorem uo{tab:Γ TI}(hT:kW P tab)(hR:bQ n K w0 G w a E L V own){T T2 ty:TypeId}{s x:Operand}{cs:Γ Prop}{pv:PV}{E':gH}{L':bM}(h:aSh tab E L T T2 (opnd E s) (opnd E x)=some (cs,pv,E',L'))(hc:gZ cs) :
  ∃v w' V' own',(iP #[T,T2] ty #[a.eval s,a.eval x]).run P w = .ok v w'/\bQ n K w0 G w' a E' L' V' own'/\mK w0 G L' V' pv v:=by
 unfold aSh at h;split at h
 ·rename_i S X hs hx;split at h
  ·rename_i e t by' ht
   split at h
   ·rename_i ys hck hsrc;simp at hck;obtain⟨hsz,hby1⟩:=hck;have hS:=hT T;rw[ht]at hS;obtain⟨_,hu,he,hby⟩:=hS;obtain⟨i,hi,hbi⟩:∃i,P.info? e=some i/\i.bytes=by':=by
     simp_all
    obtain⟨d,css,bss,hd1,hd2,hb0,hrow,hfc,hlen⟩:=aFC hT hR hx hsrc;obtain⟨l1,l2,l3⟩:=(hrow w true (.inr rfl)).len;have hone:=(hrow w true (.inr rfl)).one (λy c b h=>aId h);split at h
    ·cases h;obtain⟨e1,e2⟩:=hR.valEq hs;obtain⟨e3,e4⟩:=e2;subst e3 e4;obtain⟨v,w',V',own',g1,g2,g3⟩:=append_nil hT hR hu hd1 hd2 hi hbi he hsz hby1 hb0 (bo := !t.flat) (λw1=>hrow w1 _ (by lia)) hfc hlen l3 hone hc.1 e1;exact⟨v,w',V',own',g1,g2.1,g3⟩
    ·split at h
     ·rename_i A hA;split at h
      ·rename_i hte;subst hte;split at h
       ·rename_i hok;cases h;refine aBm hT hR hu hd1 hd2 hi hbi he (bo:=A.bor || !A.t.flat) (λw1 y c b hy hh=>?_) hsz hby1 hb0 (λw1=>hrow w1 _ (by lia)) hfc hlen l3 hone hA hs hc;cases hf:A.t.flat with
        | true=>grind [aF9]
        | false =>
         unfold aPO at hok;rw[hf]at hok;simp at hok;rcases hok with hb | he
         ·rw[hb]at hh ⊢;exact⟨hh.1,rfl⟩
         grind
       lia
      lia
     lia
    lia
   lia
  lia
 lia
end
section
variable {P:Program} {n:Nat} {K:fG} {G:Nat->Prop} {w0 w:World} {a:Act} {E:gH} {L:bM} {V:Nat->Value} {own:Nat->Γ Nat}
end
end Go.Am
