/- The abstract machine. -/
import Derived.WalkKit
import Derived.Below
import Derived.Lib.ItoaNum
import Derived.Lib.LaidTab
import Derived.Deep.Quiet
import Derived.OrdersHeld
import Derived.ProofKit
import Derived.Carry
import Derived.HandedShaped
import Derived.Stop.Joined
import Derived.Lib.Repeat
import Derived.Laws.AppendOwn
import Derived.Sort.Row
import Derived.Sort.Grow
import Derived.Lib.Strings
import Derived.Lib.ItoaLen
import Derived.Lib.SplitLaws
import Derived.Lib.Join
import Derived.Stop.LaidErr
set_option linter.unusedVariables false
set_option linter.unusedSimpArgs false
set_option linter.defProp false
open Array renaming getElem?_eq_none->iW,getElem?_toList->eF,length_toList->eN,mapM_eq_mapM_toList->Cs,range->aGT
open Bool renaming and_eq_true->aV,not_eq_true'->eX
open ByteArray renaming empty->aC,size_extract->nA,toList->aB
open Go.Addr renaming add_lit->gB
open Go.Addr.mk renaming injEq->uV
open Go.Builtin renaming append_->gN,firstCells->eA,lenOf->rG,len_->Gk,zeroCells->gT
open Go.Instr renaming alloc->Ju,box->aNQ,build->Js,buildSlice->Rn,field->TD,fieldAt->L7,fill->sY,indexAt->EY,makeSlice->T9,slice->aGR,sliceAt->AB,sliceBounds->PJ,storeAt->AC,sureAddr->n5
open Go.IntKind renaming bits->oJ,max->p8,min->p7,signed->n7,u8->YJ,wrap->mZ
open Go.Op renaming bytesLess->bK,eqFields->Jt,equalIn->Gm,intArith->Jr,intBits->N2,maxDepth->aGS,stringOp->aGP
open Go.Program renaming cellsOf->T6,fieldsOf->Rm
open Go.Result renaming andThen_ok->bL
open Go.RowKit.Below renaming heap_alloc->n4
open Go.Sem renaming run_bind->c8,run_pure->dW
open Go.Value.slice renaming injEq->kK
open Go.World renaming alloc->aGU,cell?->gW,cell?_of_block->fM,var?->YH
open List renaming append_assoc->bZ,drop_append->zV,drop_append_of_le_length->p9,drop_drop->pP,drop_left'->T8,drop_of_length_le->gC,drop_set_of_lt->LB,drop_zero->gP,eq_nil_of_length_eq_zero->cF,ext_getElem?->xW,flatten_append->uH,flatten_cons->gF,flatten_eq_nil_iff->wL,getElem?_append_left->b7,getElem?_append_right->cO,getElem?_drop->vX,getElem?_eq_getElem->aX,getElem?_eq_some_iff->dQ,getElem?_of_mem->iM,getElem?_set_self->Gl,getElem?_take->kY,length->aF,length_append->aU,length_take->bW,map_cons->dG,mem_append->cY,mem_append_left->dA,mem_append_right->dC,mem_cons->aW,mem_cons_of_mem->aM,mem_cons_self->aR,mem_flatten->kX,mem_map->dK,mem_of_mem_take->gY,mem_singleton->dU,nil_append->dL,nodup_append->lY,nodup_cons->jJ,nodup_nil->lM,replicate->aQ,replicate_succ->BF,take_add_one->eG,take_append->zW,take_append_drop->fH,take_left->Jq,take_left'->T7,take_length->jT,take_of_length_le->cW,take_set_of_le->LA,take_take->YI,toArray->qT
open Nat renaming add_assoc->fY,add_mul->gE,add_sub_cancel_left->lV,add_zero->iX,beq->cC,ble->pE,eq_of_beq_eq_true->bF,le_max_right->Rl,le_mul_of_pos_right->wM,le_refl->aT,le_trans->dV,lt_irrefl->Yu,lt_of_lt_of_le->cZ,lt_or_ge->kJ,mul_le_mul_right->cV,one_mul->D3,sub_self->BT,zero_add->bX,zero_le->bG,zero_mul->aCw
open Ne renaming symm->kT
open Option.some renaming injEq->iH
open Prod renaming fst->dB
namespace Go.Am
abbrev Γ:=List
abbrev Δ:=ByteArray
theorem ν {c:Prop} {h:Decidable c} (k:¬c) {α:Sort _} {a b:α}:@ite α c h a b=b:=if_neg k
theorem π {c:Prop} {h:Decidable c} (k:c) {α:Sort _} {a b:α}:@ite α c h a b=a:=if_pos k
theorem ε {p:Prop} [Decidable p]:(decide p=true)=p:=decide_eq_true_eq
inductive GK where
 | int (k:IntKind)
 | tab (k:IntKind) (zs:Γ Int)
 | ifc
def aV1:Γ (Nat×GK):=[(0,.int .i64),(3,.ifc),(4,.ifc),(5,.tab .u64 Lib.pow10Tab)]
def aSw:Γ (Nat×GK)->Nat
 | []=>0
 | p::r=>Nat.max (p.1+1) (aSw r)
def GN:Nat:=aSw aV1
def yR(w:World)(g:Nat):GK->Prop
 | .int k=>∃m,w.cell? ⟨g,0,none⟩=some (.int k m)
 | .tab k zs=>∃t fz,w.heap[g]? = some (.cells (zs.map λz=>Value.int k z).toArray t fz)
 | .ifc=>∃t fz u v,w.heap[g]? = some (.cells #[.iface u v] t fz)
def Nn(w:World):Γ (Nat×GK)->Prop
 | []=>True
 | p::r=>yR w p.1 p.2/\Nn w r
def Eg(w:World):Prop:=Nn w aV1
def yR.lt{w:World}{g:Nat}:∀ {k:GK},yR w g k->g<w.heap.size
 | .int k,⟨m,hm⟩=>by
  rcases kJ g w.heap.size with h | h
  ·exact h
  ·simp[gW, iW h]at hm
 | .tab k zs,⟨_,_,hm⟩=>by
  rcases kJ g w.heap.size with h | h
  ·exact h
  ·rw[iW h]at hm;cases hm
 | .ifc,⟨_,_,_,_,hm⟩=>by
  rcases kJ g w.heap.size with h | h
  ·exact h
  ·rw[iW h]at hm;cases hm
theorem yR.keep{w w':World}{g:Nat}(hb:w'.heap[g]? = w.heap[g]?):∀ {k:GK},yR w g k->yR w' g k
 | .int k,⟨m,hm⟩=>⟨m,by simp only[gW]at hm ⊢;rw[hb];exact hm⟩
 | .tab k zs,⟨t,fz,hm⟩=>⟨t,fz,by rw[hb];exact hm⟩
 | .ifc,⟨t,fz,u,v,hm⟩=>⟨t,fz,u,v,by rw[hb];exact hm⟩
theorem Nn.keep{w w':World}:∀ {l:Γ (Nat×GK)},Nn w l->(∀b,b<aSw l->b<w.heap.size->w'.heap[b]? = w.heap[b]?)->Nn w' l
 | [],_,_=>trivial
 | p::r,h,hb=>by
  refine⟨h.1.keep (hb _ ?_ h.1.lt),h.2.keep λb hb'=>hb b ?_⟩
  ·exact cZ (Nat.lt_succ_self _) (Nat.le_max_left _ _)
  ·exact cZ hb' (Rl _ _)
theorem Eg.keep{w w':World}(h:Eg w)(hb:∀b,b<GN->b<w.heap.size->w'.heap[b]? = w.heap[b]?):Eg w':=Nn.keep h hb
theorem Nn.size{w:World}:∀ {l:Γ (Nat×GK)},Nn w l->aSw l<=w.heap.size
 | [],_=>bG _
 | p::r,h=>Nat.max_le.2 ⟨h.1.lt,h.2.size⟩
theorem Eg.size{w:World}(h:Eg w):GN<=w.heap.size:=Nn.size h
theorem yR.tab{w:World}{P:Program}{g:Nat}{k:IntKind}{zs:Γ Int}{name:String}(hg:P.globalNamed name=some g)(h:yR w g (.tab k zs)):Lib.TabIs P w name k zs:=by
 obtain⟨t,fz,h⟩:=h;unfold Lib.TabIs YH;rw[hg];show (match w.heap[g]? with | some (.cells cs _ _)=>some cs | _=>none)=_;rw[h]
def yR.ofTab{w:World}{P:Program}{g:Nat}{k:IntKind}{zs:Γ Int}{name:String}(hg:P.globalNamed name=some g)(h:Lib.TabIs P w name k zs):yR w g (.tab k zs):=by
 unfold Lib.TabIs YH at h;rw[hg]at h;have h:(match w.heap[g]? with | some (.cells cs _ _)=>some cs | _=>none)=some (zs.map λz=>Value.int k z).toArray:=h;split at h
 ·rename_i cs t fz he;cases h;exact⟨t,fz,he⟩
 ·cases h
structure No (w:World) (O:Γ Nat):Prop where
 inv:Eg w
 size:GN<=w.heap.size
 out:∀b∈O,GN<=b
end Go.Am
namespace Go.Am
open Go.RowKit (Below)
inductive Ty where
 | int (k:IntKind) | bool | fn | str | sl (e:Ty) | unit | cons (a b:Ty)
 deriving DecidableEq
@[reducible] def Ty.den:Ty->Type
 | .int _=>Int
 | .bool=>Bool
 | .fn=>Option Nat
 | .str=>Δ
 | .sl e=>Γ e.den
 | .unit=>Unit
 | .cons a b=>a.den×b.den
def Ty.dflt:(t:Ty)->t.den
 | .int _=>(0:Int)
 | .bool=>false
 | .fn=>(none:Option Nat)
 | .str=>aC
 | .sl _=>[]
 | .unit=>()
 | .cons a b=>(a.dflt,b.dflt)
def Ty.size:Ty->Nat
 | .unit=>0
 | .cons a b=>a.size+b.size
 | _=>1
def Ty.flat:Ty->Bool
 | .sl _=>false
 | .cons a b=>a.flat&&b.flat
 | _=>true
def fnV:Option Nat->Value
 | none => .nilFunc
 | some f => .func (.func f) #[] #[]
theorem Tg(f:Option Nat):(fnV f).oneCell'=true:=by cases f <;> rfl
def bA(k:IntKind)(n:Int):Prop:=k.min<=n/\n<=k.max
def Wf:(t:Ty)->t.den->Prop
 | .int k,n=>bA k n
 | .bool,_=>True
 | .fn,_=>True
 | .str,s=>s.size<=maxLen
 | .sl e,xs=>xs.length<=maxLen/\∀x∈xs,Wf e x
 | .unit,_=>True
 | .cons a b,x=>Wf a x.1/\Wf b x.2
variable {α:Type}
def oE(w:World)(G:Nat->Prop)(R:α->Γ Value->Prop)(sz:Nat)(xs:Γ α)(v:Value):Prop :=
  xs.length<=maxLen /\ ((∃ad, v = .slice ad 0 0 /\ xs = []) \/
   ∃b off cap, v = .slice (some ⟨b, off, none⟩) xs.length cap /\ xs.length<=cap /\ cap<=maxLen /\ G b /\
     ∀i x, xs[i]? = some x -> ∃cs, cs.length = sz /\ (∀j c, cs[j]? = some c->w.cell? ⟨b, off+i*sz+j, none⟩ = some c) /\ R x cs)
def eK(w:World)(G:Nat->Prop):(t:Ty)->t.den->Γ Value->Prop
 | .int k,n,cs=>cs=[.int k n]/\bA k n
 | .bool,b,cs=>cs=[.bool b]
 | .fn,f,cs=>cs=[fnV f]
 | .str,s,cs=>cs=[.string s]/\s.size<=maxLen
 | .sl e,xs,cs=>∃v,cs=[v]/\oE w G (eK w G e) e.size xs v
 | .unit,_,cs=>cs=[]
 | .cons a b,x,cs=>∃c1 c2,cs=c1++c2/\eK w G a x.1 c1/\eK w G b x.2 c2
def aOd(fz:Nat×Nat)(n:Nat):Prop:=∀j,j<n->¬(fz.1<=j/\j<fz.2)
def H1(sz:Nat)(fz:Nat×Nat)(n:Nat):Prop:=aOd fz n/\(sz=1\/aOd fz (n+1))
def yE(w:World)(R:α->Γ Value->Γ Nat->Prop)(sz:Nat)(xs:Γ α)(v:Value)(bs:Γ Nat):Prop :=
  xs.length<=maxLen /\ ((∃ad, v = .slice ad 0 0 /\ xs = [] /\ bs = []) \/
   ∃(b off cap:Nat) (cur:Array Value) (ty:TypeId) (fz:Nat × Nat) (bss:Γ (Γ Nat)), v = .slice (some ⟨b, off, none⟩) xs.length cap /\ xs.length<=cap /\ cap<=maxLen /\ off+cap*sz<=cur.size /\
     w.heap[b]? = some (.cells cur ty fz) /\ H1 sz fz cur.size /\ bss.length = xs.length /\ bs = b::bss.flatten /\
     ∀i x bi, xs[i]? = some x->bss[i]? = some bi -> ∃cs, cs.length = sz /\ (∀j c, cs[j]? = some c->cur[off+i*sz+j]? = some c) /\ R x cs bi)
def iA(w:World):(t:Ty)->t.den->Γ Value->Γ Nat->Prop
 | .int k,n,cs,bs=>cs=[.int k n]/\bA k n/\bs=[]
 | .bool,b,cs,bs=>cs=[.bool b]/\bs=[]
 | .fn,f,cs,bs=>cs=[fnV f]/\bs=[]
 | .str,s,cs,bs=>cs=[.string s]/\s.size<=maxLen/\bs=[]
 | .sl e,xs,cs,bs=>∃v,cs=[v]/\yE w (iA w e) e.size xs v bs
 | .unit,_,cs,bs=>cs=[]/\bs=[]
 | .cons a b,x,cs,bs=>∃c1 c2 b1 b2,cs=c1++c2/\bs=b1++b2/\iA w a x.1 c1 b1/\iA w b x.2 c2 b2
theorem eK.length{w:World}{G:Nat->Prop}:∀ {t:Ty} {x:t.den} {cs:Γ Value},eK w G t x cs->cs.length=t.size
 | .int _,_,_,h=>by rw[h.1];rfl
 | .bool,_,_,h=>by rw[h];rfl
 | .fn,_,_,h=>by rw[h];rfl
 | .str,_,_,h=>by rw[h.1];rfl
 | .sl _,_,_,⟨_,h,_⟩=>by rw[h];rfl
 | .unit,_,_,h=>by rw[h];rfl
 | .cons _ _,_,_,⟨_,_,h,h1,h2⟩=>by rw[h,aU,h1.length,h2.length];rfl
theorem iA.length{w:World}:∀ {t:Ty} {x:t.den} {cs:Γ Value} {bs:Γ Nat},iA w t x cs bs->cs.length=t.size
 | .int _,_,_,_,h=>by rw[h.1];rfl
 | .bool,_,_,_,h=>by rw[h.1];rfl
 | .fn,_,_,_,h=>by rw[h.1];rfl
 | .str,_,_,_,h=>by rw[h.1];rfl
 | .sl _,_,_,_,⟨_,h,_⟩=>by rw[h];rfl
 | .unit,_,_,_,h=>by rw[h.1];rfl
 | .cons _ _,_,_,_,⟨_,_,_,_,h,_,h1,h2⟩=>by rw[h,aU,h1.length,h2.length];rfl
variable {v:Value}
theorem aAH{w:World}{G:Nat->Prop}{e:Ty}{xs:Γ e.den}(ih:∀x cs,eK w G e x cs->Wf e x)(h:oE w G (eK w G e) e.size xs v):Wf (.sl e) xs:=by
 refine⟨h.1,λx hx=>?_⟩;rcases h.2 with ⟨_,_,rfl⟩ | ⟨b,off,cap,_,_,_,_,hr⟩
 ·cases hx
 ·obtain⟨i,hi⟩:=iM hx;obtain⟨cs,_,_,h⟩:=hr i x hi;exact ih x cs h
theorem eK.wf{w:World}{G:Nat->Prop}:∀ {t:Ty} {x:t.den} {cs:Γ Value},eK w G t x cs->Wf t x
 | .int _,_,_,h=>h.2
 | .bool,_,_,_=>trivial
 | .fn,_,_,_=>trivial
 | .str,_,_,h=>h.2
 | .sl _,_,_,⟨_,_,h⟩=>aAH (λ_ _=>eK.wf) h
 | .unit,_,_,_=>trivial
 | .cons _ _,_,_,⟨_,_,_,h1,h2⟩=>⟨h1.wf,h2.wf⟩
theorem aEt{w:World}{e:Ty}{xs:Γ e.den}{bs:Γ Nat}(ih:∀x cs bs,iA w e x cs bs->Wf e x)(h:yE w (iA w e) e.size xs v bs):Wf (.sl e) xs:=by
 refine⟨h.1,λx hx=>?_⟩;rcases h.2 with ⟨_,_,rfl,_⟩ | ⟨b,off,cap,cur,ty,fz,bss,_,_,_,_,_,_,hl,_,hr⟩
 ·cases hx
 ·obtain⟨i,hi⟩:=iM hx;have hlt:i<bss.length:=by rw[hl];exact(dQ.1 hi).1
  obtain⟨cs,_,_,h⟩:=hr i x _ hi (aX hlt);exact ih x cs _ h
theorem iA.wf{w:World}:∀ {t:Ty} {x:t.den} {cs:Γ Value} {bs:Γ Nat},iA w t x cs bs->Wf t x
 | .int _,_,_,_,h=>h.2.1
 | .bool,_,_,_,_=>trivial
 | .fn,_,_,_,_=>trivial
 | .str,_,_,_,h=>h.2.1
 | .sl _,_,_,_,⟨_,_,h⟩=>aEt (λ_ _ _=>iA.wf) h
 | .unit,_,_,_,_=>trivial
 | .cons _ _,_,_,_,⟨_,_,_,_,_,_,h1,h2⟩=>⟨h1.wf,h2.wf⟩
theorem oE.keep{w w':World}{G G':Nat->Prop}{R R':α->Γ Value->Prop}{sz:Nat}{xs:Γ α}
  (hR:∀x cs,R x cs->R' x cs) (hG:∀b,G b->G' b) (hw:∀b,G b->w'.heap[b]? = w.heap[b]?) (h:oE w G R sz xs v):oE w' G' R' sz xs v:=by
 refine⟨h.1,?_⟩;rcases h.2 with h | ⟨b,off,cap,h1,h2,h3,h4,h5⟩
 ·exact .inl h
 ·refine .inr ⟨b,off,cap,h1,h2,h3,hG b h4,λi x hx=>?_⟩;obtain⟨cs,hl,hc,hr⟩:=h5 i x hx;exact⟨cs,hl,λj c hj=>by rw[fM (w:=w) (hw b h4)];exact hc j c hj,hR _ _ hr⟩
theorem eK.keep{w w':World}{G G':Nat->Prop}(hG:∀b,G b->G' b)(hw:∀b,G b->w'.heap[b]? = w.heap[b]?):∀ {t:Ty} {x:t.den} {cs:Γ Value},eK w G t x cs->eK w' G' t x cs
 | .int _,_,_,h=>h
 | .bool,_,_,h=>h
 | .fn,_,_,h=>h
 | .str,_,_,h=>h
 | .sl _,_,_,⟨v,h,h2⟩=>⟨v,h,h2.keep (λ_ _=>eK.keep hG hw) hG hw⟩
 | .unit,_,_,h=>h
 | .cons _ _,_,_,⟨c1,c2,h,h1,h2⟩=>⟨c1,c2,h,h1.keep hG hw,h2.keep hG hw⟩
def qC{bss:Γ (Γ Nat)}{i:Nat}{bi:Γ Nat}(h:bss[i]? = some bi):∀b∈bi,b∈bss.flatten :=
 λb hb=>kX.2 ⟨bi,List.mem_of_getElem? h,hb⟩
theorem yE.keep{w w':World}{R R':α->Γ Value->Γ Nat->Prop}{sz:Nat}{xs:Γ α}{bs:Γ Nat}
  (hR:∀x cs bi,(∀b∈bi,b∈bs)->R x cs bi->R' x cs bi) (hw:∀b∈bs,w'.heap[b]? = w.heap[b]?) (h:yE w R sz xs v bs):yE w' R' sz xs v bs:=by
 refine⟨h.1,?_⟩;rcases h.2 with h | ⟨b,off,cap,cur,ty,fz,bss,h1,h2,h3,h4,h5,h6,h7,h8,h9⟩
 ·exact .inl h
 ·refine .inr ⟨b,off,cap,cur,ty,fz,bss,h1,h2,h3,h4,by rw[hw b (by rw[h8];exact aR ..)];exact h5,h6,h7,h8,λi x bi hx hb=>?_⟩;obtain⟨cs,hl,hc,hr⟩:=h9 i x bi hx hb;exact⟨cs,hl,hc,hR _ _ _ (λb hb'=>by rw[h8];exact aM _ (qC hb b hb')) hr⟩
theorem iA.keep{w w':World}:∀ {t:Ty} {x:t.den} {cs:Γ Value} {bs:Γ Nat},(∀b∈bs,w'.heap[b]? = w.heap[b]?)->iA w t x cs bs->iA w' t x cs bs
 | .int _,_,_,_,_,h=>h
 | .bool,_,_,_,_,h=>h
 | .fn,_,_,_,_,h=>h
 | .str,_,_,_,_,h=>h
 | .sl _,_,_,_,hw,⟨v,h,h2⟩=>⟨v,h,h2.keep (λ_ _ _ hs=>iA.keep (λb hb=>hw b (hs b hb))) hw⟩
 | .unit,_,_,_,_,h=>h
 | .cons _ _,_,_,_,hw,⟨c1,c2,b1,b2,h,hb,h1,h2⟩ =>
  ⟨c1,c2,b1,b2,h,hb,h1.keep (λb hb'=>hw b (by rw[hb];exact dA _ hb')),h2.keep (λb hb'=>hw b (by rw[hb];exact dC _ hb'))⟩
theorem eK.flat{w w':World}{G G':Nat->Prop}:∀ {t:Ty} {x:t.den} {cs:Γ Value},t.flat=true->eK w G t x cs->eK w' G' t x cs
 | .int _,_,_,_,h=>h
 | .bool,_,_,_,h=>h
 | .fn,_,_,_,h=>h
 | .str,_,_,_,h=>h
 | .unit,_,_,_,h=>h
 | .cons _ _,_,_,hf,⟨c1,c2,h,h1,h2⟩=>by
  simp only[Ty.flat,aV]at hf;exact⟨c1,c2,h,h1.flat hf.1,h2.flat hf.2⟩
theorem iA.flat{w:World}{G:Nat->Prop}{w':World}:∀ {t:Ty} {x:t.den} {cs:Γ Value} {bs:Γ Nat},t.flat=true->iA w t x cs bs->eK w' G t x cs/\bs=[]
 | .int _,_,_,_,_,h=>⟨⟨h.1,h.2.1⟩,h.2.2⟩
 | .bool,_,_,_,_,h=>h
 | .fn,_,_,_,_,h=>h
 | .str,_,_,_,_,h=>⟨⟨h.1,h.2.1⟩,h.2.2⟩
 | .unit,_,_,_,_,h=>h
 | .cons _ _,_,_,_,hf,⟨c1,c2,b1,b2,h,hb,h1,h2⟩=>by
  simp only[Ty.flat,aV]at hf;obtain⟨a1,e1⟩:=h1.flat (w':=w') (G:=G) hf.1;obtain⟨a2,e2⟩:=h2.flat (w':=w') (G:=G) hf.2;exact⟨⟨c1,c2,h,a1,a2⟩,by rw[hb,e1,e2];rfl⟩
theorem eK.own{w w':World}{G:Nat->Prop}:∀ {t:Ty} {x:t.den} {cs:Γ Value},t.flat=true->eK w G t x cs->iA w' t x cs []
 | .int _,_,_,_,h=>⟨h.1,h.2,rfl⟩
 | .bool,_,_,_,h=>⟨h,rfl⟩
 | .fn,_,_,_,h=>⟨h,rfl⟩
 | .str,_,_,_,h=>⟨h.1,h.2,rfl⟩
 | .unit,_,_,_,h=>⟨h,rfl⟩
 | .cons _ _,_,_,hf,⟨c1,c2,h,h1,h2⟩=>by
  simp only[Ty.flat,aV]at hf;exact⟨c1,c2,[],[],h,rfl,h1.own hf.1,h2.own hf.2⟩
theorem yE.read{w:World}{G:Nat->Prop}{R:α->Γ Value->Γ Nat->Prop}{R':α->Γ Value->Prop}{sz:Nat}{xs:Γ α}{bs:Γ Nat}
  (hR:∀x cs bi,(∀b∈bi,b∈bs)->R x cs bi->R' x cs) (hG:∀b∈bs,G b) (h:yE w R sz xs v bs):oE w G R' sz xs v:=by
 refine⟨h.1,?_⟩;rcases h.2 with ⟨ad,h1,h2,_⟩ | ⟨b,off,cap,cur,ty,fz,bss,h1,h2,h3,h4,h5,h6,h7,h8,h9⟩
 ·exact .inl ⟨ad,h1,h2⟩
 ·refine .inr ⟨b,off,cap,h1,h2,h3,hG b (by rw[h8];exact aR ..),λi x hx=>?_⟩;have hlt:i<bss.length:=by rw[h7];exact(dQ.1 hx).1
  obtain⟨cs,hl,hc,hr⟩:=h9 i x _ hx (aX hlt);refine⟨cs,hl,λj c hj=>?_,hR _ _ _ (λb hb'=>by rw[h8];exact aM _ (qC (aX hlt) b hb')) hr⟩;simp only[gW, h5];exact hc j c hj
theorem iA.read{w:World}{G:Nat->Prop}:∀ {t:Ty} {x:t.den} {cs:Γ Value} {bs:Γ Nat},(∀b∈bs,G b)->iA w t x cs bs->eK w G t x cs
 | .int _,_,_,_,_,h=>⟨h.1,h.2.1⟩
 | .bool,_,_,_,_,h=>h.1
 | .fn,_,_,_,_,h=>h.1
 | .str,_,_,_,_,h=>⟨h.1,h.2.1⟩
 | .sl _,_,_,_,hG,⟨v,h,h2⟩=>⟨v,h,h2.read (λ_ _ _ hs=>iA.read (λb hb=>hG b (hs b hb))) hG⟩
 | .unit,_,_,_,_,h=>h.1
 | .cons _ _,_,_,_,hG,⟨c1,c2,b1,b2,h,hb,h1,h2⟩ =>
  ⟨c1,c2,h,h1.read (λb hb'=>hG b (by rw[hb];exact dA _ hb')),h2.read (λb hb'=>hG b (by rw[hb];exact dC _ hb'))⟩
theorem iA.lt{w:World}:∀ {t:Ty} {x:t.den} {cs:Γ Value} {bs:Γ Nat},iA w t x cs bs->∀b∈bs,b<w.heap.size
 | .int _,_,_,_,h,b,hb=>by rw[h.2.2]at hb;cases hb
 | .bool,_,_,_,h,b,hb=>by rw[h.2]at hb;cases hb
 | .fn,_,_,_,h,b,hb=>by rw[h.2]at hb;cases hb
 | .str,_,_,_,h,b,hb=>by rw[h.2.2]at hb;cases hb
 | .unit,_,_,_,h,b,hb=>by rw[h.2]at hb;cases hb
 | .sl e,xs,_,bs,⟨v,_,h⟩,b,hb=>by
  rcases h.2 with ⟨_,_,_,h⟩ | ⟨b',off,cap,cur,ty,fz,bss,h1,h2,h3,h4,h5,h6,h7,h8,h9⟩
  ·rw[h]at hb;cases hb
  ·rw[h8]at hb;rcases aW.1 hb with rfl | hb
   ·rcases kJ b w.heap.size with hlt | hge
    ·exact hlt
    ·rw[iW hge]at h5;cases h5
   ·obtain⟨bi,hm,hbi⟩:=kX.1 hb;obtain⟨i,hi⟩:=iM hm;have hlt:i<xs.length:=by rw[<- h7];exact(dQ.1 hi).1
    obtain⟨cs,_,_,hr⟩:=h9 i _ bi (aX hlt) hi;exact iA.lt hr b hbi
 | .cons _ _,_,_,_,⟨c1,c2,b1,b2,_,hb',h1,h2⟩,b,hb=>by
  rw[hb']at hb;rcases cY.1 hb with hb | hb
  ·exact h1.lt b hb
  ·exact h2.lt b hb
end Go.Am
namespace Go.Am
structure aS where
 t:Ty
 x:t.den
inductive gJ where
 | val (v:Value)
 | sl (t:Ty) (xs:Γ t.den)
 | osl (r:Nat) (rg:Option (Nat×Nat))
 | junk
inductive dE where
 | val (v:Value)
 | sl (t:Ty) (xs:Γ t.den)
 | ptr (t:Ty) (x:t.den)
 | st (t:Ty) (x:t.den)
 | osl (r:Nat) (rg:Option (Nat×Nat))
 | optr (r i:Nat) (p:Γ Nat)
 | rcd (t:Ty) (ls:Γ gJ)
 | bptr (r o:Nat) (t:Ty)
 | junk
inductive PV where
 | a (x:dE)
 | tup (xs:Γ dE)
 | fn (f:FuncId) (caps:Γ dE)
structure iJ where
 t:Ty
 xs:Γ t.den
 bor:Bool:=false
 ls:Option (Γ gJ):=none
 sm:Option Bool:=none
structure jC where
 t:Ty
 xs:Γ t.den
abbrev gK:=Γ (Nat×PV)
abbrev bM:=Γ (Option iJ)
def gK.get:gK->Nat->PV
 | [],_ => .a .junk
 | (j,p)::r,i=>cond (cC j i) p (gK.get r i)
def gK.set(E:gK)(i:Nat)(p:PV):gK:=(i,p)::E.filter λq => !(cC q.1 i)
def b5:bM->Nat->Option iJ
 | [],_=>none
 | a::_,0=>a
 | _::l,n+1=>b5 l n
def jY:bM->Nat->Option iJ->bM
 | [],_,_=>[]
 | _::l,0,a=>a::l
 | b::l,n+1,a=>b::jY l n a
theorem yS{i j:Nat}(h:¬i=j):cC i j=false:=Bool.eq_false_iff.2 λhb=>h (bF hb)
theorem gK.get_set(E:gK)(i j:Nat)(p:PV):(E.set i p).get j=if i=j then p else E.get j:=by
 unfold gK.set;simp only[gK.get];by_cases h:i=j
 ·simp_all
 ·rw[ν h];have hb:cC i j=false:=yS h;rw[hb]
  induction E with
  | nil=>rfl
  | cons q r ih =>
   obtain⟨k,u⟩:=q;by_cases hk:k=i
   ·have:cC k k=true:=by simp
    simp[List.filter_cons,gK.get]
    lia
   ·have:cC k i=false:=yS hk;simp[this,gK.get]
    lia
theorem ZO(L:bM)(r s:Nat)(a:Option iJ):b5 (jY L r a) s=if r=s/\r<L.length then a else b5 L s:=by
 induction L generalizing r s with
 | nil=>simp[jY]
 | cons b l ih =>
  cases r with
  | zero=>cases s with
   | zero=>rfl
   | succ s=>rfl
  | succ r=>cases s with
   | zero=>rfl
   | succ s=>simp[jY,b5,ih]
theorem wS{L:bM}{r:Nat}{A:iJ}(h:b5 L r=some A):r<L.length:=by
 induction L generalizing r with
 | nil=>cases h
 | cons b l ih=>cases r with
  | zero=>simp
  | succ r=>grind [b5]
theorem nE(L M:bM)(r:Nat):b5 (L++M) r=if r<L.length then b5 L r else b5 M (r-L.length):=by
 induction L generalizing r with
 | nil=>rfl
 | cons b l ih=>cases r with
  | zero=>rfl
  | succ r=>simp[b5,ih]
structure cQ (O:Γ Nat) (w w':World):Prop where
 os:w'.os=w.os
 tape:w'.tape=w.tape
 output:w'.output=w.output
 size:w.heap.size<=w'.heap.size
 block:∀k,k<w.heap.size->k ∉ O->w'.heap[k]? = w.heap[k]?
theorem cQ.refl(O:Γ Nat)(w:World):cQ O w w:=⟨rfl,rfl,rfl,aT _,λ_ _ _=>rfl⟩
theorem cQ.trans{O:Γ Nat}{a b c:World}(h:cQ O a b)(k:cQ O b c):cQ O a c :=
 ⟨k.os.trans h.os,k.tape.trans h.tape,k.output.trans h.output,dV h.size k.size,λi hi ho=>(k.block i (cZ hi h.size) ho).trans (h.block i hi ho)⟩
def cQ.mono{O O':Γ Nat}{a b:World}(h:cQ O a b)(hO:∀k∈O,k∈O'):cQ O' a b :=
 ⟨h.os,h.tape,h.output,h.size,λi hi ho=>h.block i hi λhk=>ho (hO i hk)⟩
def cQ.of_nil{O:Γ Nat}{a b:World}(h:cQ [] a b):cQ O a b:=h.mono (λ_ h=>by grind)
theorem cQ.drew{O:Γ Nat}{a w:World}(h:cQ O a w):cQ O a w.drew:=⟨h.os,h.tape,h.output,h.size,h.block⟩
def cQ.below{a b:World}(h:cQ [] a b):Go.RowKit.Below a.heap.size a b:=⟨h.os,h.tape,h.output,h.size,λk hk=>h.block k hk (by simp)⟩
def cQ.of_below{a b:World}(h:Go.RowKit.Below a.heap.size a b):cQ [] a b:=⟨h.os,h.tape,h.output,h.size,λk hk _=>h.block k hk⟩
theorem cQ.alloc{O:Γ Nat}{a w:World}(h:cQ O a w)(o:Obj):cQ O a (w.alloc o) :=
 h.trans ⟨rfl,rfl,rfl,by simp,λk hk _=>n4 _ _ _ hk⟩
def Good(w0:World)(O:Γ Nat)(b:Nat):Prop:=b<w0.heap.size/\b ∉ O
theorem cQ.good{O:Γ Nat}{w0 w:World}(h:cQ O w0 w):∀b,Good w0 O b->w.heap[b]? = w0.heap[b]? := λb hb=>h.block b hb.1 hb.2
def Nk:Value->Prop
 | .int k n=>bA k n
 | .string s=>s.size<=maxLen
 | .slice none n c=>n=0/\c=0
 | _=>True
def aHJ(f:Option Nat):Nk (fnV f):=by cases f <;> trivial
def aLI:(t:Ty)->t.den->Nat->Option aS
 | .cons a _,x,0=>some ⟨a,x.1⟩
 | .cons _ b,x,n+1=>aLI b x.2 n
 | _,_,_=>none
def Np:Γ Nat->aS->Option aS
 | [],d=>some d
 | f::p,d=>match aLI d.t d.x f with
  | some d'=>Np p d'
  | none=>none
def kV:Ty->Nat->Option (Nat×Ty)
 | .cons a _,0=>some (0,a)
 | .cons a b,n+1=>match kV b n with
  | some (o,t)=>some (a.size+o,t)
  | none=>none
 | _,_=>none
def lC:Γ Nat->Ty->Option (Nat×Ty)
 | [],t=>some (0,t)
 | f::p,t=>match kV t f with
  | some (o,t')=>match lC p t' with
   | some (o',t'')=>some (o+o',t'')
   | none=>none
  | none=>none
def Y7:(t:Ty)->t.den->Γ Nat->aS->Option t.den
 | t,_,[],d=>if h:d.t=t then some (h ▸ d.x)else none
 | .cons a b,x,0::p,d=>match Y7 a x.1 p d with
  | some y=>some (y,x.2)
  | none=>none
 | .cons a b,x,(n+1)::p,d=>match Y7 b x.2 (n::p) d with
  | some y=>some (x.1,y)
  | none=>none
 | _,_,_,_=>none
def j8:(t:Ty)->t.den->dE
 | .int k,n => .val (.int k n)
 | .bool,b => .val (.bool b)
 | .fn,f => .val (fnV f)
 | .str,s => .val (.string s)
 | .sl e,xs => .sl e xs
 | .unit,x => .st .unit x
 | .cons a b,x => .st (.cons a b) x
def aS.atom(d:aS):dE:=j8 d.t d.x
def yT:Option (Nat×Nat)->Nat
 | some (lo,_)=>lo
 | none=>0
def Hn(n:Nat):Option (Nat×Nat)->Nat
 | some (_,hi)=>hi
 | none=>n
def aKe(sz n:Nat)(V:Value)(lo hi:Nat)(v:Value):Prop :=
 lo<=hi/\hi<=n/\((∃ad ad',V = .slice ad 0 0/\v = .slice ad' 0 0/\n=0/\ad'=ad) \/
  ∃b off m cap o c,V = .slice (some ⟨b,off,none⟩) m cap/\v = .slice (some ⟨b,o,none⟩) (hi-lo) c/\hi-lo<=c/\((o=off+lo*sz/\lo+c<=cap)\/(c=0/\o<=off+cap*sz)))
def bD1(t:Ty)(n:Nat)(V:Value)(i:Nat)(p:Γ Nat)(v:Value):Prop :=
 i<n/\∃b off m cap po t',V = .slice (some ⟨b,off,none⟩) m cap/\lC p t=some (po,t')/\v = .pointer (some ⟨b,off+i*t.size+po,none⟩)
def lD(w:World)(b off:Nat)(cs:Γ Value):Prop:=∀j c,cs[j]? = some c->w.cell? ⟨b,off+j,none⟩=some c
def Hy(w:World)(G:Nat->Prop)(t:Ty)(x:t.den)(v:Value):Prop :=
 ∃b off cs,v = .pointer (some ⟨b,off,none⟩)/\G b/\lD w b off cs/\eK w G t x cs
def yD(w:World)(G:Nat->Prop):dE->Value->Prop
 | .val u,v=>v=u/\Nk u
 | .sl t xs,v=>oE w G (eK w G t) t.size xs v
 | .ptr t x,v=>Hy w G t x v
 | .st t x,v=>∃cs,v = .agg cs.toArray/\eK w G t x cs
 | .junk,_=>True
 | _,_=>False
def Pm(L:bM)(V:Nat->Value)(r:Nat)(rg:Option (Nat×Nat))(v:Value):Prop :=
 ∃A,b5 L r=some A/\(rg=none->v=V r)/\aKe A.t.size A.xs.length (V r) (yT rg) (Hn A.xs.length rg) v
def UG(w0:World)(G:Nat->Prop)(L:bM)(V:Nat->Value):gJ->Value->Prop
 | .val u,v=>v=u/\Nk u/\u.oneCell'=true
 | .sl t xs,v=>oE w0 G (eK w0 G t) t.size xs v
 | .osl r rg,v=>Pm L V r rg v
 | .junk,v=>v.oneCell'=true
def iL(w0:World)(G:Nat->Prop)(L:bM)(V:Nat->Value):Γ gJ->Γ Value->Prop
 | [],vs=>vs=[]
 | x::xs,vs=>∃v r,vs=v::r/\UG w0 G L V x v/\iL w0 G L V xs r
def nQ(w0:World)(G:Nat->Prop)(L:bM)(V:Nat->Value):dE->Value->Prop
 | .osl r rg,v=>Pm L V r rg v
 | .optr r i p,v=>∃A,b5 L r=some A/\bD1 A.t A.xs.length (V r) i p v
 | .rcd t ls,v=>∃cs,v = .agg cs.toArray/\ls.length=t.size/\iL w0 G L V ls cs
 | .bptr r o t,v=>∃A ls b off,b5 L r=some A/\A.ls=some ls/\V r = .slice (some ⟨b,off,none⟩) 0 1/\v = .pointer (some ⟨b,off+o,none⟩)/\o+t.size<=A.t.size
 | x,v=>yD w0 G x v
def tV(w0:World)(G:Nat->Prop)(L:bM)(V:Nat->Value):Γ dE->Γ Value->Prop
 | [],vs=>vs=[]
 | x::xs,vs=>∃v r,vs=v::r/\nQ w0 G L V x v/\tV w0 G L V xs r
def mS(w0:World)(G:Nat->Prop)(L:bM)(V:Nat->Value):PV->Value->Prop
 | .a x,v=>nQ w0 G L V x v
 | .tup xs,v=>∃vs,v = .tuple vs.toArray/\tV w0 G L V xs vs
 | .fn f caps,v=>∃vs,v = .func (.func f) #[] vs.toArray/\tV w0 G L V caps vs
def pH(w0:World)(G:Nat->Prop)(w:World)(t:Ty)(bor:Bool)(x:t.den)(cs:Γ Value)(bi:Γ Nat):Prop :=
 match bor with
 | true=>eK w0 G t x cs/\bi=[]
 | false=>iA w t x cs bi
def iS(w0:World)(G:Nat->Prop)(w:World)(A:iJ)(v:Value)(bs:Γ Nat):Prop:=yE w (pH w0 G w A.t A.bor) A.t.size A.xs v bs
def ZP{w0 w w1 w':World}{G G':Nat->Prop}{t:Ty}{bor:Bool}{x:t.den}{cs:Γ Value}{bi:Γ Nat}(hG:∀b,G b->G' b)(h0:∀b,G b->w1.heap[b]? = w0.heap[b]?)(hw:∀b∈bi,w'.heap[b]? = w.heap[b]?)(h:pH w0 G w t bor x cs bi):pH w1 G' w' t bor x cs bi:=by
 revert h;unfold pH;cases bor with
 | true=>exact λh=>⟨h.1.keep hG h0,h.2⟩
 | false=>grind [iA.keep]
variable {v:Value} {bs:Γ Nat}
def iS.keepG{w0 w w1 w':World}{G G':Nat->Prop}{A:iJ}(hG:∀b,G b->G' b)(h0:∀b,G b->w1.heap[b]? = w0.heap[b]?)(hw:∀b∈bs,w'.heap[b]? = w.heap[b]?)(h:iS w0 G w A v bs):iS w1 G' w' A v bs :=
 yE.keep (λx cs bi hs hr=>ZP hG h0 (λb hb=>hw b (hs b hb)) hr) hw h
theorem iS.keep{w0 w w':World}{G:Nat->Prop}{A:iJ}(hw:∀b∈bs,w'.heap[b]? = w.heap[b]?)(h:iS w0 G w A v bs):iS w0 G w' A v bs :=
 h.keepG (λ_ h=>h) (λ_ _=>rfl) hw
theorem iS.lt{w0 w:World}{G:Nat->Prop}{A:iJ}{v:Value}{bs:Γ Nat}(h:iS w0 G w A v bs):∀b∈bs,b<w.heap.size:=by
 intro b hb;rcases h.2 with ⟨_,_,_,h⟩ | ⟨b',off,cap,cur,ty,fz,bss,h1,h2,h3,h4,h5,h6,h7,h8,h9⟩
 ·grind
 ·rw[h8]at hb;rcases aW.1 hb with rfl | hb
  ·grind
  ·obtain⟨bi,hm,hbi⟩:=kX.1 hb;obtain⟨i,hi⟩:=iM hm;have hlt:i<A.xs.length:=by grind
   obtain⟨cs,_,_,hr⟩:=h9 i _ bi (aX hlt) hi;unfold pH at hr;cases hbor:A.bor with
   | true=>grind
   | false=>rw[hbor]at hr;exact hr.lt b hbi
theorem iS.len{w0 w:World}{G:Nat->Prop}{A:iJ}(h:iS w0 G w A v bs):A.xs.length<=maxLen:=h.1
theorem iS.wf{w0 w:World}{G:Nat->Prop}{A:iJ}{v:Value}{bs:Γ Nat}(h:iS w0 G w A v bs):Wf (.sl A.t) A.xs:=by
 refine⟨h.1,λx hx=>?_⟩;rcases h.2 with ⟨_,_,h,_⟩ | ⟨b,off,cap,cur,ty,fz,bss,_,_,_,_,_,_,hl,_,hr⟩
 ·grind
 ·obtain⟨i,hi⟩:=iM hx;have hlt:i<bss.length:=by grind
  obtain⟨cs,_,_,h⟩:=hr i x _ hi (aX hlt);cases hbor:A.bor with
  | true=>rw[hbor]at h;exact h.1.wf
  | false=>rw[hbor]at h;exact h.wf
def iS.own{w0 w:World}{G:Nat->Prop}{t:Ty}{xs:Γ t.den}{ls:Option (Γ gJ)}{sm:Option Bool}:iS w0 G w ⟨t,xs,false,ls,sm⟩ v bs↔iA w (.sl t) xs [v] bs :=
 ⟨λh=>⟨v,rfl,h⟩,λ⟨v',hv,h⟩=>by cases hv;exact h⟩
def Dd(w0:World)(G:Nat->Prop)(w:World)(L:bM)(V:Nat->Value)(t:Ty)(ls:Γ gJ)(v:Value):Prop :=
 ∃b off cs,v = .slice (some ⟨b,off,none⟩) 0 1/\cs.length=t.size/\ls.length=t.size/\lD w b off cs/\iL w0 G L V ls cs
structure gU where
 w0:World
 O:Γ Nat
 G0:Nat->Prop
 Ga:Nat->Prop
def Out(K:gU)(G:Nat->Prop)(b:Nat):Prop:=¬Good K.w0 K.O b/\¬G b
structure bQ (n:Nat) (K:gU) (w0:World) (G:Nat->Prop) (w:World) (a:Act) (E:gK) (L:bM) (V:Nat->Value) (own:Nat->Γ Nat):Prop where
 glob:No K.w0 K.O
 kept:cQ K.O K.w0 w
 size:a.tmps.size=n
 defers:a.defers=[]
 glt:∀b,G b->b<w.heap.size
 gref:∀b,G b->w.heap[b]? = w0.heap[b]?
 gsub:∀b,K.G0 b->G b
 gold:∀b,K.G0 b->Good K.w0 K.O b
 gup:∀b,G b->K.Ga b\/¬Good K.w0 K.O b
 heap:∀r A,b5 L r=some A->iS w0 G w A (V r) (own r)
 good:∀r A,b5 L r=some A->∀b∈own r,Out K G b
 nodup:∀r A,b5 L r=some A->(own r).Nodup
 apart:∀r s A B,b5 L r=some A->b5 L s=some B->r≠s->∀b∈own r,b ∉ own s
 boxs:∀r A ls,b5 L r=some A->A.ls=some ls->Dd w0 G w L V A.t ls (V r)
 small:∀r A q,b5 L r=some A->A.sm=some q->(∃b off,V r = .slice (some ⟨b,off,none⟩) 1 1)/\(q=true->A.bor=true/\iS w0 K.G0 w A (V r) (own r))
 env:∀i,mS w0 G L V (E.get i) (a.tmps.getD i undef)
section
variable {n:Nat} {K:gU} {G:Nat->Prop} {w0 w w':World} {a:Act} {E:gK} {L:bM} {V:Nat->Value} {own:Nat->Γ Nat}
theorem lD.keepB{w w':World}{b off:Nat}{cs:Γ Value}(hb:w'.heap[b]? = w.heap[b]?)(h:lD w b off cs):lD w' b off cs :=
 λj c hj=>by rw[fM (w:=w) hb];exact h j c hj
theorem iS.block{A:iJ}{v:Value}{bs:Γ Nat}(h:iS w0 G w A v bs){b off m cap:Nat}(hv:v = .slice (some ⟨b,off,none⟩) m cap)(hc:1<=cap):b∈bs:=by
 rcases h.2 with ⟨_,h1,_,_⟩ | ⟨b',off',cap',cur,ty,fz,bss,h1,h2,h3,h4,h5,h6,h7,h8,h9⟩
 all_goals grind
theorem Dd.keepB{t:Ty}{ls:Γ gJ}{v:Value}(h:Dd w0 G w L V t ls v)(hw:∀b off,v = .slice (some ⟨b,off,none⟩) 0 1->w'.heap[b]? = w.heap[b]?):Dd w0 G w' L V t ls v:=by
 obtain⟨b,off,cs,h1,h3,h4,h5,h6⟩:=h;exact⟨b,off,cs,h1,h3,h4,h5.keepB (hw b off h1),h6⟩
def bQ.own_lt(hR:bQ n K w0 G w a E L V own){r:Nat}{A:iJ}(h:b5 L r=some A):∀b∈own r,b<w.heap.size:=(hR.heap r A h).lt
theorem bQ.ext(h:bQ n K w0 G w a E L V own)(k:cQ [] w w'):bQ n K w0 G w' a E L V own where
 glob:=h.glob
 kept:=h.kept.trans k.of_nil
 size:=h.size
 defers:=h.defers
 glt:=λb hb=>cZ (h.glt b hb) k.size
 gref:=λb hb=>(k.block b (h.glt b hb) (by simp)).trans (h.gref b hb)
 gsub:=h.gsub
 gold:=h.gold
 gup:=h.gup
 heap:=λr A hr=>(h.heap r A hr).keep λb hb=>k.block b (h.own_lt hr b hb) (by simp)
 good:=h.good
 nodup:=h.nodup
 apart:=h.apart
 boxs:=λr A ls hr hl=>(h.boxs r A ls hr hl).keepB λb off hv=>k.block b (h.own_lt hr b ((h.heap r A hr).block hv (aT _))) (by simp)
 small:=λr A q hr hs=>⟨(h.small r A q hr hs).1,λe=>⟨((h.small r A q hr hs).2 e).1,((h.small r A q hr hs).2 e).2.keep λb hb=>k.block b (h.own_lt hr b hb) (by simp)⟩⟩
 env:=h.env
theorem bQ.put(h:bQ n K w0 G w a E L V own){d:Nat}{p:PV}{v:Value}(hd:d<n)(hv:mS w0 G L V p v):bQ n K w0 G w (a.put (some d) v) (E.set d p) L V own where
 glob:=h.glob
 kept:=h.kept
 size:=by simp[Act.put,h.size]
 defers:=h.defers
 glt:=h.glt
 gref:=h.gref
 gsub:=h.gsub
 gold:=h.gold
 gup:=h.gup
 heap:=h.heap
 good:=h.good
 nodup:=h.nodup
 apart:=h.apart
 boxs:=h.boxs
 small:=h.small
 env:=λi=>by
  rw[gK.get_set];simp[Act.put];by_cases hi:d=i
  ·have hs:d<a.tmps.size:=by rw[h.size];lia
   simp_all
  ·have:=h.env i;simp_all
theorem bQ.ginv(h:bQ n K w0 G w a E L V own):Eg w :=
 h.glob.inv.keep λb hb hs=>h.kept.block b hs λho=>by have:=h.glob.out b ho;lia
theorem bQ.gok(h:bQ n K w0 G w a E L V own){w':World}(k:cQ [] w w'){O':Γ Nat}(hO:∀b∈O',Out K G b):No w' O' where
 inv:=(h.ext k).ginv
 size:=dV h.glob.size (dV h.kept.size k.size)
 out:=λb hb=>by
  have h1:=(hO b hb).1;rcases kJ b K.w0.heap.size with hlt | hge
  ·by_cases ho:b∈K.O
   ·exact h.glob.out b ho
   ·exact absurd ⟨hlt,ho⟩ h1
  ·exact dV h.glob.size hge
theorem bQ.out_new(h:bQ n K w0 G w a E L V own){b:Nat}(hb:w.heap.size<=b):Out K G b :=
 ⟨λhg=>by have:=hg.1;have:=h.kept.size;lia,λhg=>by have:=h.glt b hg;lia⟩
end
inductive AT where
 | v (t:Ty)
 | p (t:Ty)
 | own (t:Ty)
 | po (t:Ty)
 | fn (f:FuncId) (caps:Γ (Bool×Ty))
@[reducible] def u2:Γ (Bool×Ty)->Type
 | []=>Unit
 | (_,t)::r=>t.den×u2 r
@[reducible] def AT.den:AT->Type
 | .v t=>t.den
 | .p t=>t.den
 | .own t=>Γ t.den
 | .po t=>t.den
 | .fn _ caps=>u2 caps
@[reducible] def eQ:Γ AT->Type
 | []=>Unit
 | a::r=>a.den×eQ r
def BJ(w:World)(G:Nat->Prop):(caps:Γ (Bool×Ty))->u2 caps->Γ Value->Prop
 | [],_,vs=>vs=[]
 | (true,t)::r,x,vs=>∃v s,vs=v::s/\Hy w G t x.1 v/\BJ w G r x.2 s
 | (false,t)::r,x,vs=>∃v s,vs=v::s/\yD w G (j8 t x.1) v/\BJ w G r x.2 s
def aSy(w:World)(t:Ty)(x:t.den)(v:Value)(bs:Γ Nat):Prop :=
 ∃b off,v = .pointer (some ⟨b,off,none⟩)/\yE w (iA w t) t.size [x] (.slice (some ⟨b,off,none⟩) 1 1) bs
def aOe(w:World)(G G0:Nat->Prop):(a:AT)->a.den->Value->Γ Nat->Prop
 | .v t,x,v,bs=>bs=[]/\yD w G (j8 t x) v
 | .p t,x,v,bs=>bs=[]/\Hy w G t x v
 | .own t,xs,v,bs=>iA w (.sl t) xs [v] bs
 | .po t,x,v,bs=>aSy w t x v bs
 | .fn f caps,x,v,bs=>bs=[]/\∃vs,v = .func (.func f) #[] vs.toArray/\BJ w G caps x vs
def Hz(w:World)(G G0:Nat->Prop):(sig:Γ AT)->eQ sig->Γ Value->Γ (Γ Nat)->Prop
 | [],_,vs,bss=>vs=[]/\bss=[]
 | a::r,x,vs,bss=>∃v s b bs,vs=v::s/\bss=b::bs/\aOe w G G0 a x.1 v b/\Hz w G G0 r x.2 s bs
def Cx(w:World)(G:Nat->Prop)(sig:Γ AT)(x:eQ sig)(vs:Γ Value)(bss:Γ (Γ Nat)):Prop:=Hz w G G sig x vs bss
inductive RK where
 | own | frz
def RK.hd:Γ RK->RK
 | [] => .own
 | k::_=>k
structure Spec where
 sig:Γ AT
 pre:eQ sig->Prop
 upd:eQ sig->Γ (Option jC):=λ_=>[]
 res:eQ sig->Γ aS
 kds:Γ RK:=[]
def H2(t:Ty)(cs:Γ Value)(v:Value):Prop :=
 match t with
 | .unit | .cons _ _=>v = .agg cs.toArray
 | _=>cs=[v]
def De(w:World):Γ aS->Γ Value->Γ (Γ Nat)->Prop
 | [],vs,bss=>vs=[]/\bss=[]
 | d::r,vs,bss=>∃v s b bs cs,vs=v::s/\bss=b::bs/\iA w d.t d.x cs b/\H2 d.t cs v/\De w r s bs
def UH(w:World)(G F:Nat->Prop):RK->aS->Value->Γ Nat->Prop
 | .own,d,v,b=>∃cs,iA w d.t d.x cs b/\H2 d.t cs v
 | .frz,d,v,b=>b=[]/\∃cs,eK w (λk=>G k\/F k) d.t d.x cs/\H2 d.t cs v
def Y8(w:World)(G F:Nat->Prop):Γ RK->Γ aS->Γ Value->Γ (Γ Nat)->Prop
 | _,[],vs,bss=>vs=[]/\bss=[]
 | ks,d::r,vs,bss=>∃v s b bs,vs=v::s/\bss=b::bs/\UH w G F (RK.hd ks) d v b/\Y8 w G F ks.tail r s bs
def yU(w:World):Γ (Option jC)->Γ Value->Γ (Γ Nat)->Prop
 | [],vs,bss=>vs=[]/\bss=[]
 | none::r,vs,bss=>∃v s bs,vs=v::s/\bss=[]::bs/\yU w r s bs
 | some A::r,vs,bss=>∃v s b bs,vs=v::s/\bss=b::bs/\iA w (.sl A.t) A.xs [v] b/\yU w r s bs
def lP:Γ AT->Γ Value->Γ Value
 | .own _::r,v::s=>v::lP r s
 | .po _::r,v::s=>v::lP r s
 | _::r,_::s=>lP r s
 | _,_=>[]
def Cp:Γ AT->Γ AT
 | .own t::r => .own t::Cp r
 | .po t::r => .po t::Cp r
 | _::r=>Cp r
 | []=>[]
def aHK(w:World)(G0:Nat->Prop):AT->jC->Value->Γ Nat->Prop
 | .own t,A,v,b=>iA w (.sl A.t) A.xs [v] b
 | .po t,A,v,b=>∃x,A=⟨t,[x]⟩/\aSy w t x v b
 | _,_,_,_=>False
def TS(w:World)(G0:Nat->Prop):Γ AT->Γ (Option jC)->Γ Value->Γ (Γ Nat)->Prop
 | _,[],vs,bss=>vs=[]/\bss=[]
 | o::os,none::r,vs,bss=>∃v s bs,vs=v::s/\bss=[]::bs/\TS w G0 os r s bs
 | o::os,some A::r,vs,bss=>∃v s b bs,vs=v::s/\bss=b::bs/\aHK w G0 o A v b/\TS w G0 os r s bs
 | [],_::_,_,_=>False
def IA:Γ Value->Value
 | [v]=>v
 | vs => .tuple vs.toArray
def aOf(w:World)(H:Γ Nat)(G G0:Nat->Prop)(kds:Γ RK)(ds:Γ aS)(os:Γ AT)(us:Γ (Option jC))(ovs:Γ Value)(e:Ending)(w':World):Prop :=
 ∃(rs:Γ Value) (ubs rbs:Γ (Γ Nat)) (F:Nat->Prop),e = .returned (IA rs)/\cQ H w w'/\Y8 w' G F kds ds rs rbs/\TS w' G0 os us ovs ubs /\
  (ubs.flatten++rbs.flatten).Nodup/\(∀b∈ubs.flatten++rbs.flatten,¬Good w H b)/\∀b,F b->b<w'.heap.size/\¬Good w H b/\b ∉ ubs.flatten++rbs.flatten
def j9(P:Program)(f:FuncId)(S:Spec):Prop :=
 ∀(w:World) (G G0:Nat->Prop) (x:eQ S.sig) (vs:Γ Value) (bss:Γ (Γ Nat)),No w bss.flatten->(∀b,G b->Good w bss.flatten b)->(∀b,G0 b->G b)->S.pre x->Hz w G G0 S.sig x vs bss->bss.flatten.Nodup ->
  Calls P f vs.toArray w (aOf w bss.flatten G G0 S.kds (S.res x) (Cp S.sig) (S.upd x) (lP S.sig vs))
def Bb(P:Program)(f:FuncId)(S:Spec):Prop :=
 ∀(w:World) (x:eQ S.sig) (vs:Γ Value) (bss:Γ (Γ Nat)),No w bss.flatten->S.pre x->Cx w (Good w bss.flatten) S.sig x vs bss->bss.flatten.Nodup ->
  Calls P f vs.toArray w λe w'=>∃rs ubs rbs,e = .returned (IA rs)/\cQ bss.flatten w w'/\De w' (S.res x) rs rbs/\yU w' (S.upd x) (lP S.sig vs) ubs /\
   (ubs.flatten++rbs.flatten).Nodup/\∀b∈ubs.flatten++rbs.flatten,¬Good w bss.flatten b
def Eh:Γ AT->Bool
 | .po _::_=>false
 | _::r=>Eh r
 | []=>true
theorem Hy.keepB{w w':World}{G G':Nat->Prop}(hG:∀b,G b->G' b)(hw:∀b,G b->w'.heap[b]? = w.heap[b]?){t:Ty}{x:t.den}{v:Value}(h:Hy w G t x v):Hy w' G' t x v:=by
 obtain⟨b,off,cs,rfl,hb,hc,hr⟩:=h;exact⟨b,off,cs,rfl,hG b hb,hc.keepB (hw b hb),hr.keep hG hw⟩
theorem pI{w w':World}{G G':Nat->Prop}(hG:∀b,G b->G' b)(hw:∀b,G b->w'.heap[b]? = w.heap[b]?){A:dE}{v:Value}(h:yD w G A v):yD w' G' A v:=by
 cases A with
 | val u=>exact h
 | sl t xs=>exact oE.keep (λ_ _=>eK.keep hG hw) hG hw h
 | ptr t x=>exact Hy.keepB hG hw h
 | st t x =>
  obtain⟨cs,rfl,hr⟩:=h;exact⟨cs,rfl,hr.keep hG hw⟩
 | junk=>trivial
 | osl _ _=>exact h
 | optr _ _ _=>exact h
 | rcd _ _=>exact h
 | bptr _ _ _=>exact h
theorem BJ.keepB{w w':World}{G G':Nat->Prop}(hG:∀b,G b->G' b)(hw:∀b,G b->w'.heap[b]? = w.heap[b]?):∀ {caps:Γ (Bool×Ty)} {x:u2 caps} {vs:Γ Value},BJ w G caps x vs->BJ w' G' caps x vs
 | [],_,_,h=>h
 | (true,t)::r,x,vs,⟨v,s,h1,h2,h3⟩=>⟨v,s,h1,h2.keepB hG hw,h3.keepB hG hw⟩
 | (false,t)::r,x,vs,⟨v,s,h1,h2,h3⟩=>⟨v,s,h1,pI hG hw h2,h3.keepB hG hw⟩
theorem Hz.mono{w:World}{G G' G0 G0':Nat->Prop}(hG:∀b,G b->G' b):∀ {sig:Γ AT} {x:eQ sig} {vs:Γ Value} {bss:Γ (Γ Nat)},Eh sig=true->Hz w G G0 sig x vs bss->Hz w G' G0' sig x vs bss
 | [],_,_,_,_,h=>h
 | a::r,x,vs,bss,hp,⟨v,s,b,bs,h1,h2,h3,h4⟩=>by
  have hp':Eh r=true:=by cases a <;> first | exact hp | cases hp
  refine⟨v,s,b,bs,h1,h2,?_,h4.mono hG hp'⟩;cases a with
  | v t=>exact⟨h3.1,pI hG (λ_ _=>rfl) h3.2⟩
  | p t=>exact⟨h3.1,h3.2.keepB hG (λ_ _=>rfl)⟩
  | own t=>exact h3
  | fn f c=>obtain⟨e,vs',e2,h⟩:=h3;exact⟨e,vs',e2,h.keepB hG (λ_ _=>rfl)⟩
  | po t=>cases hp
theorem De.toK{w:World}{G F:Nat->Prop}:∀ {ds:Γ aS} {rs:Γ Value} {rbs:Γ (Γ Nat)},De w ds rs rbs->Y8 w G F [] ds rs rbs
 | [],_,_,h=>h
 | d::r,_,_,⟨v,s,b,bs,cs,h1,h2,h3,h4,h5⟩=>⟨v,s,b,bs,h1,h2,⟨cs,h3,h4⟩,h5.toK⟩
theorem yU.toK{w:World}{G0:Nat->Prop}{n0:Unit}:∀ {sig:Γ AT} {us:Γ (Option jC)} {vs:Γ Value} {ubs:Γ (Γ Nat)},Eh sig=true->vs.length=sig.length->yU w us (lP sig vs) ubs->TS w G0 (Cp sig) us (lP sig vs) ubs
 | [],us,vs,ubs,_,hl,h=>by
  cases us with
  | nil=>exact h
  | cons u us=>cases u with
   | none=>obtain⟨_,_,_,h,_⟩:=h;cases h
   | some A=>obtain⟨_,_,_,_,h,_⟩:=h;cases h
 | .v t::r,us,v::vs,ubs,hp,hl,h=>yU.toK (sig:=r) (n0:=n0) hp (by grind) h
 | .p t::r,us,v::vs,ubs,hp,hl,h=>yU.toK (sig:=r) (n0:=n0) hp (by grind) h
 | .fn f c::r,us,v::vs,ubs,hp,hl,h=>yU.toK (sig:=r) (n0:=n0) hp (by grind) h
 | .own t::r,us,v::vs,ubs,hp,hl,h=>by
  cases us with
  | nil=>exact h
  | cons u us=>cases u with
   | none =>
    obtain⟨v',s,bs,h1,h2,h3⟩:=h;obtain⟨rfl,rfl⟩:=h1;exact⟨_,_,_,rfl,h2,yU.toK (sig:=r) (n0:=n0) hp (by grind) h3⟩
   | some A =>
    obtain⟨v',s,b,bs,h1,h2,h3,h4⟩:=h;obtain⟨rfl,rfl⟩:=h1;exact⟨_,_,_,_,rfl,h2,h3,yU.toK (sig:=r) (n0:=n0) hp (by grind) h4⟩
 | .v t::r,us,[],ubs,hp,hl,h=>by grind
 | .p t::r,us,[],ubs,hp,hl,h=>by grind
 | .fn f c::r,us,[],ubs,hp,hl,h=>by grind
 | .own t::r,us,[],ubs,hp,hl,h=>by grind
 | .po t::r,us,_,ubs,hp,hl,h=>by cases hp
theorem UI{w:World}{G G0:Nat->Prop}:∀ {sig:Γ AT} {x:eQ sig} {vs:Γ Value} {bss:Γ (Γ Nat)},Hz w G G0 sig x vs bss->vs.length=sig.length
 | [],_,_,_,h=>by obtain⟨rfl,_⟩:=h;rfl
 | a::r,x,vs,bss,⟨v,s,b,bs,h1,h2,h,h3⟩=>by subst h1;simp[UI h3]
variable {P:Program}
theorem Bb.up{f:FuncId}{S:Spec}(hp:Eh S.sig=true)(hk:S.kds=[])(h:Bb P f S):j9 P f S:=by
 intro w G G0 x vs bss hg hG hG0 hpre ha hn;have hl:=UI ha;refine(h w x vs bss hg hpre (ha.mono hG hp) hn).mono ?_;rintro e w' ⟨rs,ubs,rbs,h1,h2,h3,h4,h5,h6⟩;refine⟨rs,ubs,rbs,λ_=>False,h1,h2,?_,h4.toK (n0:=()) hp hl,h5,h6,λb hb=>hb.elim⟩;rw[hk];exact h3.toK
def Ty.agg:Ty->Bool
 | .unit | .cons _ _=>true
 | _=>false
def fD:Ty->Γ Value
 | .int k=>[.int k 0]
 | .bool=>[.bool false]
 | .fn=>[.nilFunc]
 | .str=>[.string aC]
 | .sl _=>[.slice none 0 0]
 | .unit=>[]
 | .cons a b=>fD a++fD b
def hZ(t:Ty)(cs:Γ Value):Value:=if t.agg then .agg cs.toArray else cs.headD undef
def wT:TypeDesc->Ty->Bool
 | .bool,.bool | .func _ _ _,.fn | .string,.str | .slice _,.sl _ | .struct _,.unit | .struct _,.cons _ _=>true
 | .int k,.int k'=>k==k'
 | _,_=>false
structure pW (P:Program) (T:TypeId) (t:Ty):Prop where
 und:∃d,P.underlying T=some d/\wT d t=true
 info:∃i,P.info? T=some i/\i.size=t.size/\∃z,i.zero=some z/\z.cells.toList=fD t/\z=hZ t (fD t)
def IB(P:Program):Γ Field->Ty->Nat->Prop
 | [],.unit,_=>True
 | f::fs,.cons a b,o=>f.offset=o/\pW P f.type a/\a.size≠0/\IB P fs b (o+a.size)
 | _,_,_=>False
inductive TI where
 | scal (t:Ty)
 | slice (e:TypeId) (t:Ty) (bytes:Nat)
 | struct (t:Ty)
 | other
def TI.ty:TI->Option Ty
 | .scal t=>some t
 | .slice _ t _=>some (.sl t)
 | .struct t=>some t
 | .other=>none
def vEq:Value->Value->Bool
 | .int k a,.int k' b=>k==k'&&a==b
 | .bool a,.bool b=>a==b
 | .string a,.string b=>a.size==0&&b.size==0
 | .slice none 0 0,.slice none 0 0=>true
 | .nilFunc,.nilFunc=>true
 | _,_=>false
def aOg:Γ Value->Γ Value->Bool
 | [],[]=>true
 | a::r,b::s=>vEq a b&&aOg r s
 | _,_=>false
theorem aXs{a b:Value}(h:vEq a b=true):a=b:=by
 unfold vEq at h;split at h
 all_goals simp_all
theorem aAI:∀ {a b:Γ Value},aOg a b=true->a=b
 | [],[],_=>rfl
 | a::r,b::s,h=>by
  simp[aOg]at h;rw[aXs h.1,aAI h.2]
 | [],_::_,h=>by cases h
 | _::_,[],h=>by cases h
def aKf:Value->Γ Value->Bool
 | .agg cs,l=>aOg cs.toList l
 | _,_=>false
def UJ(z:Value)(t:Ty):Bool:=if t.agg then aKf z (fD t)else aOg [z] (fD t)
theorem Y9{z:Value}{t:Ty}(h:UJ z t=true):z.cells.toList=fD t/\z=hZ t (fD t):=by
 unfold UJ at h;unfold hZ;by_cases ha:t.agg=true
 ·rw[π ha]at h ⊢;unfold aKf at h;split at h
  ·have:=aAI h;refine⟨by grind [Value.cells],by rw[<- this]⟩
  lia
 ·rw[ν ha]at h ⊢;have hz:=aAI h;cases z with
  | agg cs=>cases t <;> simp[fD,Ty.agg]at hz ha
  | _=>grind [Value.cells]
def Cy(P:Program)(T:TypeId)(t:Ty):Bool :=
 (match P.underlying T with | some d=>wT d t | none=>false) &&
 (match P.info? T with | some i=>cC i.size t.size&&(match i.zero with | some z=>UJ z t | none=>false) | none=>false)
theorem yV{T:TypeId}{t:Ty}(h:Cy P T t=true):pW P T t:=by
 simp[Cy]at h;obtain⟨h1,h2⟩:=h;split at h1
 ·rename_i d hd;split at h2
  ·rename_i i hi;simp only[aV]at h2;obtain⟨h2,h3⟩:=h2;split at h3
   ·rename_i z hz;exact⟨⟨d,hd,h1⟩,⟨i,hi,bF h2,z,hz,Y9 h3⟩⟩
   lia
  lia
 lia
def aAJ(k:IntKind):Option TypeDesc->Bool
 | some (.int k')=>decide (k'=k)
 | _=>false
def Th:Option TypeDesc->Bool
 | some .bool=>true
 | _=>false
def aAK:Option TypeDesc->Bool
 | some .string=>true
 | _=>false
variable {d:Option TypeDesc}
theorem Pn{k:IntKind}(h:aAJ k d=true):d=some (.int k):=by
 unfold aAJ at h
 lia
theorem Ll(h:Th d=true):d=some .bool:=by
 grind [Th]
theorem Po(h:aAK d=true):d=some .string:=by
 grind [aAK]
def eqD:(t:Ty)->t.den->t.den->Bool
 | .int _,x,y=>(x:Int)==y
 | .bool,x,y=>(x:Bool)==y
 | .fn,x,y=>(x:Option Nat)==y
 | .str,x,y=>aB x==aB y
 | .sl _,_,_=>false
 | .unit,_,_=>true
 | .cons a b,x,y=>eqD a x.1 y.1&&eqD b x.2 y.2
def dep:Ty->Nat
 | .cons a b=>Nat.max (dep a+1) (dep b)
 | _=>0
def LF(P:Program)(agg:Bool)(T:TypeId)(k:TypeId ⊕ (Γ Field×Nat)->Bool):Bool :=
 match agg with
 | true=>match P.underlying T with
  | some (.struct fs) => !P.stoodInHeld T&&k (.inr (fs.toList,0))
  | _=>false
 | false=>k (.inl T)
def ZQ(P:Program):Ty->TypeId ⊕ (Γ Field×Nat)->Bool
 | .int k,.inl T=>aAJ k (P.underlying T)
 | .bool,.inl T=>Th (P.underlying T)
 | .str,.inl T=>aAK (P.underlying T)
 | .unit,.inr ([],_)=>true
 | .cons a b, .inr (f :: fs, o) => f.name != "_" && (cC f.offset o && (Cy P f.type a && (LF P a.agg f.type (ZQ P a) && ZQ P b (.inr (fs, o + a.size)))))
 | _,_=>false
def eqT(P:Program)(t:Ty)(T:TypeId):Bool:=pE (dep t) 9999&&(!P.eqGuardType P.depth T&&LF P t.agg T (ZQ P t))
def Ho(P:Program)(T:TypeId):TI->Prop
 | .scal t=>pW P T t
 | .slice e t by'=>pW P T (.sl t)/\P.underlying T=some (.slice e)/\pW P e t/\(P.info? e).map (·.bytes)=some by'
 | .struct t=>pW P T t/\∃fs,P.underlying T=some (.struct fs)/\IB P fs.toList t 0/\(t.flat=true->eqT P t T=true)
 | .other=>True
def jP:Γ TI->Nat->TI
 | [],_ => .other
 | a::_,0=>a
 | _::r,n+1=>jP r n
def kZ(P:Program)(tab:Γ TI):Prop:=∀T,Ho P T (jP tab T)
def Cz(P:Program):Γ Field->Ty->Nat->Bool
 | [],.unit,_=>true
 | f::fs,.cons a b,o=>cC f.offset o&&Cy P f.type a && !(cC a.size 0)&&Cz P fs b (o+a.size)
 | _,_,_=>false
theorem IC{P:Program}:∀ {fs:Γ Field} {t:Ty} {o:Nat},Cz P fs t o=true->IB P fs t o
 | [],.unit,_,_=>trivial
 | f::fs,.cons a b,o,h=>by
  simp only[Cz,aV]at h;obtain⟨⟨⟨h1,h2⟩,h3⟩,h4⟩:=h;exact⟨bF h1,yV h2,λe=>by simp_all,IC h4⟩
 | [],.int _,_,h=>by cases h
 | [],.bool,_,h=>by cases h
 | [],.fn,_,h=>by cases h
 | [],.str,_,h=>by cases h
 | [],.sl _,_,h=>by cases h
 | [],.cons _ _,_,h=>by cases h
 | _::_,.int _,_,h=>by cases h
 | _::_,.bool,_,h=>by cases h
 | _::_,.fn,_,h=>by cases h
 | _::_,.str,_,h=>by cases h
 | _::_,.sl _,_,h=>by cases h
 | _::_,.unit,_,h=>by cases h
def Ti(P:Program)(T:TypeId):TI->Bool
 | .scal t=>Cy P T t
 | .slice e t by'=>Cy P T (.sl t)&&(match P.underlying T with | some (.slice e')=>cC e e' | _=>false)&&Cy P e t&&(match P.info? e with | some i=>cC i.bytes by' | none=>false)
 | .struct t=>Cy P T t&&(match P.underlying T with | some (.struct fs)=>Cz P fs.toList t 0&&(!t.flat||eqT P t T) | _=>false)
 | .other=>true
theorem aHL{T:TypeId}{i:TI}(h:Ti P T i=true):Ho P T i:=by
 cases i with
 | scal t=>exact yV h
 | slice e t by' =>
  simp[Ti]at h;obtain⟨⟨⟨h1,h2⟩,h3⟩,h4⟩:=h;refine⟨yV h1,?_,yV h3,?_⟩
  all_goals grind [bF]
 | struct t =>
  simp[Ti]at h;refine⟨yV h.1,?_⟩;have h2:=h.2;split at h2
  ·grind [IC]
  lia
 | other=>trivial
def wU(P:Program):Γ TI->Nat->Bool
 | [],_=>true
 | i::r,T=>Ti P T i&&wU P r (T+1)
theorem H3{P:Program}:∀ {tab:Γ TI} {S:Nat},wU P tab S=true->∀T,Ho P (S+T) (jP tab T)
 | [],_,_,_=>trivial
 | i::r,S,h,0=>by
  simp[wU]at h;exact aHL h.1
 | i::r,S,h,T+1=>by
  simp[wU]at h;have:=H3 h.2 T
  rwa [show S+(T+1)=S+1+T from by lia]
theorem UK{tab:Γ TI}(h:wU P tab 0=true):kZ P tab:=λT=>by
 have:=H3 h T
 lia
section
variable {P:Program} {w:World}
variable {T:TypeId} {t:Ty}
theorem pW.size_run(h:pW P T t)(w:World):(sizeOf T).run P w = .ok t.size w:=by
 obtain⟨i,hi,hs,_⟩:=h.info;simp[sizeOf,typeInfo,hi,hs]
theorem pW.agg_run(h:pW P T t)(w:World):(isAgg T).run P w = .ok t.agg w:=by
 obtain⟨d,hd,hf⟩:=h.und;unfold isAgg;simp[run_underlying hd];cases d <;> cases t <;> simp_all [wT,Ty.agg]
theorem pW.zero_run(h:pW P T t)(w:World):(zeroValue T).run P w = .ok (hZ t (fD t)) w:=by
 obtain⟨i,hi,_,z,hz,_,hv⟩:=h.info;simp[zeroValue,typeInfo,hi,hz,hv]
theorem DA(h:pW P T t){b off:Nat}{cs:Γ Value}(hl:cs.length=t.size)(hc:lD w b off cs) :
  (loadVar T ⟨b,off,none⟩).run P w = .ok (hZ t cs) w:=by
 unfold loadVar hZ;simp[h.agg_run];cases ha:t.agg with
 | true =>
  have:=run_loadCells_list (P:=P) w ⟨b,off,none⟩ cs (λj v hj=>by rw[gB];exact hc j v hj);simp[h.size_run, <- hl,this]
 | false =>
  have h1:t.size=1:=by cases t <;> simp_all [Ty.agg,Ty.size]
  rw[h1]at hl
  match cs,hl with
  | [c],_ =>
   have:=hc 0 c rfl;simp_all
theorem eK.repB{G:Nat->Prop}{x:t.den}{cs:Γ Value}(h:eK w G t x cs):yD w G (j8 t x) (hZ t cs):=by
 cases t with
 | int k=>obtain⟨rfl,h⟩:=h;exact⟨rfl,h⟩
 | bool=>cases h;exact⟨rfl,trivial⟩
 | fn=>cases h;exact⟨rfl,aHJ x⟩
 | str=>obtain⟨rfl,h⟩:=h;exact⟨rfl,h⟩
 | sl e=>obtain⟨v,rfl,h⟩:=h;exact h
 | unit=>exact⟨cs,rfl,h⟩
 | cons a b=>exact⟨cs,rfl,h⟩
theorem KR{G:Nat->Prop}:∀ {t:Ty} {x:t.den} {n:Nat} {d:aS} {cs:Γ Value},aLI t x n=some d->eK w G t x cs ->
  ∃o,kV t n=some (o,d.t)/\eK w G d.t d.x ((cs.drop o).take d.t.size)/\o+d.t.size<=cs.length
 | .cons a b,x,0,d,cs,h,hr=>by
  obtain⟨c1,c2,rfl,h1,h2⟩:=hr;cases h;refine⟨0,rfl,?_,by rw[aU,h1.length];lia⟩;simp;rw[<- h1.length,Jq]
  lia
 | .cons a b,x,n+1,d,cs,h,hr=>by
  obtain⟨c1,c2,rfl,h1,h2⟩:=hr;obtain⟨o,ho,hro,hl⟩:=KR (t:=b) h h2;refine⟨a.size+o,by grind [kV],?_,by rw[aU,h1.length];lia⟩;rw[<- h1.length,zV,gC (by lia),dL,lV]
  lia
 | .int _,_,_,_,_,h,_=>by cases h
 | .bool,_,_,_,_,h,_=>by cases h
 | .fn,_,_,_,_,h,_=>by cases h
 | .str,_,_,_,_,h,_=>by cases h
 | .sl _,_,_,_,_,h,_=>by cases h
 | .unit,_,_,_,_,h,_=>by cases h
theorem Bi:∀ {fs:Γ Field} {t:Ty} {o n:Nat} {fo:Nat} {ft:Ty},IB P fs t o->kV t n=some (fo,ft) ->
  ∃f,fs[n]? = some f/\f.offset=o+fo/\pW P f.type ft/\ft.size≠0
 | f::fs,.cons a b,o,0,fo,ft,h,h2=>by
  cases h2;exact⟨f,rfl,h.1,h.2.1,h.2.2.1⟩
 | f::fs,.cons a b,o,n+1,fo,ft,h,h2=>by
  simp[kV]at h2;split at h2
  ·rename_i o' t' h3;cases h2;obtain⟨g,h4,h5,h6,h7⟩:=Bi (n:=n) h.2.2.2 h3;exact⟨g,by simpa using h4,by omega,h6,h7⟩
  ·cases h2
 | [],.unit,_,_,_,_,_,h2=>by cases h2
 | [],.int _,_,_,_,_,h,_=>h.elim
 | [],.bool,_,_,_,_,h,_=>h.elim
 | [],.fn,_,_,_,_,h,_=>h.elim
 | [],.str,_,_,_,_,h,_=>h.elim
 | [],.sl _,_,_,_,_,h,_=>h.elim
 | [],.cons _ _,_,_,_,_,h,_=>h.elim
 | _::_,.int _,_,_,_,_,h,_=>h.elim
 | _::_,.bool,_,_,_,_,h,_=>h.elim
 | _::_,.fn,_,_,_,_,h,_=>h.elim
 | _::_,.str,_,_,_,_,h,_=>h.elim
 | _::_,.sl _,_,_,_,_,h,_=>h.elim
 | _::_,.unit,_,_,_,_,h,_=>h.elim
theorem ID{S:TypeId}(h:Ho P S (.struct t)){n fo:Nat}{ft:Ty}(hf:kV t n=some (fo,ft))(b off:Nat) :
  (L7 S (.pointer (some ⟨b,off,none⟩)) n).run P w = .ok (.pointer (some ⟨b,off+fo,none⟩)) w:=by
 obtain⟨_,fs,hu,hfs,_⟩:=h;obtain⟨f,h1,h2,h3,h4⟩:=Bi hfs hf;have h1':fs[n]? = some f:=by grind
 unfold L7;simp[run_underlying hu,h1',n5,fieldPlace,h3.size_run,ν h4,gB]
theorem UL(h:pW P T t)(cs:Γ Value)(o:Nat)(hl:o+t.size<=cs.length) :
  (part T cs.toArray o).run P w = .ok (hZ t ((cs.drop o).take t.size)) w:=by
 unfold part hZ;simp[h.agg_run];cases ha:t.agg with
 | true=>simp[h.size_run]
 | false =>
  have h1:t.size=1:=by cases t <;> simp_all [Ty.agg,Ty.size]
  rw[h1]at hl ⊢;have hlt:o<cs.length:=by lia
  simp[hlt,List.take_one]
theorem ZR{S:TypeId}(h:Ho P S (.struct t)){n fo:Nat}{ft:Ty}(hf:kV t n=some (fo,ft))(cs:Γ Value)(hl:fo+ft.size<=cs.length) :
  (TD S (.agg cs.toArray) n).run P w = .ok (hZ ft ((cs.drop fo).take ft.size)) w:=by
 obtain⟨_,fs,hu,hfs,_⟩:=h;obtain⟨f,h1,h2,h3,h4⟩:=Bi hfs hf;unfold TD;simp[run_underlying hu,asAgg]
 grind [UL]
theorem SE{T e:TypeId}{by':Nat}(h:Ho P T (.slice e t by')){k:IntKind}{i:Int}(b off len cap:Nat)(h0:0<=i)(h1:i<len) :
  (EY T (.slice (some ⟨b,off,none⟩) len cap) (.int k i)).run P w = .ok (.pointer (some ⟨b,off+i.toNat*t.size,none⟩)) w:=by
 obtain⟨_,hu,he,_⟩:=h;unfold EY;simp[asIntOf,run_underlying hu,h0,h1,he.size_run,gB]
end
def iD:Γ Prop->Prop
 | []=>True
 | p::r=>p/\iD r
theorem iD.append{l m:Γ Prop}:iD (l++m)↔iD l/\iD m:=by
 induction l with
 | nil=>simp[iD]
 | cons p r ih=>simp[iD,ih,and_assoc]
theorem uK(k:IntKind)(n:Int):bA k (k.wrap n):=by
 cases k <;> simp[bA,mZ,p7,p8,oJ,n7] <;> (try split) <;> omega
theorem pX{k:IntKind}{n:Int}(h:bA k n):k.wrap n=n:=by
 cases k <;> simp[bA,mZ,p7,p8,oJ,n7]at h ⊢ <;> (try split) <;> omega
def SF(op:BinOp)(k:IntKind)(x y:Int):Int :=
 let a:=BitVec.ofInt k.bits x
 let b:=BitVec.ofInt k.bits y
 match op with
 | .and=>k.wrap (a &&& b).toNat
 | .or=>k.wrap (a ||| b).toNat
 | .xor=>k.wrap (a ^^^ b).toNat
 | _=>k.wrap (a &&& ~~~b).toNat
def bD2(k:IntKind)(x y:Int):Int:=k.wrap (x*2^min y.toNat k.bits)
def aXt(k:IntKind)(x y:Int):Int:=x.fdiv (2^min y.toNat k.bits)
def aOi(wr:Bool)(op:BinOp)(k:IntKind)(a b:Int):Option (Γ Prop×Value) :=
 match op with
 | .add=>match wr with | true=>some ([],.int k (k.wrap (a+b))) | false=>some ([bA k (a+b)],.int k (a+b))
 | .sub=>match wr with | true=>some ([],.int k (k.wrap (a-b))) | false=>some ([bA k (a-b)],.int k (a-b))
 | .mul=>match wr with | true=>some ([],.int k (k.wrap (a*b))) | false=>some ([bA k (a*b)],.int k (a*b))
 | .quo=>some ([b≠0,bA k (a.tdiv b)],.int k (a.tdiv b))
 | .rem=>some ([b≠0,bA k (a.tmod b)],.int k (a.tmod b))
 | .and=>some ([],.int k (SF .and k a b))
 | .or=>some ([],.int k (SF .or k a b))
 | .xor=>some ([],.int k (SF .xor k a b))
 | .andNot=>some ([],.int k (SF .andNot k a b))
 | .eql=>some ([],.bool (a==b))
 | .neq=>some ([],.bool (a != b))
 | .lss=>some ([],.bool (decide (a<b)))
 | .leq=>some ([],.bool (decide (a<=b)))
 | .gtr=>some ([],.bool (decide (a>b)))
 | .geq=>some ([],.bool (decide (a>=b)))
 | .shl=>some ([0<=b],.int k (bD2 k a b))
 | .shr=>some ([0<=b,bA k (aXt k a b)],.int k (aXt k a b))
def aXu(op:BinOp)(a b:Δ):Option (Γ Prop×Value) :=
 match op with
 | .add=>some ([a.size+b.size<=maxLen],.string (a++b))
 | .eql=>some ([],.bool (a.toList==b.toList))
 | .neq=>some ([],.bool (!(a.toList==b.toList)))
 | .lss=>some ([],.bool (bK a.toList b.toList))
 | .leq=>some ([],.bool (bK a.toList b.toList||a.toList==b.toList))
 | .gtr=>some ([],.bool (!(bK a.toList b.toList||a.toList==b.toList)))
 | .geq=>some ([],.bool (!bK a.toList b.toList))
 | _=>none
def aXv(wr:Bool)(op:BinOp):Value->Value->Option (Γ Prop×Value)
 | .int k a,.int k' b=>match op with
  | .shl=>aOi wr .shl k a b
  | .shr=>aOi wr .shr k a b
  | op=>if k=k' then aOi wr op k a b else none
 | .string a,.string b=>aXu op a b
 | _,_=>none
section
variable {P:Program} {w:World}
theorem UM{wr:Bool}{op:BinOp}{k k':IntKind}{a b:Int}{cs:Γ Prop}{r:Value}(h:aOi wr op k a b=some (cs,r))(hc:iD cs)(hk:k=k'\/op = .shl\/op = .shr)(T:TypeId) :
  (binOp op T (.int k a) (.int k' b)).run P w = .ok r w/\Nk r:=by
 unfold aOi at h;cases op <;> simp only at h
 case add=>cases wr <;> cases h <;> (obtain rfl:=hk.resolve_right (by simp)) <;> simp_all [binOp,Jr,Nk,uK,iD,pX]
 case sub=>cases wr <;> cases h <;> (obtain rfl:=hk.resolve_right (by simp)) <;> simp_all [binOp,Jr,Nk,uK,iD,pX]
 case mul=>cases wr <;> cases h <;> (obtain rfl:=hk.resolve_right (by simp)) <;> simp_all [binOp,Jr,Nk,uK,iD,pX]
 case quo=>cases h;obtain rfl:=hk.resolve_right (by simp);simp only[iD]at hc;simp[binOp,Op.intDiv,Nk,hc.1,hc.2.1,pX]
 case rem=>cases h;obtain rfl:=hk.resolve_right (by simp);simp only[iD]at hc;simp[binOp,Op.intDiv,Nk,hc.1,hc.2.1]
 case and=>cases h;obtain rfl:=hk.resolve_right (by simp);simp[binOp,N2,Nk,SF,uK]
 case or=>cases h;obtain rfl:=hk.resolve_right (by simp);simp[binOp,N2,Nk,SF,uK]
 case xor=>cases h;obtain rfl:=hk.resolve_right (by simp);simp[binOp,N2,Nk,SF,uK]
 case andNot=>cases h;obtain rfl:=hk.resolve_right (by simp);simp[binOp,N2,Nk,SF,uK]
 case shl=>cases h;simp only[iD]at hc;have h0:¬b<0:=(by omega);simp[binOp,Op.shift,Nk,bD2,uK,h0]
 case shr=>cases h;simp only[iD]at hc;have h0:¬b<0:=(by omega);simp[binOp,Op.shift,Nk,aXt,h0];exact hc.2.1
 all_goals cases h;obtain rfl:=hk.resolve_right (by simp);simp[binOp,Op.intCmp,Nk]
theorem aOj{op:BinOp}{a b:Δ}{cs:Γ Prop}{r:Value}(h:aXu op a b=some (cs,r))(hc:iD cs)(T:TypeId) :
  (binOp op T (.string a) (.string b)).run P w = .ok r w/\Nk r:=by
 unfold aXu at h;cases op <;> simp only at h <;> first | (cases h;done) | cases h
 case add =>
  simp only[iD]at hc;have h0:¬((a.size+b.size:Nat):Int)>9223372036854775807:=by have:=hc.1;unfold maxLen at this;omega
  have h1:¬(9223372036854775807:Int)<(a.size:Int)+(b.size:Int):=by omega
  simp[binOp,aGP,h1,Nk];exact hc.1
 all_goals simp[binOp,aGP,Nk]
theorem aEu{wr:Bool}{op:BinOp}{u v:Value}{cs:Γ Prop}{r:Value}(h:aXv wr op u v=some (cs,r))(hc:iD cs)(T:TypeId)(x y:Operand) :
  (do eqGuard op T x y u v;binOp op T u v:Sem Value).run P w = .ok r w/\Nk r:=by
 unfold aXv at h;split at h
 ·rename_i k a k' b;rw[eqGuard_at_int];simp only[c8,dW,bL];split at h
  ·exact UM h hc (.inr (.inl rfl)) T
  ·exact UM h hc (.inr (.inr rfl)) T
  ·by_cases hk:k=k'
   ·rw[π hk]at h;exact UM h hc (.inl hk) T
   ·rw[ν hk]at h;cases h
 ·rw[eqGuard_at_string];simp only[c8,dW,bL];exact aOj h hc T
 ·cases h
end
def okC:Value->Bool
 | .int k n=>decide (k.min<=n)&&decide (n<=k.max)
 | .string s=>pE s.size 1048576
 | .slice none n c=>cC n 0&&cC c 0
 | .bool _=>true
 | _=>false
theorem aXw{v:Value}(h:okC v=true):Nk v:=by
 unfold okC at h;split at h
 ·simp at h;exact h
 ·simp at h;simp only[Nk,maxLen];omega
 ·simp at h;exact h
 ·trivial
 ·cases h
def opnd(E:gK):Operand->PV
 | .tmp t=>E.get t
 | .const v=>match okC v with | true => .a (.val v) | false => .a .junk
 | .func f => .fn f []
 | .global _ => .a .junk
section
variable {n:Nat} {K:gU} {G:Nat->Prop} {w0 w:World} {a:Act} {E:gK} {L:bM} {V:Nat->Value} {own:Nat->Γ Nat}
theorem bQ.opnd(h:bQ n K w0 G w a E L V own)(x:Operand):mS w0 G L V (opnd E x) (a.eval x):=by
 cases x with
 | tmp t=>exact h.env t
 | const v =>
  simp only[Am.opnd];cases hc:okC v with
  | true=>exact⟨rfl,aXw hc⟩
  | false=>trivial
 | func f=>exact⟨[],rfl,rfl⟩
 | global g=>trivial
theorem bQ.atom(h:bQ n K w0 G w a E L V own){x:Operand}{A:dE}(hx:Am.opnd E x = .a A):nQ w0 G L V A (a.eval x):=by
 have:=h.opnd x;rw[hx]at this;exact this
theorem bQ.valEq(h:bQ n K w0 G w a E L V own){x:Operand}{v:Value}(hx:Am.opnd E x = .a (.val v)):a.eval x=v/\Nk v:=h.atom hx
end
theorem aEv{w:World}:∀ {t:Ty} {x:t.den} {n:Nat} {d:aS} {cs:Γ Value} {bs:Γ Nat},aLI t x n=some d->iA w t x cs bs ->
  ∃o bs',kV t n=some (o,d.t)/\iA w d.t d.x ((cs.drop o).take d.t.size) bs'/\o+d.t.size<=cs.length/\∀b∈bs',b∈bs
 | .cons a b,x,0,d,cs,bs,h,hr=>by
  obtain⟨c1,c2,b1,b2,rfl,rfl,h1,h2⟩:=hr;cases h;refine⟨0,b1,rfl,?_,by rw[aU,h1.length];lia,λb hb=>dA _ hb⟩;simp;rw[<- h1.length,Jq]
  lia
 | .cons a b,x,n+1,d,cs,bs,h,hr=>by
  obtain⟨c1,c2,b1,b2,rfl,rfl,h1,h2⟩:=hr;obtain⟨o,bs',ho,hro,hl,hb⟩:=aEv (t:=b) h h2;refine⟨a.size+o,bs',by grind [kV],?_,by rw[aU,h1.length];lia,λb hb'=>dC _ (hb b hb')⟩;rw[<- h1.length,zV,gC (by lia),dL,lV]
  lia
 | .int _,_,_,_,_,_,h,_=>by cases h
 | .bool,_,_,_,_,_,h,_=>by cases h
 | .fn,_,_,_,_,_,h,_=>by cases h
 | .str,_,_,_,_,_,h,_=>by cases h
 | .sl _,_,_,_,_,_,h,_=>by cases h
 | .unit,_,_,_,_,_,h,_=>by cases h
theorem LG{α:Type}(l:Γ α)(o n o' n':Nat)(h:o'+n'<=n):(((l.drop o).take n).drop o').take n'=(l.drop (o+o')).take n':=by
 rw[List.drop_take,YI,pP]
 congr 1
 omega
theorem Pp{w:World}:∀ {p:Γ Nat} {d0 d:aS} {cs:Γ Value} {bs:Γ Nat},Np p d0=some d->iA w d0.t d0.x cs bs ->
  ∃o bs',lC p d0.t=some (o,d.t)/\iA w d.t d.x ((cs.drop o).take d.t.size) bs'/\o+d.t.size<=cs.length/\∀b∈bs',b∈bs
 | [],d0,d,cs,bs,h,hr=>by
  cases h;refine⟨0,bs,rfl,?_,by rw[hr.length];lia,λ_ h=>h⟩;rw[gP, <- hr.length,jT]
  lia
 | f::p,d0,d,cs,bs,h,hr=>by
  simp[Np]at h;split at h
  ·rename_i d1 h1;obtain⟨o1,b1,ho1,hr1,hl1,hb1⟩:=aEv h1 hr;obtain⟨o2,b2,ho2,hr2,hl2,hb2⟩:=Pp h hr1;have hl2':o2+d.t.size<=d1.t.size:=by
    rw[hr1.length]at hl2;exact hl2
   refine⟨o1+o2,b2,by simp[lC,ho1,ho2],?_,by omega,λb hb=>hb1 b (hb2 b hb)⟩;rw[LG _ _ _ _ _ hl2']at hr2;exact hr2
  ·cases h
theorem Pq{w:World}{G:Nat->Prop}:∀ {p:Γ Nat} {d0 d:aS} {cs:Γ Value},Np p d0=some d->eK w G d0.t d0.x cs ->
  ∃o,lC p d0.t=some (o,d.t)/\eK w G d.t d.x ((cs.drop o).take d.t.size)/\o+d.t.size<=cs.length
 | [],d0,d,cs,h,hr=>by
  cases h;refine⟨0,rfl,?_,by rw[hr.length];lia⟩;rw[gP, <- hr.length,jT]
  lia
 | f::p,d0,d,cs,h,hr=>by
  simp[Np]at h;split at h
  ·rename_i d1 h1;obtain⟨o1,ho1,hr1,hl1⟩:=KR h1 hr;obtain⟨o2,ho2,hr2,hl2⟩:=Pq h hr1;have hl2':o2+d.t.size<=d1.t.size:=by
    rw[hr1.length]at hl2;exact hl2
   refine⟨o1+o2,by simp[lC,ho1,ho2],?_,by omega⟩;rw[LG _ _ _ _ _ hl2']at hr2;exact hr2
  ·cases h
def aV3:gJ->dE
 | .val v => .val v
 | .sl t xs => .sl t xs
 | .osl r rg => .osl r rg
 | .junk => .junk
def aLJ:Value->Option (Option Nat)
 | .nilFunc=>some none
 | .func (.func f) x y=>match x.toList,y.toList with
  | [],[]=>some (some f)
  | _,_=>none
 | _=>none
theorem aAL{v:Value}{f:Option Nat}(h:aLJ v=some f):v=fnV f:=by
 unfold aLJ at h;split at h
 ·cases h;rfl
 ·rename_i g x y;split at h
  ·cases h;have e1:x = #[]:=by grind
   have e2:y = #[]:=by grind
   rw[e1,e2];rfl
  lia
 lia
def u9:(t:Ty)->Γ gJ->Option t.den
 | .int k,ls=>match ls with
  | [.val (.int k' n)]=>match decide (k=k')with | true=>some n | false=>none
  | _=>none
 | .bool,ls=>match ls with
  | [.val (.bool b)]=>some b
  | _=>none
 | .fn,ls=>match ls with
  | [.val v]=>aLJ v
  | _=>none
 | .str,ls=>match ls with
  | [.val (.string s)]=>some s
  | _=>none
 | .sl e,ls=>match ls with
  | [.val (.slice none _ _)]=>some []
  | [.sl t xs]=>if h:t=e then some (h ▸ xs)else none
  | _=>none
 | .unit,ls=>match ls with
  | []=>some ()
  | _=>none
 | .cons a b,ls=>match u9 a (ls.take a.size),u9 b (ls.drop a.size)with
  | some x,some y=>some (x,y)
  | _,_=>none
def aOk:Γ gJ->Bool
 | []=>false
 | .sl _ _::_=>true
 | _::r=>aOk r
def aSz(t:Ty)(ls:Γ gJ):Bool := !t.flat && !aOk ls
def aS0(t:Ty)(ls:Γ gJ):Option dE :=
 match t.agg with
 | true=>match aSz t ls,u9 t ls with
  | false,some x=>some (.st t x)
  | _,_=>some (.rcd t ls)
 | false=>match ls with
  | [l]=>some (aV3 l)
  | _=>none
def aKg(L:bM)(t:Ty):dE->Option dE
 | .bptr r o t'=>match decide (t'=t),b5 L r with
  | true,some A=>match A.ls with
   | some ls=>aS0 t ((ls.drop o).take t.size)
   | none=>none
  | _,_=>none
 | .ptr t' x=>match decide (t'=t)with | true=>some (j8 t' x) | false=>none
 | .optr r i p=>match b5 L r with
  | some A=>match Np p ⟨A.t,A.xs.getD i A.t.dflt⟩ with
   | some d=>match decide (d.t=t)&&(A.bor||d.t.flat)with | true=>some d.atom | false=>none
   | none=>none
  | none=>none
 | _=>none
def UN(L:bM)(t:Ty)(f:Nat):dE->Option dE
 | .bptr r o t'=>match decide (t'=t),kV t' f with
  | true,some (o',ft)=>some (.bptr r (o+o') ft)
  | _,_=>none
 | .ptr t' x=>match decide (t'=t)with
  | true=>match aLI t' x f with | some d=>some (.ptr d.t d.x) | none=>none
  | false=>none
 | .optr r i p=>match b5 L r with
  | some A=>match lC p A.t with
   | some (_,t')=>match decide (t'=t)with
    | true=>match kV t' f with | some _=>some (.optr r i (p++[f])) | none=>none
    | false=>none
   | none=>none
  | none=>none
 | _=>none
def aHM(t:Ty)(f:Nat):dE->Option dE
 | .rcd t' ls=>match decide (t'=t),kV t f with
  | true,some (o,ft)=>aS0 ft ((ls.drop o).take ft.size)
  | _,_=>none
 | .st t' x=>match decide (t'=t)with
  | true=>match aLI t' x f with | some d=>some d.atom | none=>none
  | false=>none
 | _=>none
def UO(s:Δ)(i:Int):Int:=((s.data.toList.getD i.toNat 0).toNat:Int)
def UP(L:bM)(t:Ty)(n:Int):dE->Option (Γ Prop×dE)
 | .sl t' xs=>match decide (t'=t)with
  | true=>some ([0<=n,n<(xs.length:Int)],.ptr t' (xs.getD n.toNat t'.dflt))
  | false=>none
 | .osl r rg=>match b5 L r with
  | some A=>match decide (A.t=t)with
   | true=>match rg with
    | none=>some ([0<=n,n<(A.xs.length:Int)],.optr r n.toNat [])
    | some (lo,hi)=>some ([0<=n,n<((hi-lo:Nat):Int)],.optr r (lo+n.toNat) [])
   | false=>none
  | none=>none
 | _=>none
def aXx(L:bM):dE->Option Int
 | .val (.string s)=>some (s.size:Int)
 | .val (.slice none _ _)=>some 0
 | .sl _ xs=>some (xs.length:Int)
 | .osl r rg=>match b5 L r with
  | some A=>match rg with
   | none=>some (A.xs.length:Int)
   | some (lo,hi)=>some ((hi-lo:Nat):Int)
  | none=>none
 | _=>none
section
variable {P:Program} {n:Nat} {K:gU} {G:Nat->Prop} {w0 w:World} {a:Act} {E:gK} {L:bM} {V:Nat->Value} {own:Nat->Γ Nat}
def bQ.keepG(h:bQ n K w0 G w a E L V own){w':World}(k:cQ [] w w'):∀b,G b->w'.heap[b]? = w0.heap[b]? :=
 (h.ext k).gref
variable {cs:Γ Value}
theorem lD.keep{w w':World}{b off:Nat}(hb:w'.heap[b]? = w.heap[b]?)(h:lD w b off cs):lD w' b off cs:=h.keepB hb
theorem UQ{A:iJ}{v:Value}{bs:Γ Nat}{b off m cap:Nat}(h:iS w0 G w A v bs)(hv:v = .slice (some ⟨b,off,none⟩) m cap){i:Nat}{x:A.t.den}(hx:A.xs[i]? = some x) :
  ∃cs bi,lD w b (off+i*A.t.size) cs/\pH w0 G w A.t A.bor x cs bi/\(∀k∈bi,k∈bs)/\b∈bs:=by
 rcases h.2 with ⟨_,_,h0,_⟩ | ⟨b',off',cap',cur,ty,fz,bss,h1,h2,h3,h4,h5,h6,h7,h8,h9⟩
 ·grind
 ·have hlt:i<bss.length:=by grind
  obtain⟨cs,hl,hc,hr⟩:=h9 i x _ hx (aX hlt);refine⟨cs,_,λj c hj=>?_,hr,λk hk=>by rw[h8];exact aM _ (qC (aX hlt) k hk),by grind⟩
  grind [gW]
theorem qD{α:Type}(xs:Γ α)(i:Nat)(d:α)(h:i<xs.length):xs[i]? = some (xs.getD i d):=by
 grind
theorem lD.sub{w:World}{b off:Nat}(h:lD w b off cs)(o m:Nat):lD w b (off+o) ((cs.drop o).take m):=λj c hj=>by
 rw[kY]at hj;split at hj
 ·rw[vX]at hj;rw[fY];exact h _ _ hj
 lia
variable {t:Ty}
theorem AF{x:t.den}{v:Value}(h:yD w0 G (j8 t x) v):nQ w0 G L V (j8 t x) v:=by
 cases t <;> exact h
theorem Ei:∀ {ls:Γ gJ} {cs:Γ Value},iL w0 G L V ls cs->cs.length=ls.length
 | [],_,h=>by cases h;rfl
 | _::_,_,⟨_,_,h,_,h2⟩=>by subst h;simp[Ei h2]
theorem rZ:∀ {ls:Γ gJ} {cs:Γ Value} (k:Nat),iL w0 G L V ls cs->iL w0 G L V (ls.drop k) (cs.drop k)
 | _,_,0,h=>h
 | [],_,k+1,h=>by cases h;rfl
 | _::_,_,k+1,⟨_,_,h,_,h2⟩=>by subst h;exact rZ k h2
theorem r9:∀ {ls:Γ gJ} {cs:Γ Value} (k:Nat),iL w0 G L V ls cs->iL w0 G L V (ls.take k) (cs.take k)
 | _,_,0,h=>by rfl
 | [],_,k+1,h=>by cases h;rfl
 | _::_,_,k+1,⟨v,r,h,h1,h2⟩=>by subst h;exact⟨v,r.take k,by rfl,h1,r9 k h2⟩
theorem aLK{l:gJ}{v:Value}(h:UG w0 G L V l v):nQ w0 G L V (aV3 l) v:=by
 cases l with
 | val u=>exact⟨h.1,h.2.1⟩
 | sl t xs=>exact h
 | osl r rg=>exact h
 | junk=>trivial
theorem jQ:∀ {t:Ty} {ls:Γ gJ} {x:t.den} {cs:Γ Value},iL w0 G L V ls cs->u9 t ls=some x->eK w0 G t x cs
 | .int k,ls,x,cs,hr,h=>by
  simp only[u9]at h;split at h
  ·split at h
   ·rename_i hk;obtain rfl:=of_decide_eq_true hk;cases h;obtain⟨v,r,rfl,⟨rfl,h1,_⟩,h2⟩:=hr;cases h2;exact⟨rfl,h1⟩
   lia
  lia
 | .bool,ls,x,cs,hr,h=>by
  simp only[u9]at h;split at h
  ·cases h;obtain⟨v,r,rfl,⟨rfl,h1,_⟩,h2⟩:=hr;cases h2;rfl
  lia
 | .fn,ls,x,cs,hr,h=>by
  simp[u9]at h;split at h
  ·obtain⟨v,r,rfl,⟨rfl,h1,_⟩,h2⟩:=hr;cases h2;rw[aAL h];rfl
  lia
 | .str,ls,x,cs,hr,h=>by
  simp only[u9]at h;split at h
  ·cases h;obtain⟨v,r,rfl,⟨rfl,h1,_⟩,h2⟩:=hr;cases h2;exact⟨rfl,h1⟩
  lia
 | .sl e,ls,x,cs,hr,h=>by
  simp only[u9]at h;split at h
  ·cases h;obtain⟨v,r,rfl,⟨rfl,⟨h1,h3⟩,_⟩,h2⟩:=hr;cases h2;subst h1 h3;exact⟨_,rfl,bG _,.inl ⟨_,rfl,rfl⟩⟩
  ·split at h
   ·rename_i ht;subst ht;cases h;obtain⟨v,r,rfl,h1,h2⟩:=hr;cases h2;exact⟨v,rfl,h1⟩
   lia
  lia
 | .unit,ls,x,cs,hr,h=>by
  simp only[u9]at h;split at h
  ·cases hr;rfl
  lia
 | .cons a b,ls,x,cs,hr,h=>by
  simp only[u9]at h;split at h
  ·rename_i y z hy hz;cases h;exact⟨cs.take a.size,cs.drop a.size,(fH _ _).symm,jQ (r9 _ hr) hy,jQ (rZ _ hr) hz⟩
  ·cases h
theorem aEw{ls:Γ gJ}{A:dE}(hr:iL w0 G L V ls cs)(hl:ls.length=t.size)(h:aS0 t ls=some A):nQ w0 G L V A (hZ t cs):=by
 unfold aS0 at h;unfold hZ;split at h
 ·rename_i ha;rw[π ha];split at h
  ·rename_i x hk hx;cases h;exact⟨cs,rfl,jQ hr hx⟩
  ·cases h;exact⟨cs,rfl,hl,hr⟩
 ·split at h
  ·obtain⟨v,r,rfl,h1,h2⟩:=hr
   grind [aLK]
  lia
theorem KS:∀ {t:Ty} {n o:Nat} {ft:Ty},kV t n=some (o,ft)->o+ft.size<=t.size
 | .cons a b,0,o,ft,h=>by cases h;simp[Ty.size]
 | .cons a b,n+1,o,ft,h=>by
  simp[kV]at h;split at h
  ·rename_i o' t' h1;have:=KS h1
   grind [Ty.size]
  lia
 | .int _,_,_,_,h=>by cases h
 | .bool,_,_,_,h=>by cases h
 | .fn,_,_,_,h=>by cases h
 | .str,_,_,_,h=>by cases h
 | .sl _,_,_,_,h=>by cases h
 | .unit,_,_,_,h=>by cases h
variable {u:Value}
theorem UR(hR:bQ n K w0 G w a E L V own){T:TypeId}(hT:pW P T t){A A':dE}(hu:nQ w0 G L V A u)(h:aKg L t A=some A') :
  ∃v,nQ w0 G L V A' v/\∀w',cQ [] w w'->(Instr.loadAt T u).run P w' = .ok v w':=by
 unfold aKg at h;split at h
 ·rename_i r o t';split at h
  ·rename_i B ht hB;obtain rfl:=of_decide_eq_true ht;split at h
   ·rename_i ls hls;obtain⟨B',ls',b,off,hB',hls',hv,rfl,hsz⟩:=hu;obtain⟨b1,off1,cs,e1,e3,e4,e5,e6⟩:=hR.boxs r B ls hB hls;rw[hv]at e1;cases e1;have hlen:((ls.drop o).take t'.size).length=t'.size:=by grind
    have hsub:=r9 t'.size (rZ o e6);have hb:=(hR.heap r B hB).block hv (aT _);have hlt:=hR.own_lt hB b hb;refine⟨hZ t' ((cs.drop o).take t'.size),aEw hsub hlen h,λw' k=>?_⟩;exact DA hT (by grind) ((lD.sub e5 o _).keep (k.block b hlt (by simp)))
   lia
  lia
 ·rename_i t' x;split at h
  ·rename_i ht;obtain rfl:=of_decide_eq_true ht;cases h;obtain⟨b,off,cs,rfl,hb,hc,hr⟩:=hu;refine⟨hZ t' cs,AF hr.repB,λw' k=>?_⟩
   ·exact DA hT hr.length (hc.keep (hR.keepG k b hb))
  lia
 ·rename_i r i p;split at h
  ·rename_i B hB;split at h
   ·rename_i d hd;split at h
    ·rename_i hdt;simp at hdt;obtain⟨hdt,hfl⟩:=hdt;cases h;obtain⟨B',hB',hi,b,off,m,cap,po,t',hv,hp,rfl⟩:=hu;rw[hB]at hB';cases hB';have hown:=hR.heap r B hB;obtain⟨cs,bi,hc,ho,hsub,hb⟩:=UQ hown hv (qD B.xs i B.t.dflt hi);have hrep:eK w0 G d.t d.x ((cs.drop po).take d.t.size)/\t'=d.t:=by
      revert ho hfl;cases hbor:B.bor with
      | true =>
       intro hfl ho;obtain⟨o,ho1,ho2,ho3⟩:=Pq hd ho.1
       lia
      | false =>
       intro hfl ho;obtain⟨o,bs',ho1,ho2,ho3,ho4⟩:=Pp hd ho;rw[hp]at ho1;cases ho1;exact⟨(ho2.flat (w':=w0) (G:=G) (by lia)).1,rfl⟩
     obtain⟨hrep,rfl⟩:=hrep;have hblt:b<w.heap.size:=hown.lt b hb;refine⟨hZ d.t ((cs.drop po).take d.t.size),AF hrep.repB,λw' k=>?_⟩
     ·subst hdt;exact DA hT hrep.length ((hc.sub po _).keep (k.block b hblt (by simp)))
    lia
   lia
  lia
 lia
theorem Nq:∀ {p:Γ Nat} {t t' t'':Ty} {o o' f:Nat},lC p t=some (o,t')->kV t' f=some (o',t'')->lC (p++[f]) t=some (o+o',t'')
 | [],t,t',t'',o,o',f,h,h2=>by grind [lC]
 | g::p,t,t',t'',o,o',f,h,h2=>by
  simp[lC]at h;split at h
  ·rename_i o1 t1 h1;split at h
   ·rename_i o2 t2 h3;cases h;have:=Nq h3 h2;simp[lC,h1,this,fY]
   ·cases h
  ·cases h
theorem Ya{S:TypeId}(hS:Ho P S (.struct t)){f:Nat}{A A':dE}(hu:nQ w0 G L V A u)(h:UN L t f A=some A') :
  ∃v,nQ w0 G L V A' v/\∀w',(L7 S u f).run P w' = .ok v w':=by
 unfold UN at h;split at h
 ·rename_i r o t';split at h
  ·rename_i o' ft ht ho;obtain rfl:=of_decide_eq_true ht;cases h;obtain⟨B,ls,b,off,hB,hls,hv,rfl,hsz⟩:=hu;have hle:=KS ho;refine⟨_,⟨B,ls,b,off,hB,hls,hv,rfl,by lia⟩,λw'=>?_⟩;rw[ID hS ho b (off+o),fY]
  lia
 ·split at h
  ·rename_i ht;obtain rfl:=of_decide_eq_true ht;split at h
   ·rename_i d hd;cases h;obtain⟨b,off,cs,rfl,hb,hc,hr⟩:=hu;obtain⟨o,ho,hr',hl⟩:=KR hd hr;exact⟨_,⟨b,off+o,_,rfl,hb,hc.sub o _,hr'⟩,λw'=>ID hS ho b off⟩
   lia
  lia
 ·rename_i r i p;split at h
  ·rename_i B hB;split at h
   ·rename_i po t' hp;split at h
    ·rename_i ht;obtain rfl:=of_decide_eq_true ht;split at h
     ·rename_i y hy;obtain⟨o',t''⟩:=y;cases h;obtain⟨B',hB',hi,b,off,m,cap,po',t2,hv,hp',rfl⟩:=hu;rw[hB]at hB';cases hB';rw[hp]at hp';cases hp';refine⟨_,⟨B,hB,hi,b,off,m,cap,po+o',t'',hv,Nq hp hy,rfl⟩,λw'=>?_⟩;have:=ID (P:=P) (w:=w') hS hy b (off+i*B.t.size+po)
      lia
     lia
    lia
   lia
  lia
 lia
theorem aEx{S:TypeId}(hS:Ho P S (.struct t)){f:Nat}{A A':dE}(hu:nQ w0 G L V A u)(h:aHM t f A=some A') :
  ∃v,nQ w0 G L V A' v/\∀w',(TD S u f).run P w' = .ok v w':=by
 unfold aHM at h;split at h
 ·split at h
  ·rename_i o ft ht ho;obtain⟨cs,rfl,hl,hr⟩:=hu;have hle:=KS ho;have hcl:=Ei hr;exact⟨hZ ft ((cs.drop o).take ft.size),aEw (r9 _ (rZ _ hr)) (by grind) h,λw'=>ZR hS ho cs (by lia)⟩
  lia
 ·split at h
  ·rename_i ht;obtain rfl:=of_decide_eq_true ht;split at h
   ·rename_i d hd;cases h;obtain⟨cs,rfl,hr⟩:=hu;obtain⟨o,ho,hr',hl⟩:=KR hd hr;exact⟨hZ d.t ((cs.drop o).take d.t.size),AF hr'.repB,λw'=>ZR hS ho cs hl⟩
   lia
  lia
 lia
theorem Yb{T e:TypeId}{by':Nat}(hT:Ho P T (.slice e t by')){k:IntKind}{i:Int}{A A':dE}{cs:Γ Prop}(hu:nQ w0 G L V A u)
  (h:UP L t i A=some (cs,A')) (hc:iD cs) :
  ∃v,nQ w0 G L V A' v/\∀w',(EY T u (.int k i)).run P w' = .ok v w':=by
 unfold UP at h;split at h
 ·rename_i t' xs;split at h
  ·rename_i ht;obtain rfl:=of_decide_eq_true ht;cases h;obtain⟨h0,h1,_⟩:=hc;rcases hu.2 with ⟨_,_,rfl⟩ | ⟨b,off,cap,rfl,_,_,hb,hx⟩
   ·grind
   ·have hlt:i.toNat<xs.length:=by lia
    obtain⟨cs,hl,hc,hr⟩:=hx i.toNat _ (qD xs i.toNat t'.dflt hlt);exact⟨_,⟨b,off+i.toNat*t'.size,cs,rfl,hb,hc,hr⟩,λw'=>SE hT b off _ cap h0 h1⟩
  lia
 ·rename_i r rg;split at h
  ·rename_i B hB;split at h
   ·rename_i ht;have ht:=of_decide_eq_true ht;obtain⟨B',hB',_,hs1,hs2,hs3⟩:=hu;rw[hB]at hB';cases hB';have key:∀(lo hi:Nat),yT rg=lo->Hn B.xs.length rg=hi->0<=i->i<((hi-lo:Nat):Int) ->
      ∃v,nQ w0 G L V (.optr r (lo+i.toNat) []) v/\∀w',(EY T u (.int k i)).run P w' = .ok v w':=by
     intro lo hi hlo hhi h0 h1;rw[hlo,hhi]at hs1 hs3;rcases hs3 with ⟨_,_,_,_,h3⟩ | ⟨b,off,m,cap,o,c,hv,rfl,hle,hcase⟩
     ·lia
     ·have hcase:=(hcase.resolve_right (by lia)).1;subst hcase;subst ht;refine⟨_,⟨B,hB,by lia,b,off,m,cap,0,B.t,hv,rfl,rfl⟩,λw'=>?_⟩;rw[SE hT b (off+lo*B.t.size) (hi-lo) c h0 h1,iX,gE,fY]
    split at h
    ·cases h;simp[iD]at hc;have:=key 0 B.xs.length rfl rfl hc.1 (by lia)
     grind
    ·cases h;exact key _ _ rfl rfl hc.1 hc.2.1
   lia
  lia
 lia
end
def Pr:Option (IntKind×Int)->Option Value
 | none=>none
 | some (k,n)=>some (.int k n)
def Ps:Option (IntKind×Int)->Option Int
 | some (_,n)=>some n
 | none=>none
theorem H4{P:Program}{w:World}(isS:Bool)(len cap:Nat)(lo hi:Option (IntKind×Int))(hlc:len<=cap){l h:Int}
  (hl:l=(Ps lo).getD 0) (hh:h=(Ps hi).getD len) (h0:0<=l) (h1:l<=h) (h2:h<=len) :
  (PJ isS len cap (Pr lo) (Pr hi) none).run P w = .ok (l.toNat,h.toNat,cap) w:=by
 have hcap:h<=(cap:Int):=by lia
 unfold PJ;cases lo with
 | none=>cases hi with
  | none=>subst hl hh;rfl
  | some y =>
   obtain⟨k,m⟩:=y;simp[Ps]at hl hh;subst hl hh;simp[Pr,run_sliceBound (P:=P) w k h cap _ h1 hcap]
 | some x =>
  obtain⟨k,m⟩:=x;subst hl;cases hi with
  | none =>
   simp[Ps]at hh;subst hh;simp[Pr,run_sliceBound (P:=P) w k l len _ h0 h1]
  | some y =>
   obtain⟨k',m'⟩:=y;subst hh;simp[Pr,run_sliceBound (P:=P) w k' h cap _ (by lia) hcap,run_sliceBound (P:=P) w k l h.toNat _ h0 (by lia)]
def Lm(len:Int):Option Int->Option Int->Γ Prop×Int×Int
 | none,none=>([],0,len)
 | some l,none=>([0<=l,l<=len],l,len)
 | none,some h=>([0<=h,h<=len],0,h)
 | some l,some h=>([0<=l,l<=h,h<=len],l,h)
def aS1{α:Type}(xs:Γ α):Option Int->Option Int->Γ α
 | none,none=>xs
 | some l,none=>xs.drop l.toNat
 | none,some h=>xs.take h.toNat
 | some l,some h=>(xs.take h.toNat).drop l.toNat
def aHN(L:bM)(lo hi:Option Int):dE->Option (Γ Prop×dE)
 | .val (.string s)=>match Lm s.size lo hi with
  | (cs,l,h)=>some (cs,.val (.string (s.extract l.toNat h.toNat)))
 | .sl t xs=>match Lm xs.length lo hi with
  | (cs,_,_)=>some (cs,.sl t (aS1 xs lo hi))
 | .osl r rg=>match b5 L r with
  | some A=>match Lm ((Hn A.xs.length rg-yT rg:Nat):Int) lo hi with
   | (cs,l,h)=>some (cs,.osl r (some (yT rg+l.toNat,yT rg+h.toNat)))
  | none=>none
 | _=>none
theorem KT{len:Nat}{lo hi:Option Int}{cs:Γ Prop}{l h:Int}(hb:Lm len lo hi=(cs,l,h))(hc:iD cs) :
  0<=l/\l<=h/\h<=len/\l=lo.getD 0/\h=hi.getD len:=by
 unfold Lm at hb
 grind [iD]
theorem aOl{α:Type}{xs:Γ α}{lo hi:Option Int}{cs:Γ Prop}{l h:Int}(hb:Lm xs.length lo hi=(cs,l,h))(hc:iD cs) :
  (aS1 xs lo hi).length=h.toNat-l.toNat/\∀i y,(aS1 xs lo hi)[i]? = some y->xs[l.toNat+i]? = some y:=by
 obtain⟨h0,h1,h2,hl,hh⟩:=KT hb hc;unfold aS1
 grind
section
variable {P:Program} {n:Nat} {K:gU} {G:Nat->Prop} {w0 w:World} {a:Act} {E:gK} {L:bM} {V:Nat->Value} {own:Nat->Γ Nat}
theorem rP{T e:TypeId}{t:Ty}{by':Nat}(hT:Ho P T (.slice e t by'))(w:World)(adr:Option Addr)(len cap:Nat)(lo hi:Option (IntKind×Int))(hlc:len<=cap){l h:Int}
  (hl:l=(Ps lo).getD 0) (hh:h=(Ps hi).getD len) (h0:0<=l) (h1:l<=h) (h2:h<=len) :
  (AB T (.slice adr len cap) (Pr lo) (Pr hi) none).run P w = .ok (.slice (if cap=l.toNat then adr else adr.map (·.add (l.toNat*t.size))) (h.toNat-l.toNat) (cap-l.toNat)) w:=by
 obtain⟨_,hu,he,_⟩:=hT;have hb:=H4 (P:=P) (w:=w) true len cap lo hi hlc hl hh h0 h1 h2;unfold AB aGR;simp[run_underlying hu,hb,he.size_run]
theorem Ln{T:TypeId}(hT:pW P T .str)(w:World)(s:Δ)(lo hi:Option (IntKind×Int)){l h:Int}
  (hl:l=(Ps lo).getD 0) (hh:h=(Ps hi).getD s.size) (h0:0<=l) (h1:l<=h) (h2:h<=s.size) :
  (AB T (.string s) (Pr lo) (Pr hi) none).run P w = .ok (.string (s.extract l.toNat h.toNat)) w:=by
 obtain⟨d,hd,hf⟩:=hT.und;have hd':d = .string:=by grind [wT]
 subst hd';have hb:=H4 (P:=P) (w:=w) false s.size s.size lo hi (aT _) hl hh h0 h1 h2;unfold AB aGR;simp[run_underlying hd,hb]
theorem TT(s:Δ)(l h:Nat):(s.extract l h).size<=s.size:=by
 grind [nA]
theorem Ej(x y:Nat):yT (some (x,y))=x:=rfl
theorem Bc(n x y:Nat):Hn n (some (x,y))=y:=rfl
def aXy(L:bM)(ti:TI):dE->Prop
 | .sl t _=>∃e b,ti = .slice e t b
 | .osl r _=>∃B,b5 L r=some B/\∃e b,ti = .slice e B.t b
 | .val (.string _)=>ti = .scal .str
 | _=>True
def aOm(ti:TI):dE->Prop
 | .val (.string _)=>ti = .scal .str
 | _=>∃e t b,ti = .slice e t b
theorem aEy{T:TypeId}{ti:TI}(hT:Ho P T ti)(hok:(∃e t b,ti = .slice e t b)\/ti = .scal .str){lo hi:Option (IntKind×Int)}{A A':dE}{cs:Γ Prop}{u:Value}(hu:nQ w0 G L V A u)
  (hty:aXy L ti A)
  (h:aHN L (Ps lo) (Ps hi) A=some (cs,A')) (hc:iD cs) :
  ∃v,nQ w0 G L V A' v/\∀w',(AB T u (Pr lo) (Pr hi) none).run P w' = .ok v w':=by
 unfold aHN at h;split at h
 ·rename_i s;simp only[aXy,aOm]at hty;subst hty;split at h;rename_i cs' l h' hb;cases h;obtain⟨h0,h1,h2,hl,hh⟩:=KT hb hc;obtain⟨rfl,hs⟩:=hu;exact⟨_,⟨rfl,dV (TT _ _ _) hs⟩,λw'=>Ln hT w' s lo hi hl hh h0 h1 h2⟩
 ·rename_i t xs;obtain⟨e,b,rfl⟩:=hty;split at h;rename_i cs' l h' hb;cases h;obtain⟨h0,h1,h2,hl,hh⟩:=KT hb hc;obtain⟨hlen,b5⟩:=aOl hb hc;rcases hu.2 with ⟨ad,rfl,rfl⟩ | ⟨b',off,cap,rfl,h3,h4,h5,h6⟩
  ·refine⟨.slice ad 0 0,⟨by grind,.inl ⟨ad,rfl,cF (by grind)⟩⟩,λw'=>?_⟩;simp at h2;have e0:l=0:=by lia
   have e1:h'=0:=by lia
   subst e0 e1;rw[rP hT w' ad 0 0 lo hi (aT _) hl hh h0 h1 h2];rfl
  ·refine⟨_,⟨?_,.inr ⟨b',if cap=l.toNat then off else off+l.toNat*t.size,cap-l.toNat,rfl,?_,?_,h5,?_⟩⟩,λw'=>?_⟩
   ·lia
   ·lia
   ·lia
   ·grind
   ·rw[rP hT w' _ xs.length cap lo hi h3 hl hh h0 h1 h2,hlen];by_cases hcl:cap=l.toNat
    ·lia
    ·rw[ν hcl,ν hcl];simp[gB]
 ·rename_i r rg;obtain⟨B,hB,e,b,rfl⟩:=hty;obtain⟨B',hB',_,hs1,hs2,hs3⟩:=hu;rw[hB]at hB';cases hB';rw[hB]at h;obtain⟨cs',l,h',hb⟩:∃cs' l h',Lm ((Hn B.xs.length rg-yT rg:Nat):Int) (Ps lo) (Ps hi)=(cs',l,h'):=⟨_,_,_,rfl⟩;simp only[hb]at h;cases h;obtain⟨h0,h1,h2,hl,hh⟩:=KT hb hc;rcases hs3 with ⟨ad,ad',hV,rfl,hz⟩ | ⟨b',off,m,cap,o,c,hV,rfl,hle,hcase⟩
  ·have e2:Hn B.xs.length rg-yT rg=0:=by lia
   rw[e2]at h2 hh;have e0:l=0:=by lia
   have e1:h'=0:=by lia
   subst e0 e1;refine⟨_,⟨B,hB,(λh=>by lia),?_,?_,.inl ⟨ad,ad',hV,rfl,hz⟩⟩,λw'=>?_⟩
   ·simp[Ej,Bc]
   ·grind [Bc]
   ·rw[rP hT w' ad' 0 0 lo hi (aT _) hl hh h0 h1 h2];rfl
  ·refine⟨_,⟨B,hB,(λh=>by lia),?_,?_,.inr ⟨b',off,m,cap,if c=l.toNat then o else o+l.toNat*B.t.size,c-l.toNat,hV,rfl,?_,?_⟩⟩,λw'=>?_⟩
   ·grind [Ej,Bc]
   ·grind [Bc]
   ·grind [Ej,Bc]
   ·by_cases hcl:c=l.toNat
    ·right;refine⟨by lia,?_⟩;rw[π hcl];rcases hcase with ⟨ho,hcap⟩ | ⟨_,ho⟩
     ·rw[ho];exact Nat.add_le_add_left (cV _ (by lia)) _
     lia
    ·left;rw[ν hcl]
     grind [Ej,gE,fY]
   ·rw[rP hT w' _ _ c lo hi hle hl hh h0 h1 h2];simp only[Ej,Bc];have e3:yT rg+h'.toNat-(yT rg+l.toNat)=h'.toNat-l.toNat:=by lia
    rw[e3];by_cases hcl:c=l.toNat
    ·lia
    ·rw[ν hcl,ν hcl];simp[gB]
 lia
theorem aLL(hR:bQ n K w0 G w a E L V own){T:TypeId}{ti:TI}(hT:Ho P T ti)(hok:(∃e t b,ti = .slice e t b)\/ti = .scal .str){A:dE}{i:Int}{u:Value}(hu:nQ w0 G L V A u)(h:aXx L A=some i)
  (hty:aOm ti A) (ty:TypeId) :
  Nk (.int .i64 i)/\∀w',(Gk #[T] ty #[u]).run P w' = .ok (.int .i64 i) w':=by
 have slrun:∀(e:TypeId) (t:Ty) (b:Nat),ti = .slice e t b->∀(adr:Option Addr) (l c:Nat) (w':World),(Gk #[T] ty #[.slice adr l c]).run P w' = .ok (.int .i64 l) w':=by
  rintro e t b rfl adr l c w';obtain⟨_,hu,_,_⟩:=hT;simp[Gk,run_underlying hu,goInt]
 have i64:∀m:Nat,m<=maxLen->Nk (.int .i64 (m:Int)):=by
  intro m hm;unfold maxLen at hm;grind [Nk,bA,p7,p8,oJ]
 unfold aXx at h;split at h
 ·cases h;subst hty;obtain⟨rfl,hs⟩:=hu;refine⟨i64 _ hs,λw'=>?_⟩;obtain⟨d,hd,hf⟩:=hT.und;have hd':d = .string:=by grind [wT]
  subst hd';simp[Gk,run_underlying hd,goInt]
 ·cases h;obtain⟨e,t,b,rfl⟩:=hty;obtain⟨rfl,h1,h2⟩:=hu
  grind
 ·cases h;obtain⟨e,t',b,rfl⟩:=hty;rcases hu.2 with ⟨ad,rfl,rfl⟩ | ⟨b',off,cap,rfl,_⟩
  all_goals grind
 ·rename_i r rg;obtain⟨e,t',b,rfl⟩:=hty;split at h
  ·rename_i B hB;obtain⟨B',hB',_,hs1,hs2,hs3⟩:=hu;rw[hB]at hB';have hown:=hR.heap r B hB;have hwf:=hown.len;have key:i=((Hn B.xs.length rg-yT rg:Nat):Int):=by
    grind [yT,Hn]
   grind
  lia
 lia
end
def Cq:(t:Ty)->dE->Option t.den
 | .int k,.val (.int k' n)=>match decide (k=k')with | true=>some n | false=>none
 | .bool,.val (.bool b)=>some b
 | .fn,.val v=>aLJ v
 | .str,.val (.string s)=>some s
 | .sl _,.val (.slice none _ _)=>some []
 | .sl e,.sl t xs=>if h:t=e then some (h ▸ xs)else none
 | .unit,.st t x=>if h:t = .unit then some ()else none
 | .cons a b,.st t x=>if h:t = .cons a b then some (h ▸ x)else none
 | _,_=>none
theorem Bd{w:World}{G:Nat->Prop}:∀ {t:Ty} {A:dE} {x:t.den} {v:Value},yD w G A v->Cq t A=some x->∃cs,eK w G t x cs/\v=hZ t cs
 | .int k,A,x,v,hr,h=>by
  cases A with
  | val u=>cases u with
   | int k' n =>
    simp[Cq]at h;split at h
    ·rename_i hd;have:=of_decide_eq_true hd;cases h;obtain⟨rfl,ho⟩:=hr;subst this;exact⟨_,⟨rfl,ho⟩,rfl⟩
    lia
   | _=>cases h
  | _=>cases h
 | .bool,A,x,v,hr,h=>by
  cases A with
  | val u=>cases u with
   | bool b=>cases h;obtain⟨rfl,ho⟩:=hr;exact⟨_,rfl,rfl⟩
   | _=>cases h
  | _=>cases h
 | .fn,A,x,v,hr,h=>by
  cases A with
  | val u =>
   obtain⟨rfl,ho⟩:=hr;exact⟨_,rfl,by rw[aAL (show aLJ _=some x from h)];rfl⟩
  | _=>cases h
 | .str,A,x,v,hr,h=>by
  cases A with
  | val u=>cases u with
   | string b=>cases h;obtain⟨rfl,ho⟩:=hr;exact⟨_,⟨rfl,ho⟩,rfl⟩
   | _=>cases h
  | _=>cases h
 | .sl e,A,x,v,hr,h=>by
  cases A with
  | val u=>cases u with
   | slice b n c=>cases b with
    | none =>
     cases h;obtain⟨rfl,h1,h2⟩:=hr;subst h1 h2;exact⟨_,⟨_,rfl,bG _,.inl ⟨_,rfl,rfl⟩⟩,rfl⟩
    | some b=>cases h
   | _=>cases h
  | sl t xs =>
   simp only[Cq]at h;split at h
   ·rename_i ht;subst ht;cases h;exact⟨_,⟨v,rfl,hr⟩,rfl⟩
   lia
  | _=>cases h
 | .unit,A,x,v,hr,h=>by
  cases A with
  | st t y =>
   simp only[Cq]at h;split at h
   ·rename_i ht;subst ht;obtain⟨cs,rfl,hc⟩:=hr;exact⟨cs,hc,rfl⟩
   lia
  | val u=>cases u <;> cases h
  | _=>cases h
 | .cons a b,A,x,v,hr,h=>by
  cases A with
  | st t y =>
   simp only[Cq]at h;split at h
   ·rename_i ht;subst ht;cases h;obtain⟨cs,rfl,hc⟩:=hr;exact⟨cs,hc,rfl⟩
   lia
  | val u=>cases u <;> cases h
  | _=>cases h
def aOn:(t:Ty)->t.den->Nat->dE->Option t.den
 | .cons a _,x,0,A=>match Cq a A with | some y=>some (y,x.2) | none=>none
 | .cons _ b,x,n+1,A=>match aOn b x.2 n A with | some y=>some (x.1,y) | none=>none
 | _,_,_,_=>none
def fX(cs:Γ Value)(o:Nat)(c:Γ Value):Γ Value:=cs.take o++c++cs.drop (o+c.length)
theorem ZS{w:World}{G:Nat->Prop}{A:dE}{v:Value}(hA:∀t (x:t.den),Cq t A=some x->yD w G A v):∀ {t:Ty} {x x':t.den} {n:Nat} {cs:Γ Value},aOn t x n A=some x'->eK w G t x cs ->
  ∃o ft c,kV t n=some (o,ft)/\v=hZ ft c/\(∃y,eK w G ft y c)/\o+ft.size<=cs.length/\eK w G t x' (fX cs o c)
 | .cons a b,x,x',0,cs,h,hr=>by
  obtain⟨c1,c2,rfl,h1,h2⟩:=hr;simp[aOn]at h;split at h
  ·rename_i y hy;cases h;obtain⟨c,hc,hv⟩:=Bd (hA _ _ hy) hy;refine⟨0,a,c,rfl,hv,⟨y,hc⟩,by rw[aU,h1.length];lia,c,c2,?_,hc,h2⟩;simp[fX,hc.length, <- h1.length]
  lia
 | .cons a b,x,x',n+1,cs,h,hr=>by
  obtain⟨c1,c2,rfl,h1,h2⟩:=hr;simp only[aOn]at h;split at h
  ·rename_i y hy;cases h;obtain⟨o,ft,c,ho,hv,hl,hle,hc⟩:=ZS hA (t:=b) hy h2;refine⟨a.size+o,ft,c,by grind [kV],hv,hl,by rw[aU,h1.length];lia,c1,fX c2 o c,?_,h1,hc⟩;simp[fX, <- h1.length,zW,cW,fY]
  lia
 | .int _,_,_,_,_,h,_=>by cases h
 | .bool,_,_,_,_,h,_=>by cases h
 | .fn,_,_,_,_,h,_=>by cases h
 | .str,_,_,_,_,h,_=>by cases h
 | .sl _,_,_,_,_,h,_=>by cases h
 | .unit,_,_,_,_,h,_=>by cases h
def Pt(t:Ty):t.den->Γ (Nat×PV)->Option t.den
 | x,[]=>some x
 | x,(n,.a A)::r=>match aOn t x n A with | some y=>Pt t y r | none=>none
 | _,_=>none
theorem jD(w:World)(G:Nat->Prop):∀t:Ty,eK w G t t.dflt (fD t)
 | .int k=>⟨rfl,by cases k <;> simp[bA,p7,p8,oJ,n7,Ty.dflt]⟩
 | .bool=>rfl
 | .fn=>rfl
 | .str=>⟨rfl,bG _⟩
 | .sl e=>⟨_,rfl,bG _,.inl ⟨_,rfl,rfl⟩⟩
 | .unit=>rfl
 | .cons a b=>⟨_,_,rfl,jD w G a,jD w G b⟩
theorem aEz(cells:Array Value)(off:Nat)(c:Γ Value)(h:off+c.length<=cells.size) :
  (c.toArray.zipIdx.foldl (λcs (x:Value×Nat)=>cs.setIfInBounds (off+x.2) x.1) cells).toList=fX cells.toList off c:=by
 have key:∀(c:Γ Value) (k:Nat) (cells:Array Value),off+k+c.length<=cells.size ->
   ((c.zipIdx k).foldl (λcs (x:Value×Nat)=>cs.setIfInBounds (off+x.2) x.1) cells).toList=cells.toList.take (off+k)++c++cells.toList.drop (off+k+c.length):=by
  intro c
  induction c with
  | nil=>simp
  | cons v r ih =>
   intro k cells h;simp;rw[ih (k+1) _ (by grind)];have h1:off+(k+1)=off+k+1:=by lia
   have hlt:off+k<cells.toList.length:=by grind
   rw[h1,eG];simp[Gl hlt];rw[LA (aT _),LB (by lia)]
   lia
 grind [fX]
section
variable {P:Program}
theorem Pu(place:Nat->Option (Nat×Nat))(cells:Γ Value)(n o:Nat)(v:Value)(c:Γ Value)(sz:Nat)(rest:Γ (Nat×Value))(hp:place n=some (o,sz))(hv:v.cells.toList=c)(hl:c.length=sz)(hle:o+sz<=cells.length) :
  sY place cells.toArray ((n,v)::rest)=sY place (fX cells o c).toArray rest:=by
 have hs:v.cells.size=sz:=by grind
 have hcs:v.cells=c.toArray:=by grind
 simp[sY,hp];rw[ν (by grind)]
 congr 1
 have h3:=aEz cells.toArray o c (by grind)
 grind
theorem sA{t:Ty}{cs:Γ Value}{w:World}{G:Nat->Prop}{x:t.den}(h:eK w G t x cs):(hZ t cs).cells.toList=cs:=by
 unfold hZ;by_cases ha:t.agg=true
 ·rw[π ha];rfl
 ·have h1:t.size=1:=by cases t <;> simp_all [Ty.agg,Ty.size]
  have hl:=h.length;rw[h1]at hl
  match cs,hl with
  | [c],_ =>
   cases t with
   | int k=>obtain⟨h,_⟩:=h;cases h;rfl
   | bool=>cases h;rfl
   | fn=>cases h;cases x <;> rfl
   | str=>obtain⟨h,_⟩:=h;cases h;rfl
   | sl e =>
    obtain⟨v,h,h2⟩:=h;cases h;rcases h2.2 with ⟨_,rfl,_⟩ | ⟨b,off,cap,rfl,_⟩ <;> rfl
   | unit=>grind [Ty.agg]
   | cons a b=>grind [Ty.agg]
def Ek(w:World)(G:Nat->Prop):Γ (Nat×PV)->Γ (Nat×Value)->Prop
 | [],vs=>vs=[]
 | p::r,vs=>∃v s,vs=(p.1,v)::s/\(∀A,p.2 = .a A->∀t (x:t.den),Cq t A=some x->yD w G A v)/\Ek w G r s
theorem SG{w:World}{G:Nat->Prop}{t:Ty}{place:Nat->Option (Nat×Nat)}(hpl:∀n o ft,kV t n=some (o,ft)->place n=some (o,ft.size)) :
  ∀ {parts:Γ (Nat×PV)} {vs:Γ (Nat×Value)} {x x':t.den} {cs:Γ Value},Pt t x parts=some x'->Ek w G parts vs->eK w G t x cs ->
  ∃cs',sY place cs.toArray vs=some cs'.toArray/\eK w G t x' cs'
 | [],vs,x,x',cs,h,hv,hr=>by
  cases hv;cases h;exact⟨cs,rfl,hr⟩
 | (n,.a A)::r,vs,x,x',cs,h,hv,hr=>by
  obtain⟨v,s,rfl,h1,h2⟩:=hv;simp[Pt]at h;split at h
  ·rename_i y hy;obtain⟨o,ft,c,ho,hvc,⟨z,hz⟩,hle,hrep⟩:=ZS (h1 A rfl) hy hr;obtain⟨cs',hf,hr'⟩:=SG hpl h h2 hrep;refine⟨cs',?_,hr'⟩;rw[Pu place cs n o v c ft.size s (hpl n o ft ho) (by grind [sA]) hz.length hle]
   lia
  lia
 | (_,.tup _)::_,_,_,_,_,h,_,_=>by cases h
 | (_,.fn _ _)::_,_,_,_,_,h,_,_=>by cases h
theorem US{α β:Type}{w:World}(f:α->Sem β)(g:α->β):∀(l:Γ α),(∀x∈l,(f x).run P w = .ok (g x) w)->(l.mapM f).run P w = .ok (l.map g) w
 | [],_=>by rfl
 | x::r,h=>by
  simp[h x (aR ..),US f g r (λy hy=>h y (aM _ hy)),dW,dG]
theorem Df:∀ {fs:Γ Field} {t:Ty} {o:Nat},IB P fs t o->∀f∈fs,∃ft,pW P f.type ft
 | f::fs,.cons a b,o,h,g,hg=>by
  rcases aW.1 hg with rfl | hg
  ·exact⟨a,h.2.1⟩
  ·exact Df h.2.2.2 g hg
 | [],.unit,_,_,_,hg=>by grind
 | [],.int _,_,h,_,_=>h.elim
 | [],.bool,_,h,_,_=>h.elim
 | [],.fn,_,h,_,_=>h.elim
 | [],.str,_,h,_,_=>h.elim
 | [],.sl _,_,h,_,_=>h.elim
 | [],.cons _ _,_,h,_,_=>h.elim
 | _::_,.int _,_,h,_,_=>h.elim
 | _::_,.bool,_,h,_,_=>h.elim
 | _::_,.fn,_,h,_,_=>h.elim
 | _::_,.str,_,h,_,_=>h.elim
 | _::_,.sl _,_,h,_,_=>h.elim
 | _::_,.unit,_,h,_,_=>h.elim
theorem aLM{T:TypeId}{t:Ty}(hT:Ho P T (.struct t))(ha:t.agg=true){w0:World}{G:Nat->Prop}{parts:Γ (Nat×PV)}{vs:Γ (Nat×Value)}{x:t.den}
  (h:Pt t t.dflt parts=some x) (hv:Ek w0 G parts vs):∃cs,eK w0 G t x cs/\∀w:World,(Js T vs.toArray).run P w = .ok (.agg cs.toArray) w:=by
 obtain⟨ht,fs,hu,hfs,_⟩:=hT
 let place:Nat->Option (Nat×Nat):=λi=>(fs.toList.map λf=>(f.offset,P.cellsOf f.type)).toArray[i]?
 have hcell:∀ {T:TypeId} {t:Ty},pW P T t->P.cellsOf T=t.size:=λ{T t} h=>by
  obtain⟨i,hi,hs,_⟩:=h.info
  grind [T6]
 have hpl:∀n o ft,kV t n=some (o,ft)->place n=some (o,ft.size):=λn o ft hf=>by
  obtain⟨f,h1,h2,h3,_⟩:=Bi hfs hf
  grind
 obtain⟨cs,hf,hr⟩:=SG hpl h hv (jD w0 G t);refine⟨cs,hr,λw=>?_⟩;unfold Js;have hz:(hZ t (fD t)).cells=(fD t).toArray:=by
  have h5:=congrArg qT (sA (jD w0 G t))
  grind
 have hm:(fs.mapM λf=>do pure (f.offset, <- sizeOf f.type):Sem (Array (Nat×Nat))).run P w = .ok (fs.toList.map λf=>(f.offset,P.cellsOf f.type)).toArray w:=by
  rw[Cs];simp;rw[US _ (λf=>(f.offset,P.cellsOf f.type)) fs.toList (λf hf=>by
   obtain⟨ft,h⟩:=Df hfs f hf;simp[h.size_run,hcell h])]
  rfl
 simp[ht.zero_run,run_underlying hu];have hf':sY (λx=>(fs.toList.map λf=>(f.offset,P.cellsOf f.type)).toArray[x]?) (fD t).toArray vs=some cs.toArray:=hf;simp_all
end
def aHO:Value->Bool
 | .int _ _=>true
 | .bool _=>true
 | .string _=>true
 | .nilFunc=>true
 | .func _ _ _=>true
 | .slice none _ _=>true
 | _=>false
def bLs:(t:Ty)->t.den->Γ gJ
 | .int k,n=>[.val (.int k n)]
 | .bool,b=>[.val (.bool b)]
 | .fn,f=>[.val (fnV f)]
 | .str,s=>[.val (.string s)]
 | .sl e,xs=>[.sl e xs]
 | .unit,_=>[]
 | .cons a b,x=>bLs a x.1++bLs b x.2
def zLs:Ty->Γ gJ
 | .int k=>[.val (.int k 0)]
 | .bool=>[.val (.bool false)]
 | .fn=>[.val .nilFunc]
 | .str=>[.val (.string aC)]
 | .sl _=>[.val (.slice none 0 0)]
 | .unit=>[]
 | .cons a b=>zLs a++zLs b
def aAM(t:Ty):dE->Option (Γ gJ)
 | .val v=>match Cq t (.val v),aHO v && !t.agg with
  | some _,true=>some [.val v]
  | _,_=>none
 | .sl t' xs=>match t with
  | .sl e=>if h:t'=e then some [.sl t' xs] else none
  | _=>none
 | .osl r rg=>match t with
  | .sl e=>some [.osl r rg]
  | _=>none
 | .rcd t' ls=>match decide (t'=t),t.agg with
  | true,true=>some ls
  | _,_=>none
 | .st t' x=>match decide (t'=t),t.agg with
  | true,true=>some (bLs t' x)
  | _,_=>none
 | _=>none
def F1(ls:Γ gJ)(o:Nat)(l:Γ gJ):Γ gJ:=ls.take o++l++ls.drop (o+l.length)
def F2(t:Ty):Γ gJ->Γ (Nat×PV)->Option (Γ gJ)
 | ls,[]=>some ls
 | ls,(n,.a A)::r=>match kV t n with
  | some (o,ft)=>match aAM ft A with
   | some l=>F2 t (F1 ls o l) r
   | none=>none
  | none=>none
 | _,_=>none
section
variable {P:Program} {n:Nat} {K:gU} {G:Nat->Prop} {w0 w:World} {a:Act} {E:gK} {L:bM} {V:Nat->Value} {own:Nat->Γ Nat}
variable {v:Value}
theorem oE.one{α:Type}{R:α->Γ Value->Prop}{sz:Nat}{xs:Γ α}(h:oE w G R sz xs v):v.oneCell'=true:=by
 rcases h.2 with ⟨_,rfl,_⟩ | ⟨b,off,cap,rfl,_⟩ <;> rfl
theorem Pm.one{r:Nat}{rg:Option (Nat×Nat)}(h:Pm L V r rg v):v.oneCell'=true:=by
 obtain⟨A,_,_,_,_,h⟩:=h;rcases h with ⟨_,_,_,rfl,_⟩ | ⟨b,off,m,cap,o,c,_,rfl,_⟩ <;> rfl
theorem UG.one{l:gJ}{v:Value}(h:UG w0 G L V l v):v.oneCell'=true:=by
 cases l with
 | val u=>obtain⟨rfl,_,h⟩:=h;lia
 | sl t xs=>exact oE.one h
 | osl r rg=>exact Pm.one h
 | junk=>exact h
theorem iL.one:∀ {ls:Γ gJ} {cs:Γ Value},iL w0 G L V ls cs->∀c∈cs,c.oneCell'=true
 | [],_,h,c,hc=>by cases h;grind
 | _::_,_,⟨v,r,h,h1,h2⟩,c,hc=>by
  subst h;rcases aW.1 hc with rfl | hc
  ·exact h1.one
  ·exact h2.one c hc
theorem wV:∀ {ls ms:Γ gJ} {cs ds:Γ Value},iL w0 G L V ls cs->iL w0 G L V ms ds->iL w0 G L V (ls++ms) (cs++ds)
 | [],_,_,_,h,h2=>by cases h;grind
 | _::_,_,_,_,⟨v,r,h,h1,h3⟩,h2=>by subst h;exact⟨v,_,rfl,h1,wV h3 h2⟩
theorem aHP(h:aHO v=true):v.oneCell'=true:=by
 unfold aHO at h;split at h <;> first | rfl | lia
theorem UT:∀ {t:Ty} {x:t.den},(bLs t x).length=t.size
 | .int _,_=>rfl
 | .bool,_=>rfl
 | .fn,_=>rfl
 | .str,_=>rfl
 | .sl _,_=>rfl
 | .unit,_=>rfl
 | .cons a b,x=>by simp[bLs,Ty.size,UT]
theorem aAN:∀ {t:Ty} {x:t.den} {cs:Γ Value},eK w0 G t x cs->iL w0 G L V (bLs t x) cs
 | .int _,_,_,h=>by obtain⟨rfl,h⟩:=h;exact⟨_,_,rfl,⟨rfl,h,rfl⟩,rfl⟩
 | .bool,_,_,h=>by cases h;exact⟨_,_,rfl,⟨rfl,trivial,rfl⟩,rfl⟩
 | .fn,x,_,h=>by cases h;exact⟨_,_,rfl,⟨rfl,aHJ x,Tg x⟩,rfl⟩
 | .str,_,_,h=>by obtain⟨rfl,h⟩:=h;exact⟨_,_,rfl,⟨rfl,h,rfl⟩,rfl⟩
 | .sl _,_,_,h=>by obtain⟨v,rfl,h⟩:=h;exact⟨_,_,rfl,h,rfl⟩
 | .unit,_,_,h=>h
 | .cons a b,x,_,h=>by
  obtain⟨c1,c2,rfl,h1,h2⟩:=h;exact wV (aAN h1) (aAN h2)
theorem Lo:∀ {t:Ty},(zLs t).length=t.size
 | .int _=>rfl
 | .bool=>rfl
 | .fn=>rfl
 | .str=>rfl
 | .sl _=>rfl
 | .unit=>rfl
 | .cons a b=>by simp[zLs,Ty.size,Lo]
theorem Tj:∀ {t:Ty},iL w0 G L V (zLs t) (fD t)
 | .int k=>⟨_,_,rfl,⟨rfl,(jD w0 G (.int k)).2,rfl⟩,rfl⟩
 | .bool=>⟨_,_,rfl,⟨rfl,trivial,rfl⟩,rfl⟩
 | .fn=>⟨_,_,rfl,⟨rfl,trivial,rfl⟩,rfl⟩
 | .str=>⟨_,_,rfl,⟨rfl,bG _,rfl⟩,rfl⟩
 | .sl _=>⟨_,_,rfl,⟨rfl,⟨rfl,rfl⟩,rfl⟩,rfl⟩
 | .unit=>rfl
 | .cons a b=>wV Tj Tj
theorem UU{t:Ty}{A:dE}{ls:Γ gJ}(hA:nQ w0 G L V A v)(h:aAM t A=some ls) :
  ∃cs,v=hZ t cs/\ls.length=t.size/\cs.length=t.size/\iL w0 G L V ls cs/\v.cells.toList=cs:=by
 cases A with
 | val u =>
  simp[aAM]at h;split at h
  ·rename_i x hd hk;simp at hk;cases h;obtain⟨cs,hc,hv⟩:=Bd (w:=w0) (G:=G) (A := .val u) hA hd;have h1:t.size=1:=by cases t <;> simp_all [Ty.agg,Ty.size]
   have hl:=hc.length;have hcells:=sA hc;rw[h1]at hl;have hvc:cs=[v]:=by
    match cs,hl with
    | [c],_=>rw[hv,hZ,ν (by lia)];rfl
   refine⟨cs,hv,by grind,by lia,?_,by lia⟩;rw[hvc];obtain⟨rfl,ho⟩:=hA;exact⟨_,_,rfl,⟨rfl,ho,aHP hk.1⟩,rfl⟩
  lia
 | sl t' xs =>
  simp[aAM]at h;split at h
  ·split at h
   ·cases h;refine⟨[v],rfl,rfl,rfl,⟨_,_,rfl,hA,rfl⟩,?_⟩;rcases hA.2 with ⟨_,rfl,_⟩ | ⟨b,off,cap,rfl,_⟩ <;> rfl
   lia
  lia
 | osl r rg =>
  simp[aAM]at h;split at h
  ·cases h;refine⟨[v],rfl,rfl,rfl,⟨_,_,rfl,hA,rfl⟩,?_⟩;obtain⟨A,_,_,_,_,hA⟩:=hA;rcases hA with ⟨_,_,_,rfl,_⟩ | ⟨b,off,m,cap,o,c,_,rfl,_⟩ <;> rfl
  lia
 | rcd t' ls' =>
  simp[aAM]at h;split at h
  ·rename_i ht ha;obtain rfl:=of_decide_eq_true ht;cases h;obtain⟨cs,rfl,hl,hr⟩:=hA;exact⟨cs,by rw[hZ,π ha],hl,by grind [Ei],hr,by rfl⟩
  lia
 | st t' x =>
  simp[aAM]at h;split at h
  ·rename_i ht ha;obtain rfl:=of_decide_eq_true ht;cases h;obtain⟨cs,rfl,hr⟩:=hA;exact⟨cs,by rw[hZ,π ha],UT,hr.length,aAN hr,by rfl⟩
  lia
 | _=>cases h
theorem SH{ls l:Γ gJ}{cs c:Γ Value}{o:Nat}(h:iL w0 G L V ls cs)(h1:iL w0 G L V l c):iL w0 G L V (F1 ls o l) (fX cs o c):=by
 grind [F1,fX,Ei,wV,r9,rZ]
theorem IE{ls l:Γ gJ}{o:Nat}(h:o+l.length<=ls.length):(F1 ls o l).length=ls.length:=by
 grind [F1]
theorem Nr{t:Ty}{place:Nat->Option (Nat×Nat)}(hpl:∀n o ft,kV t n=some (o,ft)->place n=some (o,ft.size))(hR:bQ n K w0 G w a E L V own) :
  ∀ {parts:Γ (Nat×Operand)} {ls ls':Γ gJ} {cs:Γ Value},F2 t ls (parts.map λp=>(p.1,opnd E p.2))=some ls'->ls.length=t.size->iL w0 G L V ls cs ->
  ∃cs',sY place cs.toArray (parts.map λp=>(p.1,a.eval p.2))=some cs'.toArray/\ls'.length=t.size/\iL w0 G L V ls' cs'
 | [],ls,ls',cs,h,hl,hr=>by cases h;exact⟨cs,rfl,hl,hr⟩
 | p::r,ls,ls',cs,h,hl,hr=>by
  simp at h ⊢;cases hp:opnd E p.2 with
  | a A =>
   rw[hp]at h;simp[F2]at h;split at h
   ·rename_i o ft ho;split at h
    ·rename_i l hls;obtain⟨c,e1,e2,e3,e4,e5⟩:=UU (hR.atom hp) hls;have hle:=KS ho;have hcl:=Ei hr;obtain⟨cs',f1,f2,f3⟩:=Nr hpl hR h (by grind [IE]) (SH hr e4)
     grind [Pu]
    lia
   lia
  | tup _=>rw[hp]at h;cases h
  | fn _ _=>rw[hp]at h;cases h
theorem aE0{T:TypeId}{t:Ty}(hT:Ho P T (.struct t))(hR:bQ n K w0 G w a E L V own){parts:Γ (Nat×Operand)}{ls:Γ gJ}
  (h:F2 t (zLs t) (parts.map λp=>(p.1,opnd E p.2))=some ls):∃cs,ls.length=t.size/\iL w0 G L V ls cs/\∀w':World,(Js T (parts.map λp=>(p.1,a.eval p.2)).toArray).run P w' = .ok (.agg cs.toArray) w':=by
 obtain⟨ht,fs,hu,hfs,_⟩:=hT
 let place:Nat->Option (Nat×Nat):=λi=>(fs.toList.map λf=>(f.offset,P.cellsOf f.type)).toArray[i]?
 have hcell:∀ {T:TypeId} {t:Ty},pW P T t->P.cellsOf T=t.size:=λ{T t} h=>by
  obtain⟨i,hi,hs,_⟩:=h.info
  grind [T6]
 have hpl:∀n o ft,kV t n=some (o,ft)->place n=some (o,ft.size):=λn o ft hf=>by
  obtain⟨f,h1,h2,h3,_⟩:=Bi hfs hf
  grind
 obtain⟨cs,hf,hl,hr⟩:=Nr hpl hR h Lo Tj;refine⟨cs,hl,hr,λw'=>?_⟩;unfold Js;have hz:(hZ t (fD t)).cells=(fD t).toArray:=by
  have h5:=congrArg qT (sA (jD w0 G t))
  grind
 have hm:(fs.mapM λf=>do pure (f.offset, <- sizeOf f.type):Sem (Array (Nat×Nat))).run P w' = .ok (fs.toList.map λf=>(f.offset,P.cellsOf f.type)).toArray w':=by
  rw[Cs];simp;rw[US _ (λf=>(f.offset,P.cellsOf f.type)) fs.toList (λf hf=>by
   obtain⟨ft,h⟩:=Df hfs f hf;simp[h.size_run,hcell h])]
  rfl
 simp[ht.zero_run,run_underlying hu];have hf':sY (λx=>(fs.toList.map λf=>(f.offset,P.cellsOf f.type)).toArray[x]?) (fD t).toArray (parts.map λp=>(p.1,a.eval p.2))=some cs.toArray:=hf;simp_all
end
def aXz:Γ dE->Nat->Option dE
 | [],_=>none
 | a::_,0=>some a
 | _::r,n+1=>aXz r n
def Tk(E:gK):Γ Operand->Option (Γ dE)
 | []=>some []
 | x::r=>match opnd E x,Tk E r with
  | .a A,some s=>some (A::s)
  | _,_=>none
def nR(xs:Γ Int):Δ:=xs.foldl (λr n=>r.push (UInt8.ofNat n.toNat)) aC
def aOo(L:bM)(ti:TI):dE->Bool
 | .val (.string _)=>match ti with | .scal .str=>true | _=>false
 | .sl t _=>match ti with | .slice _ t' _=>decide (t=t') | _=>false
 | .osl r _=>match b5 L r,ti with | some A,.slice _ t' _=>decide (A.t=t') | _,_=>false
 | _=>false
def bD3:TI->Bool
 | .slice _ _ _=>true
 | _=>false
def aOp(ti:TI):dE->Bool
 | .val (.string _)=>match ti with | .scal .str=>true | _=>false
 | _=>bD3 ti
def aS2(E:gK):Option Operand->Option (Option Int)
 | none=>some none
 | some x=>match opnd E x with | .a (.val (.int _ n))=>some (some n) | _=>none
def aLN(isMax:Bool)(x y:Int):Int:=match isMax with | true=>if x<y then y else x | false=>if y<x then y else x
def UV(tab:Γ TI)(L:bM)(b:Builtin)(args:Γ PV)(ts:Γ TypeId):Option (Γ Prop×PV) :=
 match b,args,ts with
 | .len,[.a A],[T]=>match aOp (jP tab T) A,aXx L A with
  | true,some i=>some ([],.a (.val (.int .i64 i)))
  | _,_=>none
 | .min,[.a (.val (.int k x)),.a (.val (.int k' y))],_=>match decide (k=k')with
  | true=>some ([],.a (.val (.int k (aLN false x y))))
  | false=>none
 | .max,[.a (.val (.int k x)),.a (.val (.int k' y))],_=>match decide (k=k')with
  | true=>some ([],.a (.val (.int k (aLN true x y))))
  | false=>none
 | _,_,_=>none
def aX0(tab:Γ TI)(wr:Bool)(op:BinOp)(T:TypeId):PV->PV->Option (Γ Prop×PV)
 | .a (.val (.bool a)),.a (.val (.bool b))=>match jP tab T,op with
  | .scal .bool,.eql=>some ([],.a (.val (.bool (a==b))))
  | .scal .bool,.neq=>some ([],.a (.val (.bool (!(a==b)))))
  | _,_=>none
 | .a (.val u),.a (.val v)=>match aXv wr op u v with
  | some (cs,r)=>some (cs,.a (.val r))
  | none=>none
 | .a (.st t x),.a (.st t' y)=>match jP tab T,op with
  | .struct u,.eql=>if h:t=u then if h':t'=u then(match u.flat with | true=>some ([],.a (.val (.bool (eqD u (h ▸ x) (h' ▸ y))))) | false=>none)else none else none
  | .struct u,.neq=>if h:t=u then if h':t'=u then(match u.flat with | true=>some ([],.a (.val (.bool (!eqD u (h ▸ x) (h' ▸ y))))) | false=>none)else none else none
  | _,_=>none
 | _,_=>none
def unA(wr:Bool)(op:UnOp):PV->Option (Γ Prop×PV)
 | .a (.val (.bool b))=>match op with | .not=>some ([],.a (.val (.bool (!b)))) | _=>none
 | .a (.val (.int k n))=>match op,wr with
  | .neg,true=>some ([],.a (.val (.int k (k.wrap (0-n)))))
  | .neg,false=>some ([bA k (0-n)],.a (.val (.int k (0-n))))
  | _,_=>none
 | _=>none
def aOq(tab:Γ TI)(wr:Bool)(L:bM)(src dst:TypeId):PV->Option (Γ Prop×PV)
 | .a (.val (.int _ n))=>match jP tab src,jP tab dst,wr with
  | .scal (.int _),.scal (.int k),true=>some ([],.a (.val (.int k (k.wrap n))))
  | .scal (.int _),.scal (.int k),false=>some ([bA k n],.a (.val (.int k n)))
  | _,_,_=>none
 | _=>none
def aAO:Op->Bool
 | .load _ _=>true
 | _=>false
def aLO(tab:Γ TI)(wr:Bool)(E:gK)(L:bM):Op->Option (Γ Prop×PV)
 | .move x | .assign x=>some ([],opnd E x)
 | .nilCheck x=>match opnd E x with
  | .a (.ptr t y)=>some ([],.a (.ptr t y))
  | .a (.optr r i p)=>some ([],.a (.optr r i p))
  | .a (.bptr r o t)=>some ([],.a (.bptr r o t))
  | .fn f cs=>some ([],.fn f cs)
  | _=>none
 | .binOp op T x y _=>aX0 tab wr op T (opnd E x) (opnd E y)
 | .unOp op _ x=>unA wr op (opnd E x)
 | .convert s d x=>aOq tab wr L s d (opnd E x)
 | .extract x i=>match opnd E x with
  | .tup xs=>match aXz xs i with | some A=>some ([],.a A) | none=>none
  | _=>none
 | .makeFunc (.func f) first caps=>match first.toList,Tk E caps.toList with
  | [],some ats=>some ([],.fn f ats)
  | _,_=>none
 | .load T x=>match opnd E x,(jP tab T).ty with
  | .a A,some t=>match aKg L t A with | some B=>some ([],.a B) | none=>none
  | _,_=>none
 | .fieldAddr S x f=>match opnd E x,jP tab S with
  | .a A,.struct t=>match UN L t f A with | some B=>some ([],.a B) | none=>none
  | _,_=>none
 | .field S x f=>match opnd E x,jP tab S with
  | .a A,.struct t=>match aHM t f A with | some B=>some ([],.a B) | none=>none
  | _,_=>none
 | .indexAddr T x i=>match opnd E x,opnd E i,jP tab T with
  | .a A,.a (.val (.int _ n)),.slice _ t _=>match UP L t n A with | some (cs,B)=>some (cs,.a B) | none=>none
  | _,_,_=>none
 | .index T x i=>match opnd E x,opnd E i,jP tab T with
  | .a (.val (.string s)),.a (.val (.int _ n)),.scal .str=>some ([0<=n,n<(s.size:Int)],.a (.val (.int .u8 (UO s n))))
  | _,_,_=>none
 | .slice T x lo hi none=>match opnd E x,aS2 E lo,aS2 E hi with
  | .a A,some l,some h=>match aOo L (jP tab T) A,aHN L l h A with
   | true,some (cs,B)=>some (cs,.a B)
   | _,_=>none
  | _,_,_=>none
 | .build T parts=>match jP tab T with
  | .struct t=>match t.agg,Pt t t.dflt (parts.toList.map λp=>(p.1,opnd E p.2))with
   | true,some x=>match t.flat,F2 t (zLs t) (parts.toList.map λp=>(p.1,opnd E p.2))with
    | false,some ls=>match aOk ls with
     | false=>some ([],.a (.rcd t ls))
     | true=>some ([],.a (.st t x))
    | _,_=>some ([],.a (.st t x))
   | _,_=>match F2 t (zLs t) (parts.toList.map λp=>(p.1,opnd E p.2))with
    | some ls=>some ([],.a (.rcd t ls))
    | none=>none
  | _=>none
 | .call { callee := .builtin b,args,argTypes }=>UV tab L b (args.toList.map (opnd E)) argTypes.toList
 | _=>none
section
variable {P:Program} {n:Nat} {K:gU} {G:Nat->Prop} {w0 w:World} {a:Act} {E:gK} {L:bM} {V:Nat->Value} {own:Nat->Γ Nat}
theorem gZ(s:Sem Value)(v:Value)(w w':World)(h:s.run P w = .ok v w'):(do pure (Next.value (<- s)):Sem Next).run P w = .ok (.value v) w':=by
 simp[h]
variable {T:TypeId}
theorem TI.ty_ok{ti:TI}{t:Ty}(h:Ho P T ti)(ht:ti.ty=some t):pW P T t:=by
 cases ti <;> cases ht
 ·exact h
 ·exact h.1
 ·exact h.1
theorem pW.int_und{k:IntKind}(h:pW P T (.int k)):P.underlying T=some (.int k):=by
 obtain⟨d,hd,hf⟩:=h.und;cases d <;> simp[wT]at hf
 lia
theorem pW.bool_und(h:pW P T .bool):P.underlying T=some .bool:=by
 obtain⟨d,hd,hf⟩:=h.und
 grind [wT]
theorem pW.str_und(h:pW P T .str):P.underlying T=some .string:=by
 obtain⟨d,hd,hf⟩:=h.und
 grind [wT]
theorem Lp{G:Nat->Prop}:∀(t:Ty),
  (∀T d x y c1 c2 w,LF P t.agg T (ZQ P t)=true->dep t<=d->eK w0 G t x c1->eK w0 G t y c2->(Gm (d+1) T (hZ t c1) (hZ t c2)).run P w = .ok (eqD t x y) w) /\
  (∀fs o d x y (xs ys:Γ Value) w,ZQ P t (.inr (fs,o))=true->dep t<=d->eK w0 G t x (xs.drop o)->eK w0 G t y (ys.drop o)->o+t.size<=xs.length->o+t.size<=ys.length ->
   (Jt d xs.toArray ys.toArray fs).run P w = .ok (eqD t x y) w)
 | .int k=>by
  refine⟨λT d x y c1 c2 w h _ h1 h2=>?_,λfs o d x y xs ys w h=>by grind [ZQ]⟩;have hu:=Pn (by simpa [LF,Ty.agg,ZQ] using h);obtain⟨rfl,_⟩:=h1;obtain⟨rfl,_⟩:=h2;exact run_equalIn_int w d T k k x y hu
 | .bool=>by
  refine⟨λT d x y c1 c2 w h _ h1 h2=>?_,λfs o d x y xs ys w h=>by grind [ZQ]⟩;have hu:=Ll (by simpa [LF,Ty.agg,ZQ] using h);have h1:c1=[.bool x]:=h1;have h2:c2=[.bool y]:=h2;subst h1 h2;exact run_equalIn_bool' w d T x y hu
 | .fn=>⟨λT d x y c1 c2 w h=>by grind [LF,Ty.agg,ZQ],λfs o d x y xs ys w h=>by grind [ZQ]⟩
 | .str=>by
  refine⟨λT d x y c1 c2 w h _ h1 h2=>?_,λfs o d x y xs ys w h=>by grind [ZQ]⟩;have hu:=Po (by simpa [LF,Ty.agg,ZQ] using h);obtain⟨rfl,_⟩:=h1;obtain⟨rfl,_⟩:=h2;exact run_equalIn_string w d T x y hu
 | .sl e=>⟨λT d x y c1 c2 w h=>by grind [LF,Ty.agg,ZQ],λfs o d x y xs ys w h=>by grind [ZQ]⟩
 | .unit=>by
  have hB:∀fs o d x y (xs ys:Γ Value) w,ZQ P .unit (.inr (fs,o))=true->(Jt d xs.toArray ys.toArray fs).run P w = .ok (eqD .unit x y) w:=by
   intro fs o d x y xs ys w h
   match fs,h with
   | [],h=>rfl
   | _::_,h=>grind [ZQ]
  refine⟨λT d x y c1 c2 w h _ h1 h2=>?_,λfs o d x y xs ys w h _ _ _ _ _=>hB fs o d x y xs ys w h⟩;simp only[LF,Ty.agg]at h;split at h
  ·rename_i fs hu;simp only[aV,eX]at h;have hf:P.fieldsOf T=fs:=by grind [Rm]
   show (Gm (d+1) T (.agg c1.toArray) (.agg c2.toArray)).run P w=_
   grind [run_equalIn_agg]
  lia
 | .cons a b=>by
  obtain⟨ha,_⟩:=Lp a;obtain⟨_,hb⟩:=Lp b;have hB:∀fs o d x y (xs ys:Γ Value) w,ZQ P (.cons a b) (.inr (fs,o))=true->dep (.cons a b)<=d->eK w0 G (.cons a b) x (xs.drop o)->eK w0 G (.cons a b) y (ys.drop o)->o+(Ty.cons a b).size<=xs.length->o+(Ty.cons a b).size<=ys.length ->
    (Jt d xs.toArray ys.toArray fs).run P w = .ok (eqD (.cons a b) x y) w:=by
   intro fs o d x y xs ys w h hd hx hy hlx hly
   match fs,h with
   | [],h=>grind [ZQ]
   | f::fs,h =>
    simp only[ZQ,aV,bne_iff_ne,ne_eq]at h;obtain⟨h0,h1,h2,h3,h4⟩:=h;have h1:=bF h1;have h2:=yV h2;simp only[dep]at hd;have hd2:dep b<=d:=dV (Rl _ _) hd;obtain⟨d,rfl⟩:∃d',d=d'+1:=⟨d-1,by lia⟩;simp only[Ty.size]at hlx hly;obtain⟨p1,p2,hp,hp1,hp2⟩:=hx;obtain⟨q1,q2,hq,hq1,hq2⟩:=hy;have e1:(xs.drop o).take a.size=p1:=by rw[hp, <- hp1.length,T7];rfl
    have e2:(ys.drop o).take a.size=q1:=by rw[hq, <- hq1.length,T7];rfl
    have e3:xs.drop (o+a.size)=p2:=by grind [pP,T8]
    have e4:ys.drop (o+a.size)=q2:=by rw[<- pP,hq, <- hq1.length,T8];rfl
    have r1:(part f.type xs.toArray f.offset).run P w = .ok (hZ a p1) w:=by
     grind [UL]
    have r2:(part f.type ys.toArray f.offset).run P w = .ok (hZ a q1) w:=by
     grind [UL]
    have r3:=ha f.type d x.1 y.1 p1 q1 w h3 (by lia) hp1 hq1;have r4:=hb fs (o+a.size) (d+1) x.2 y.2 xs ys w h4 hd2 (by rw[e3];exact hp2) (by lia) (by lia) (by lia);simp only[Jt,ne_eq,h0,not_false_eq_true,if_true,c8,r1,r2,r3,bL,Sem.run_ite,dW]
    grind [eqD]
  refine⟨λT d x y c1 c2 w h hd h1 h2=>?_,hB⟩;have l1:=h1.length;have l2:=h2.length;simp only[LF,Ty.agg]at h;split at h
  ·rename_i fs hu;simp only[aV,eX]at h;have hf:P.fieldsOf T=fs:=by grind [Rm]
   show (Gm (d+1) T (.agg c1.toArray) (.agg c2.toArray)).run P w=_;rw[run_equalIn_agg w d T _ _ (by lia) h.1,hf];exact hB _ 0 d x y c1 c2 w h.2 hd (by grind) (by grind) (by lia) (by lia)
  lia
theorem aV4{u:Ty}(hu:Ho P T (.struct u))(hf:u.flat=true){x y:u.den}{v1 v2:Value}{G:Nat->Prop}(h1:∃cs,v1 = .agg cs.toArray/\eK w0 G u x cs)(h2:∃cs,v2 = .agg cs.toArray/\eK w0 G u y cs)(w':World)(ox oy:Operand) :
  (do eqGuard .eql T ox oy v1 v2;binOp .eql T v1 v2:Sem Value).run P w' = .ok (.bool (eqD u x y)) w'/\(do eqGuard .neq T ox oy v1 v2;binOp .neq T v1 v2:Sem Value).run P w' = .ok (.bool (!eqD u x y)) w':=by
 obtain⟨c1,rfl,r1⟩:=h1;obtain⟨c2,rfl,r2⟩:=h2;obtain⟨hty,fs,hund,_,he⟩:=hu;have he:=he hf;simp only[eqT,aV]at he;obtain⟨e1,e2,e3⟩:=he;have hd:=Nat.le_of_ble_eq_true e1;have hag:u.agg=true:=by
  cases hh:u.agg with
  | true=>rfl
  | false =>
   obtain⟨d,hd,hfit⟩:=hty.und;rw[hund]at hd;cases hd;cases u <;> simp[wT,Ty.agg]at hfit hh
 have hv1:hZ u c1 = .agg c1.toArray:=by grind [hZ]
 have hv2:hZ u c2 = .agg c2.toArray:=by grind [hZ]
 have heq:=(Lp (G:=G) u).1 T 9999 x y c1 c2 w' e3 hd r1 r2
 grind [c8,run_eqGuard_agg,bL,run_eql_struct,run_neq_struct]
variable {wr:Bool} {cs:Γ Prop} {pv:PV}
theorem aLP{tab:Γ TI}(hT:kZ P tab)(hR:bQ n K w0 G w a E L V own){op:BinOp}{x y:Operand}
  (h:aX0 tab wr op T (opnd E x) (opnd E y)=some (cs,pv)) (hc:iD cs) :
  ∃v,mS w0 G L V pv v/\∀w',(do eqGuard op T x y (a.eval x) (a.eval y);binOp op T (a.eval x) (a.eval y):Sem Value).run P w' = .ok v w':=by
 unfold aX0 at h;split at h
 ·rename_i b1 b2 hx hy;obtain⟨e1,_⟩:=hR.valEq hx;obtain⟨e2,_⟩:=hR.valEq hy;rw[e1,eqGuard_at_bool];split at h
  ·rename_i ht;cases h;have hu:=hT T;rw[ht]at hu;refine⟨_,⟨rfl,trivial⟩,λw'=>?_⟩;have h9:(Gm 10000 T (.bool b1) (.bool b2)).run P w' = .ok (b1==b2) w':=run_equalIn_bool' w' 9999 T b1 b2 (pW.bool_und hu)
   grind [binOp,Op.equal,aGS,c8,dW,bL]
  ·rename_i ht;cases h;have hu:=hT T;rw[ht]at hu;refine⟨_,⟨rfl,trivial⟩,λw'=>?_⟩;have h9:(Gm 10000 T (.bool b1) (.bool b2)).run P w' = .ok (b1==b2) w':=run_equalIn_bool' w' 9999 T b1 b2 (pW.bool_und hu)
   grind [binOp,Op.equal,aGS,c8,dW,bL]
  lia
 ·rename_i u v _ hx hy;obtain⟨e1,_⟩:=hR.valEq hx;obtain⟨e2,_⟩:=hR.valEq hy;rw[e1,e2];split at h
  ·rename_i cs' r hb;cases h;exact⟨r,⟨rfl,(aEu (P:=P) (w:=w) hb hc T x y).2⟩,λw'=>(aEu hb hc T x y).1⟩
  lia
 ·rename_i t x1 t' y1 hx hy;have hvx:=hR.atom hx;have hvy:=hR.atom hy;split at h
  ·rename_i u ht;have hu:=hT T;rw[ht]at hu;split at h
   ·rename_i he;subst he;split at h
    ·rename_i he;subst he;split at h
     ·rename_i hf;cases h;exact⟨_,⟨rfl,trivial⟩,λw'=>(aV4 hu hf hvx hvy w' x y).1⟩
     lia
    lia
   lia
  ·rename_i u ht;have hu:=hT T;rw[ht]at hu;split at h
   ·rename_i he;subst he;split at h
    ·rename_i he;subst he;split at h
     ·rename_i hf;cases h;exact⟨_,⟨rfl,trivial⟩,λw'=>(aV4 hu hf hvx hvy w' x y).2⟩
     lia
    lia
   lia
  lia
 lia
theorem aOr(hR:bQ n K w0 G w a E L V own){op:UnOp}{x:Operand}
  (h:unA wr op (opnd E x)=some (cs,pv)) (hc:iD cs) :
  ∃v,mS w0 G L V pv v/\∀w',(Op.unary op (a.eval x)).run P w' = .ok v w':=by
 unfold unA at h;split at h
 ·rename_i b hx;obtain⟨e1,_⟩:=hR.valEq hx;rw[e1];split at h
  ·cases h;exact⟨_,⟨rfl,trivial⟩,λw'=>by rfl⟩
  lia
 ·rename_i k m hx;obtain⟨e1,_⟩:=hR.valEq hx;rw[e1];split at h
  ·cases h;exact⟨_,⟨rfl,uK _ _⟩,λw'=>by rfl⟩
  ·cases h;exact⟨_,⟨rfl,hc.1⟩,λw'=>by simp only[Op.unary,Jr,pX hc.1];rfl⟩
  lia
 lia
theorem aHQ{tab:Γ TI}(hT:kZ P tab)(hR:bQ n K w0 G w a E L V own){s d:TypeId}{x:Operand}
  (h:aOq tab wr L s d (opnd E x)=some (cs,pv)) (hc:iD cs) :
  ∃v,mS w0 G L V pv v/\∀w',(convert s d (a.eval x)).run P w' = .ok v w':=by
 unfold aOq at h;split at h
 ·rename_i k0 m hx;obtain⟨e1,_⟩:=hR.valEq hx;rw[e1];split at h
  ·rename_i hs hd;cases h;have hu:=hT s;rw[hs]at hu;have hv:=hT d;rw[hd]at hv;exact⟨_,⟨rfl,uK _ _⟩,λw'=>by simp[convert,run_underlying (pW.int_und hu),run_underlying (pW.int_und hv),Conv.intToInt]⟩
  ·rename_i hs hd;cases h;have hu:=hT s;rw[hs]at hu;have hv:=hT d;rw[hd]at hv;exact⟨_,⟨rfl,hc.1⟩,λw'=>by simp[convert,run_underlying (pW.int_und hu),run_underlying (pW.int_und hv),Conv.intToInt,pX hc.1]⟩
  lia
 lia
theorem Ns(hR:bQ n K w0 G w a E L V own):∀ {xs:Γ Operand} {ats:Γ dE},Tk E xs=some ats->tV w0 G L V ats (xs.map a.eval)
 | [],ats,h=>by cases h;rfl
 | x::r,ats,h=>by
  simp[Tk]at h;split at h
  ·rename_i A s hx hr;cases h;exact⟨_,_,rfl,hR.atom hx,Ns hR hr⟩
  lia
theorem ZT:∀ {xs:Γ dE} {vs:Γ Value} {i:Nat} {A:dE},aXz xs i=some A->tV w0 G L V xs vs->∃v,vs[i]? = some v/\nQ w0 G L V A v
 | x::r,vs,0,A,h,hr=>by
  cases h;obtain⟨v,s,rfl,h1,h2⟩:=hr
  grind
 | x::r,vs,i+1,A,h,hr=>by
  obtain⟨v,s,rfl,h1,h2⟩:=hr;obtain⟨u,hu,hr'⟩:=ZT (i:=i) h h2
  grind
 | [],_,_,_,h,_=>by cases h
theorem ZU(hR:bQ n K w0 G w a E L V own){x:Option Operand}{i:Option Int}(h:aS2 E x=some i):∃o,i=Ps o/\x.map a.eval=Pr o:=by
 cases x with
 | none=>cases h;exact⟨none,rfl,rfl⟩
 | some x =>
  simp[aS2]at h;split at h
  ·rename_i k m hx;cases h;exact⟨some (k,m),rfl,by simp[Pr,(hR.valEq hx).1]⟩
  lia
theorem aLQ{ti:TI}{A:dE}(h:aOo L ti A=true):((∃e t b,ti = .slice e t b)\/ti = .scal .str)/\aXy L ti A:=by
 cases A with
 | val u=>cases u with
  | string s =>
   simp[aOo]at h;split at h
   ·exact⟨.inr rfl,rfl⟩
   lia
  | _=>cases h
 | sl t xs =>
  simp[aOo]at h;split at h
  ·obtain rfl:=of_decide_eq_true h;exact⟨.inl ⟨_,_,_,rfl⟩,_,_,rfl⟩
  lia
 | osl r rg =>
  simp[aOo]at h;split at h
  ·rename_i B e t' b hB;have:=of_decide_eq_true h;subst this;exact⟨.inl ⟨_,_,_,rfl⟩,B,hB,_,_,rfl⟩
  lia
 | _=>cases h
theorem aHR{ti:TI}{A:dE}(h:aOp ti A=true):((∃e t b,ti = .slice e t b)\/ti = .scal .str)/\aOm ti A:=by
 have key:bD3 ti=true->∃e t b,ti = .slice e t b:=by
  intro h;cases ti <;> first | (cases h;done) | lia
 cases A with
 | val u=>cases u with
  | string s =>
   simp[aOp]at h;split at h
   ·exact⟨.inr rfl,rfl⟩
   lia
  | _=>exact⟨.inl (key h),key h⟩
 | _=>exact⟨.inl (key h),key h⟩
theorem aHS(hT:pW P T .str)(s:Δ)(k:IntKind)(i:Int)(h0:0<=i)(h1:i<s.size)(w:World) :
  (Instr.index T (.string s) (.int k i)).run P w = .ok (.int .u8 (UO s i)) w/\Nk (.int .u8 (UO s i)):=by
 have hlt:i.toNat<s.size:=by lia
 have hb:UO s i=((s[i.toNat]'hlt).toNat:Int):=by
  unfold UO;rw[List.getD_eq_getElem?_getD,aX (by simp_all)];rfl
 refine⟨?_,?_⟩
 ·rw[run_index_string (P:=P) w T s k i hT.str_und,dif_pos ⟨h0,h1⟩,hb]
 ·have:=(s[i.toNat]'hlt).toNat_lt
  grind [Nk,bA,p7,p8,oJ,n7]
theorem Yc{tab:Γ TI}(hT:kZ P tab)(hR:bQ n K w0 G w a E L V own){b:Builtin}{xs:Γ Operand}{ts:Γ TypeId}
  (h:UV tab L b (xs.map (opnd E)) ts=some (cs,pv)) (hc:iD cs) (ty:TypeId) (consts:Array Bool) :
  ∃v,mS w0 G L V pv v/\∀w',(builtin b ts.toArray ty consts (xs.map a.eval).toArray).run P w' = .ok (.value v) w':=by
 unfold UV at h;split at h
 ·rename_i A T hxs;have:∃x,xs=[x]/\opnd E x = .a A:=by
   simp_all
  obtain⟨x,rfl,hx⟩:=this;split at h
  ·rename_i i hok hl;cases h;obtain⟨h1,h2⟩:=aHR hok;obtain⟨h3,h4⟩:=aLL hR (hT T) h1 (hR.atom hx) hl h2 ty;refine⟨_,⟨rfl,h3⟩,λw'=>?_⟩;exact gZ _ _ _ _ (h4 w')
  lia
 ·rename_i k x k' y hxs;have:∃o1 o2,xs=[o1,o2]/\opnd E o1 = .a (.val (.int k x))/\opnd E o2 = .a (.val (.int k' y)):=by
   cases xs with
   | nil=>grind
   | cons o1 r=>cases r with
    | nil=>grind
    | cons o2 s=>cases s with
     | nil=>grind
     | cons y s=>grind
  obtain⟨o1,o2,rfl,h1,h2⟩:=this;split at h
  ·rename_i hk;obtain rfl:=of_decide_eq_true hk;cases h;obtain⟨e1,i1⟩:=hR.valEq h1;obtain⟨e2,i2⟩:=hR.valEq h2;refine⟨_,⟨rfl,?_⟩,λw'=>?_⟩
   ·grind [aLN]
   ·simp[builtin,e1,e2,Builtin.min_,Builtin.min2,aLN]
  lia
 ·rename_i k x k' y hxs;have:∃o1 o2,xs=[o1,o2]/\opnd E o1 = .a (.val (.int k x))/\opnd E o2 = .a (.val (.int k' y)):=by
   cases xs with
   | nil=>grind
   | cons o1 r=>cases r with
    | nil=>grind
    | cons o2 s=>cases s with
     | nil=>grind
     | cons y s=>grind
  obtain⟨o1,o2,rfl,h1,h2⟩:=this;split at h
  ·cases h;obtain⟨e1,i1⟩:=hR.valEq h1;obtain⟨e2,i2⟩:=hR.valEq h2;refine⟨_,⟨rfl,?_⟩,λw'=>?_⟩
   ·grind [Nk,aLN]
   ·simp[builtin,e1,e2,Builtin.max_,Builtin.max2,aLN]
  lia
 lia
theorem qE{A:dE}{u:Value}{t:Ty}{x:t.den}(h:nQ w0 G L V A u)(hd:Cq t A=some x):yD w0 G A u:=by
 cases A with
 | osl r rg=>cases t <;> cases hd
 | optr r i p=>cases t <;> cases hd
 | rcd t' ls=>cases t <;> cases hd
 | bptr r o t'=>cases t <;> cases hd
 | _=>exact h
theorem aE1(hR:bQ n K w0 G w a E L V own):∀(l:Γ (Nat×Operand)),Ek w0 G (l.map λp=>(p.1,opnd E p.2)) (l.map λp=>(p.1,a.eval p.2))
 | []=>rfl
 | p::r=>⟨a.eval p.2,_,rfl,λA hA t x hd=>qE (hR.atom hA) hd,aE1 hR r⟩
theorem ZV{tab:Γ TI}(hT:kZ P tab)(hR:bQ n K w0 G w a E L V own){o:Oper}
  (h:aLO tab wr E L o.op=some (cs,pv)) (hc:iD cs) :
  ∃v,mS w0 G L V pv v/\∀w',(aAO o.op=true->cQ [] w w')->(execOp a.eval o).run P w' = .ok (.value v) w':=by
 unfold aLO at h;split at h
 ·rename_i x ho;cases h;exact⟨_,hR.opnd x,λw' _=>by simp[execOp,ho]⟩
 ·rename_i x ho;cases h;exact⟨_,hR.opnd x,λw' _=>by simp[execOp,ho]⟩
 ·rename_i x ho;have hx:=hR.opnd x;split at h
  ·rename_i t y hp;cases h;rw[hp]at hx;refine⟨_,hx,λw' _=>?_⟩;obtain⟨b,off,cs,he,_⟩:=hx;simp[execOp,ho,he]
  ·rename_i r i p hp;cases h;rw[hp]at hx;refine⟨_,hx,λw' _=>?_⟩;obtain⟨_,_,_,b,off,m,cap,po,t',_,_,he⟩:=hx;simp[execOp,ho,he]
  ·rename_i r o t hp;cases h;rw[hp]at hx;refine⟨_,hx,λw' _=>?_⟩;obtain⟨_,_,b,off,_,_,_,he,_⟩:=hx;simp[execOp,ho,he]
  ·rename_i f cs hp;cases h;rw[hp]at hx;refine⟨_,hx,λw' _=>?_⟩;obtain⟨vs,he,_⟩:=hx;simp[execOp,ho,he]
  lia
 ·grind [aLP,execOp,gZ]
 ·rename_i op T x ho;obtain⟨v,hv,hr⟩:=aOr (P:=P) hR h hc
  grind [execOp,gZ]
 ·grind [aHQ,execOp,gZ]
 ·rename_i x i ho;have hx:=hR.opnd x;split at h
  ·rename_i xs hp;rw[hp]at hx;split at h
   ·rename_i A hA;cases h;obtain⟨vs,he,hr⟩:=hx;obtain⟨v,hv,hv'⟩:=ZT hA hr;exact⟨v,hv',λw' _=>by simp[execOp,ho,he,Instr.extract,hv]⟩
   lia
  lia
 ·rename_i f first caps ho
  split at h
  ·rename_i ats hf has;cases h;have hr:=Ns hR has;refine⟨_,⟨_,rfl,hr⟩,λw' _=>?_⟩;have hfe:first = #[]:=by grind
   simp[execOp,ho,Instr.makeFunc,hfe, <- Array.toList_map]
  lia
 ·rename_i T x ho;split at h
  ·rename_i A t hx ht;split at h
   ·rename_i B hB;cases h;obtain⟨v,hv,hr⟩:=UR hR (TI.ty_ok (hT T) ht) (hR.atom hx) hB;exact⟨v,hv,λw' k=>by simp only[execOp,ho];exact gZ _ _ _ _ (hr w' (k (by rw[ho];rfl)))⟩
   lia
  lia
 ·rename_i S x f ho;split at h
  ·rename_i A t hx ht;split at h
   ·rename_i B hB;cases h;have hS:=hT S;rw[ht]at hS;obtain⟨v,hv,hr⟩:=Ya hS (hR.atom hx) hB;exact⟨v,hv,λw' k=>by grind [execOp,gZ]⟩
   lia
  lia
 ·rename_i S x f ho;split at h
  ·rename_i A t hx ht;split at h
   ·rename_i B hB;cases h;have hS:=hT S;rw[ht]at hS;obtain⟨v,hv,hr⟩:=aEx hS (hR.atom hx) hB;exact⟨v,hv,λw' k=>by grind [execOp,gZ]⟩
   lia
  lia
 ·rename_i T x i ho;split at h
  ·rename_i A k m e t b hx hi ht;split at h
   ·rename_i cs' B hB;cases h;have hS:=hT T;rw[ht]at hS;obtain⟨v,hv,hr⟩:=Yb (k:=k) hS (hR.atom hx) hB hc;exact⟨v,hv,λw' _=>by simp only[execOp,ho,(hR.valEq hi).1];simp_all⟩
   lia
  lia
 ·rename_i T x i ho;split at h
  ·rename_i s k m hx hi ht;cases h;simp only[iD]at hc;have hS:=hT T;rw[ht]at hS;have hb:=λw'=>aHS (P:=P) hS s k m hc.1 hc.2.1 w';exact⟨_,⟨rfl,(hb w).2⟩,λw' _=>by simp only[execOp,ho,(hR.valEq hi).1,(hR.valEq hx).1];simp_all⟩
  lia
 ·rename_i T x lo hi ho;split at h
  ·rename_i A l h' hx hl hh;split at h
   ·rename_i cs' B hok hB;cases h;obtain⟨ol,rfl,e1⟩:=ZU hR hl;obtain⟨oh,rfl,e2⟩:=ZU hR hh;obtain⟨h1,h2⟩:=aLQ hok;obtain⟨v,hv,hr⟩:=aEy (hT T) h1 (hR.atom hx) h2 hB hc;exact⟨v,hv,λw' _=>by simp only[execOp,ho,e1,e2,Option.map_none];exact gZ _ _ _ _ (hr w')⟩
   lia
  lia
 ·rename_i T parts ho;split at h
  ·rename_i t ht;have asSt:∀ {x:t.den},t.agg=true->Pt t t.dflt (parts.toList.map λp=>(p.1,opnd E p.2))=some x->∃v,mS w0 G L V (.a (.st t x)) v/\∀w',(aAO o.op=true->cQ [] w w')->(execOp a.eval o).run P w' = .ok (.value v) w':=by
    intro x ha hb;have hS:=hT T;rw[ht]at hS;obtain⟨cs,hr,hrun⟩:=aLM hS ha hb (aE1 hR parts.toList);refine⟨_,⟨cs,rfl,hr⟩,λw' _=>?_⟩;simp only[execOp,ho];refine gZ _ _ _ _ ?_;have:=hrun w';have e:(parts.map λp=>(p.1,a.eval p.2))=(parts.toList.map λp=>(p.1,a.eval p.2)).toArray:=by
     grind
    lia
   have asRcd:∀ {ls:Γ gJ},F2 t (zLs t) (parts.toList.map λp=>(p.1,opnd E p.2))=some ls->∃v,mS w0 G L V (.a (.rcd t ls)) v/\∀w',(aAO o.op=true->cQ [] w w')->(execOp a.eval o).run P w' = .ok (.value v) w':=by
    intro ls hls;have hS:=hT T;rw[ht]at hS;obtain⟨cs,hl,hr,hrun⟩:=aE0 hS hR hls;refine⟨_,⟨cs,rfl,hl,hr⟩,λw' _=>?_⟩;simp only[execOp,ho];refine gZ _ _ _ _ ?_;have:=hrun w';have e:(parts.map λp=>(p.1,a.eval p.2))=(parts.toList.map λp=>(p.1,a.eval p.2)).toArray:=by
     grind
    lia
   grind
  lia
 ·rename_i b args ts ho;obtain⟨v,hv,hr⟩:=Yc hT hR h hc o.type (args.map fun | .const _=>true | _=>false);refine⟨v,hv,λw' _=>?_⟩;have:=hr w';simp only[execOp,ho,resolve,c8,dW,bL,invoke];have e:args.map a.eval=(args.toList.map a.eval).toArray:=by grind
  rw[e];omega
 lia
end
def Bj(P : Program)(f : FuncId) : Prop := ∃ fn, P.funcs[f]? = some fn /\ (fn.name == "runtime.NumGoroutine") = false /\ fn.body.isNone = false
abbrev A7:=Γ (FuncId×Spec)
def q8(P:Program):A7->Prop
 | []=>True
 | (f,S)::r=>(Bj P f/\j9 P f S)/\q8 P r
def Ay{α:Type}(rg:Option (Nat×Nat))(xs:Γ α):Γ α :=
 match rg with
 | none=>xs
 | some (lo,hi)=>(xs.take hi).drop lo
def q9{t e:Ty}(h:t=e)(xs:Γ t.den):Γ e.den:=h ▸ xs
def aKh{t e:Ty}(h:t=e)(x:t.den):e.den:=h ▸ x
def slR(L:bM)(e:Ty):gJ->Option (Γ e.den)
 | .val (.slice none _ _)=>some []
 | .sl t xs=>if h:t=e then some (q9 h xs)else none
 | .osl r rg=>match b5 L r with
  | some A=>if h:A.t=e then some (Ay rg (q9 h A.xs))else none
  | none=>none
 | _=>none
def Lq(L:bM):(t:Ty)->Γ gJ->Option t.den
 | .sl e,ls=>match ls with
  | [l]=>slR L e l
  | _=>none
 | .cons a b,ls=>match Lq L a (ls.take a.size),Lq L b (ls.drop a.size)with
  | some x,some y=>some (x,y)
  | _,_=>none
 | t,ls=>u9 t ls
def slW(L:bM)(e:Ty):gJ->Option (Γ e.den×Γ Nat)
 | .val (.slice none _ _)=>some ([],[])
 | .osl r none=>match b5 L r with
  | some A=>match A.bor with
   | true=>none
   | false=>if h:A.t=e then some (q9 h A.xs,[r])else none
  | none=>none
 | .osl r (some (lo,hi))=>match b5 L r with
  | some A=>match e.flat && !A.bor with
   | true=>if h:A.t=e then some (Ay (some (lo,hi)) (q9 h A.xs),[r])else none
   | false=>none
  | none=>none
 | _=>none
def El(L:bM):(t:Ty)->Γ gJ->Option (t.den×Γ Nat)
 | .sl e,ls=>match ls with
  | [l]=>slW L e l
  | _=>none
 | .cons a b,ls=>match El L a (ls.take a.size),El L b (ls.drop a.size)with
  | some (x,us),some (y,vs)=>some ((x,y),us++vs)
  | _,_=>none
 | t,ls=>match u9 t ls with
  | some x=>some (x,[])
  | none=>none
def aOs(L:bM):(t:Ty)->dE->Option t.den
 | .sl e,.osl r rg=>match b5 L r with
  | some A=>if h:A.t=e then some (Ay rg (q9 h A.xs))else none
  | none=>none
 | t,.rcd t' ls=>match decide (t'=t),t.agg with
  | true,true=>Lq L t ls
  | _,_=>none
 | t,A=>Cq t A
def aOt(L:bM)(t:Ty):dE->Option t.den
 | .ptr t' x=>if h:t'=t then some (aKh h x)else none
 | .optr r i p=>match b5 L r with
  | some A=>match Np p ⟨A.t,A.xs.getD i A.t.dflt⟩ with
   | some d=>if h:d.t=t then some (aKh h d.x)else none
   | none=>none
  | none=>none
 | .bptr r o t'=>match decide (t'=t),b5 L r with
  | true,some A=>match A.ls with
   | some ls=>Lq L t ((ls.drop o).take t.size)
   | none=>none
  | _,_=>none
 | _=>none
def Lr:gJ->Γ Nat
 | .osl r _=>[r]
 | _=>[]
def jF:Γ gJ->Γ Nat
 | []=>[]
 | l::r=>Lr l++jF r
def uL:dE->Γ Nat
 | .osl r _=>[r]
 | .optr r _ _=>[r]
 | .rcd _ ls=>jF ls
 | .bptr r _ _=>[r]
 | _=>[]
def IF(L:bM):dE->Γ Nat
 | .bptr r _ _=>match b5 L r with
  | some A=>match A.ls with
   | some ls=>r::jF ls
   | none=>[r]
  | none=>[r]
 | A=>uL A
def BK(L:bM):(caps:Γ (Bool×Ty))->Γ dE->Option (u2 caps×Γ Nat)
 | [],[]=>some ((),[])
 | (true,t)::r,A::s=>match aOt L t A,BK L r s with
  | some x,some (y,us)=>some ((x,y),IF L A++us)
  | _,_=>none
 | (false,t)::r,A::s=>match Cq t A,BK L r s with
  | some x,some (y,us)=>some ((x,y),us)
  | _,_=>none
 | _,_=>none
def bD5{α:Type}:Γ α->Option α
 | [x]=>some x
 | _=>none
def aKi(L:bM)(t:Ty):dE->Option (t.den×Γ Nat)
 | .bptr r 0 t'=>match decide (t'=t),b5 L r with
  | true,some A=>match A.ls,decide (A.t=t)&&A.xs.isEmpty with
   | some ls,true=>match El L t ls with
    | some (x,us)=>some (x,r::us)
    | none=>none
   | _,_=>none
  | _,_=>none
 | _=>none
def Dg(L:bM):(a:AT)->PV->Option (a.den×Γ Nat×Γ Nat)
 | .v t,.a A=>match aOs L t A with | some x=>some (x,[],IF L A) | none=>none
 | .p t,.a A=>match aOt L t A with | some x=>some (x,[],IF L A) | none=>none
 | .own t,.a (.osl r none)=>match b5 L r with
  | some A=>match A.bor with
   | true=>none
   | false=>if h:A.t=t then some (q9 h A.xs,[r],[])else none
  | none=>none
 | .po t,.a A=>match aKi L t A with | some (x,us)=>some (x,us,[]) | none=>none
 | .fn f caps,.fn g ats=>match cC f g,BK L caps ats with
  | true,some (x,us)=>some (x,[],us)
  | _,_=>none
 | _,_=>none
def smA(L:bM):AT->PV->Bool
 | _,_=>true
def uB(L:bM):Γ AT->Γ PV->Bool
 | a::r,p::s=>smA L a p&&uB L r s
 | _,_=>true
def wW(L:bM):(sig:Γ AT)->Γ PV->Option (eQ sig×Γ (Γ Nat)×Γ Nat)
 | [],[]=>some ((),[],[])
 | a::r,p::s=>match Dg L a p,wW L r s with
  | some (x,o,u),some (y,os,us)=>some ((x,y),o::os,u++us)
  | _,_=>none
 | _,_=>none
def yW(n:Nat):Γ Nat->Bool
 | []=>false
 | m::r=>cC n m||yW n r
def aE2:Γ Nat->Γ Nat->Bool
 | [],_=>true
 | n::r,l => !(yW n l)&&aE2 r l
def Bk:Γ Nat->Bool
 | []=>true
 | n::r => !(yW n r)&&Bk r
theorem Bl{n:Nat}:∀ {l:Γ Nat},yW n l=true↔n∈l
 | []=>by simp[yW]
 | m::r=>by simp[yW,Bl]
theorem UW:∀ {l m:Γ Nat},aE2 l m=true->∀n∈l,n ∉ m
 | [],_,_,n,hn=>by grind
 | k::r,m,h,n,hn=>by
  simp[aE2]at h;rcases aW.1 hn with rfl | hn
  ·intro hm;rw[Bl.2 hm]at h;cases h.1
  ·exact UW h.2 n hn
theorem IG:∀ {l:Γ Nat},Bk l=true->l.Nodup
 | [],_=>lM
 | k::r,h=>by
  simp[Bk]at h;refine jJ.2 ⟨λhm=>?_,IG h.2⟩;rw[Bl.2 hm]at h;cases h.1
section
variable {P:Program} {n:Nat} {K:gU} {G G':Nat->Prop} {w0 w:World} {a:Act} {E:gK} {L:bM} {V:Nat->Value} {own:Nat->Γ Nat}
variable {w:World}
theorem oE.sub{G:Nat->Prop}{α:Type}{R:α->Γ Value->Prop}{sz nn lo hi:Nat}{xs:Γ α}{V v:Value}(h:oE w G R sz xs V)(hs:aKe sz xs.length V lo hi v) :
  oE w G R sz ((xs.take hi).drop lo) v:=by
 obtain⟨h1,h2,h3⟩:=hs;have hlen:((xs.take hi).drop lo).length=hi-lo:=by grind
 refine⟨by have:=h.1;lia,?_⟩;rcases h3 with ⟨_,_,hV,rfl,hz⟩ | ⟨b,off,m,cap,o,c,hV,rfl,hle,hcase⟩
 ·grind
 ·rcases h.2 with ⟨_,h5,hx0⟩ | ⟨b',off',cap',h5,h6,h7,h8,h9⟩
  ·grind
  ·rw[h5]at hV;cases hV;rw[<- hlen]at hle ⊢
   grind
theorem oE.whole{G:Nat->Prop}{α:Type}{R:α->Γ Value->Prop}{sz:Nat}{xs:Γ α}{V v:Value}(h:oE w G R sz xs V)(hs:aKe sz xs.length V 0 xs.length v):oE w G R sz xs v:=by
 have:=h.sub (nn:=0) hs
 grind
variable {w':World}
theorem bQ.lend(hR:bQ n K w0 G w a E L V own)(k:cQ [] w w')(hG:∀b,G b->G' b){r:Nat}{A:iJ}(h:b5 L r=some A)(hd:∀b∈own r,G' b) :
  oE w' G' (eK w' G' A.t) A.t.size A.xs (V r):=by
 have h1:=(hR.heap r A h).keep (w':=w') λb hb=>k.block b (hR.own_lt h b hb) (by simp);refine yE.read (λx cs bi hs hr=>?_) hd h1;revert hr;unfold pH;cases A.bor with
 | true=>exact λhr=>hr.1.keep hG (hR.keepG k)
 | false=>grind [iA.read]
variable {t:Ty} {v:Value}
theorem aE3{G:Nat->Prop}{A:dE}{x:t.den}(h:yD w G A v)(hd:Cq t A=some x):yD w G (j8 t x) v:=by
 obtain⟨cs,hr,rfl⟩:=Bd h hd;exact hr.repB
theorem aHT{G:Nat->Prop}{t e:Ty}(h:t=e){xs:Γ t.den}(hx:oE w G (eK w G t) t.size xs v):oE w G (eK w G e) e.size (q9 h xs) v:=by
 subst h;exact hx
theorem ZW(hR:bQ n K w0 G w a E L V own)(k:cQ [] w w')(hG:∀b,G b->G' b){r:Nat}{rg:Option (Nat×Nat)}{A:iJ}(hv:Pm L V r rg v)(hA:b5 L r=some A)(hd:∀b∈own r,G' b):oE w' G' (eK w' G' A.t) A.t.size (Ay rg A.xs) v:=by
 obtain⟨B,hB,_,hs⟩:=hv;rw[hA]at hB;cases hB;have hsl:=hR.lend k hG hA hd;cases rg with
 | none=>exact hsl.whole hs
 | some q=>exact hsl.sub (nn:=0) hs
theorem F3(hR:bQ n K w0 G w a E L V own){w':World}(k:cQ [] w w')(hG:∀b,G b->G' b):∀ {t:Ty} {ls:Γ gJ} {x:t.den} {cs:Γ Value},iL w0 G L V ls cs->Lq L t ls=some x->(∀r∈jF ls,∀b∈own r,G' b)->eK w' G' t x cs
 | .int k',ls,x,cs,hr,h,_=>(jQ (t := .int k') hr h).keep hG (hR.keepG k)
 | .bool,ls,x,cs,hr,h,_=>(jQ (t := .bool) hr h).keep hG (hR.keepG k)
 | .fn,ls,x,cs,hr,h,_=>(jQ (t := .fn) hr h).keep hG (hR.keepG k)
 | .str,ls,x,cs,hr,h,_=>(jQ (t := .str) hr h).keep hG (hR.keepG k)
 | .unit,ls,x,cs,hr,h,_=>(jQ (t := .unit) hr h).keep hG (hR.keepG k)
 | .sl e,ls,x,cs,hr,h,hd=>by
  simp only[Lq]at h;split at h
  ·obtain⟨v,r,rfl,h1,h2⟩:=hr;cases h2;refine⟨v,rfl,?_⟩;unfold slR at h;split at h
   ·cases h;obtain⟨rfl,⟨h3,h4⟩,_⟩:=h1;subst h3 h4;exact⟨bG _,.inl ⟨_,rfl,rfl⟩⟩
   ·split at h
    ·rename_i ht;cases h;exact aHT ht (oE.keep (λ_ _=>eK.keep hG (hR.keepG k)) hG (hR.keepG k) h1)
    lia
   ·rename_i r rg;split at h
    ·rename_i A hA;split at h
     ·rename_i ht;cases h;subst ht;exact ZW hR k hG h1 hA (hd r (by simp[jF,Lr]))
     lia
    lia
   lia
  lia
 | .cons p q,ls,x,cs,hr,h,hd=>by
  simp[Lq]at h;split at h
  ·rename_i y z hy hz;cases h;have hsplit:∀(k:Nat) (ls:Γ gJ),jF ls=jF (ls.take k)++jF (ls.drop k):=by
    intro k
    induction k with
    | zero=>simp[jF]
    | succ k ih =>
     intro ls;cases ls with
     | nil=>rfl
     | cons l r=>simp[jF, <- ih r]
   refine⟨cs.take p.size,cs.drop p.size,(fH _ _).symm,F3 hR k hG (r9 _ hr) hy λr hr'=>hd r ?_,F3 hR k hG (rZ _ hr) hz λr hr'=>hd r ?_⟩
   all_goals grind
  lia
theorem ZX{ls:Γ gJ}{r:Nat}(k:Nat):r∈jF (ls.take k)\/r∈jF (ls.drop k)->r∈jF ls:=by
 have hsplit:∀(k:Nat) (ls:Γ gJ),jF ls=jF (ls.take k)++jF (ls.drop k):=by
  intro k
  induction k with
  | zero=>simp[jF]
  | succ k ih =>
   intro ls;cases ls with
   | nil=>rfl
   | cons l r=>simp[jF, <- ih r]
 grind
theorem UX(hR:bQ n K w0 G w a E L V own)(k:cQ [] w w')(hG:∀b,G b->G' b){A:dE}{x:t.den}(hA:nQ w0 G L V A v)
  (hd:aOs L t A=some x) (hdis:∀r∈IF L A,∀b∈own r,G' b):yD w' G' (j8 t x) v:=by
 have borrowed:Cq t A=some x->yD w' G' (j8 t x) v:=λh =>
  aE3 (pI hG (hR.keepG k) (qE hA h)) h
 unfold aOs at hd;split at hd
 ·rename_i e r rg;split at hd
  ·rename_i B hB;split at hd
   ·rename_i hBe;subst hBe;cases hd;exact ZW hR k hG hA hB (hdis r (by simp[IF,uL]))
   lia
  lia
 ·split at hd
  ·rename_i ht ha;obtain⟨cs,rfl,hl,hr⟩:=hA;have:=(F3 hR k hG hr hd hdis).repB
   rwa [hZ,π ha]at this
  lia
 lia
theorem ZY{G:Nat->Prop}{t t':Ty}(h:t'=t){x:t'.den}(hp:Hy w G t' x v):Hy w G t (aKh h x) v:=by
 subst h;exact hp
theorem UY(hR:bQ n K w0 G w a E L V own)(k:cQ [] w w')(hG:∀b,G b->G' b){A:dE}{x:t.den}(hA:nQ w0 G L V A v)
  (hd:aOt L t A=some x) (hdis:∀r∈IF L A,∀b∈own r,G' b):Hy w' G' t x v:=by
 unfold aOt at hd;split at hd
 ·rename_i t' y;split at hd
  ·rename_i ht;cases hd;exact ZY ht (pI (A := .ptr t' y) hG (hR.keepG k) hA)
  lia
 ·rename_i r i p;split at hd
  ·rename_i B hB;split at hd
   ·rename_i d hpd;split at hd
    ·rename_i ht;cases hd;refine ZY ht ?_;obtain⟨B',hB',hi,b,off,m,cap,po,t',hv,hp,rfl⟩:=hA;rw[hB]at hB';cases hB';have hown:=hR.heap r B hB;obtain⟨cs,bi,hc,ho,hsub,hb⟩:=UQ hown hv (qD B.xs i B.t.dflt hi);have hGo:=hdis r (by simp[IF,uL]);have hblt:∀c∈own r,c<w.heap.size:=hR.own_lt hB;have hrep:t'=d.t/\eK w' G' d.t d.x ((cs.drop po).take d.t.size):=by
      revert ho;cases hbor:B.bor with
      | true =>
       intro ho;obtain⟨o,ho1,ho2,ho3⟩:=Pq hpd ho.1;rw[hp]at ho1;cases ho1;exact⟨rfl,ho2.keep hG (hR.keepG k)⟩
      | false =>
       intro ho;obtain⟨o,bs',ho1,ho2,ho3,ho4⟩:=Pp hpd ho;rw[hp]at ho1;cases ho1;exact⟨rfl,(ho2.keep (w':=w') λc hc=>k.block c (hblt c (hsub c (ho4 c hc))) (by simp)).read λc hc=>hGo c (hsub c (ho4 c hc))⟩
     obtain⟨rfl,hrep⟩:=hrep;exact⟨b,_,(cs.drop po).take d.t.size,rfl,hGo b hb,(hc.sub po _).keep (k.block b (hblt b hb) (by simp)),hrep⟩
    lia
   lia
  lia
 ·rename_i r o t';split at hd
  ·rename_i B ht hB;obtain rfl:=of_decide_eq_true ht;split at hd
   ·rename_i ls hls;obtain⟨B',ls',b,off,hB',hls',hv,rfl,hsz⟩:=hA;obtain⟨b1,off1,cs,e1,e3,e4,e5,e6⟩:=hR.boxs r B ls hB hls;rw[hv]at e1;cases e1;have hb:=(hR.heap r B hB).block hv (aT _);have hlt:=hR.own_lt hB b hb;simp only[IF,hB,hls]at hdis;exact⟨b,off+o,(cs.drop o).take t'.size,rfl,hdis r (aR ..) b hb,(lD.sub e5 o _).keep (k.block b hlt (by simp)),
     F3 hR k hG (r9 _ (rZ _ e6)) hd λs hs=>hdis s (aM _ (ZX o (.inr (ZX t'.size (.inl hs)))))⟩
   lia
  lia
 lia
theorem IH(hR:bQ n K w0 G w a E L V own){w':World}(k:cQ [] w w')(hG:∀b,G b->G' b):∀ {caps:Γ (Bool×Ty)} {ats:Γ dE} {x:u2 caps} {us:Γ Nat} {vs:Γ Value},
  BK L caps ats=some (x,us)->tV w0 G L V ats vs->(∀r∈us,∀b∈own r,G' b)->BJ w' G' caps x vs
 | [],[],x,us,vs,h,hr,_=>hr
 | (true,t)::r,A::s,x,us,vs,h,hr,hd=>by
  obtain⟨v,vs',rfl,h1,h2⟩:=hr;simp[BK]at h;split at h
  ·rename_i y z us' hy hz;cases h;exact⟨v,vs',rfl,UY hR k hG h1 hy (λr hr=>hd r (dA _ hr)),IH hR k hG hz h2 (λr hr=>hd r (dC _ hr))⟩
  lia
 | (false,t)::r,A::s,x,us,vs,h,hr,hd=>by
  obtain⟨v,vs',rfl,h1,h2⟩:=hr;simp only[BK]at h;split at h
  ·rename_i y z us' hy hz;cases h;exact⟨v,vs',rfl,aE3 (pI hG (hR.keepG k) (qE h1 hy)) hy,IH hR k hG hz h2 hd⟩
  lia
 | [],_::_,_,_,_,h,_,_=>by cases h
 | (true,_)::_,[],_,_,_,h,_,_=>by cases h
 | (false,_)::_,[],_,_,_,h,_,_=>by cases h
def DB(w0:World)(G:Nat->Prop)(L:bM)(V:Nat->Value):Γ PV->Γ Value->Prop
 | [],vs=>vs=[]
 | p::r,vs=>∃v s,vs=v::s/\mS w0 G L V p v/\DB w0 G L V r s
theorem bQ.opnds(hR:bQ n K w0 G w a E L V own):∀xs:Γ Operand,DB w0 G L V (xs.map (Am.opnd E)) (xs.map a.eval)
 | []=>rfl
 | x::r=>⟨_,_,rfl,hR.opnd x,hR.opnds r⟩
theorem SJ:∀ {ats:Γ dE} {vs:Γ Value},tV w0 G L V ats vs->DB w0 G L V (ats.map PV.a) vs
 | [],vs,h=>h
 | A::s,vs,⟨v,r,h,h1,h2⟩=>⟨v,r,h,h1,SJ h2⟩
theorem Nt:∀ {ps qs:Γ PV} {vs us:Γ Value},DB w0 G L V ps vs->DB w0 G L V qs us->DB w0 G L V (ps++qs) (vs++us)
 | [],qs,vs,us,h,h2=>by cases h;grind
 | p::r,qs,vs,us,⟨v,s,h,h1,h3⟩,h2=>by subst h;exact⟨v,_,rfl,h1,Nt h3 h2⟩
def Az(own:Nat->Γ Nat)(os:Γ (Γ Nat)):Γ (Γ Nat):=os.map λl=>(l.map own).flatten
theorem aLR{t t':Ty}(h:t'=t){xs:Γ t'.den}{cs:Γ Value}{bs:Γ Nat}(hp:iA w (.sl t') xs cs bs):iA w (.sl t) (q9 h xs) cs bs:=by
 subst h;exact hp
theorem aS3(hf:t.flat=true){xs:Γ t.den}{V v:Value}{bs:Γ Nat}{lo hi:Nat}(h:iA w (.sl t) xs [V] bs)(hs:aKe t.size xs.length V lo hi v):iA w (.sl t) (Ay (some (lo,hi)) xs) [v] bs:=by
 obtain⟨V',hV,h⟩:=h;cases hV;obtain⟨hlo,hhi,hcase⟩:=hs;have hlen:(Ay (some (lo,hi)) xs).length=hi-lo:=by
  show ((xs.take hi).drop lo).length=hi-lo
  grind
 refine⟨v,rfl,by rw[hlen];have:=h.1;lia,?_⟩;rcases h.2 with ⟨ad,h1,h2,h3⟩ | ⟨b,off,cap,cur,ty,fz,bss,h1,h2,h3,h4,h5,h6,h7,h8,h9⟩
 ·grind [Ay,kK]
 ·have hbn:∀l∈bss,l=[]:=λl hl=>by
   obtain⟨i,hi',rfl⟩:=List.mem_iff_getElem.1 hl;have hx:i<xs.length:=by lia
   obtain⟨cs,_,_,hr⟩:=h9 i _ _ (aX hx) (aX hi');exact(hr.flat (w':=w) (G:=λ_=>True) hf).2
  rcases hcase with ⟨_,_,hV,hv,h0⟩ | ⟨b',off',m,cap',o,c,hV,hv,hc,hcase⟩
  ·obtain⟨h0,rfl⟩:=h0;have hx0:xs=[]:=cF h0;subst hx0;have hnil:Ay (some (lo,hi)) ([]:Γ t.den)=[]:=cF (by lia);rw[hnil,hv, <- hV];exact .inr ⟨b,off,cap,cur,ty,fz,bss,h1,h2,h3,h4,h5,h6,h7,h8,h9⟩
  ·rw[h1]at hV;cases hV;refine .inr ⟨b,o,c,cur,ty,fz,((bss.take hi).drop lo),by lia,by lia,by lia,?_,h5,h6,by grind,?_,λi x bi hx hbi=>?_⟩
   ·rcases hcase with ⟨e1,e2⟩ | ⟨e1,e2⟩
    ·have:(lo+c)*t.size<=cap*t.size:=cV _ e2
     lia
    lia
   ·grind [wL,gY]
   ·have hx':xs[lo+i]? = some x:=by
     change ((xs.take hi).drop lo)[i]? = some x at hx
     grind
    grind
theorem aAP(hR:bQ n K w0 G w a E L V own){e:Ty}{l:gJ}{x:Γ e.den}{us:Γ Nat}(hr:UG w0 G L V l v)(h:slW L e l=some (x,us)) :
  iA w (.sl e) x [v] (us.map own).flatten/\∀r∈us,∃B,b5 L r=some B:=by
 unfold slW at h;split at h
 ·cases h;obtain⟨rfl,⟨h3,h4⟩,_⟩:=hr;subst h3 h4;exact⟨⟨_,rfl,bG _,.inl ⟨_,rfl,rfl,rfl⟩⟩,λr hr=>by grind⟩
 ·rename_i r;split at h
  ·rename_i B hB;split at h
   ·lia
   ·rename_i hbor;split at h
    ·rename_i he;cases h;obtain⟨B',hB',h1,_⟩:=hr;refine⟨?_,λs hs=>⟨B,by grind⟩⟩;have:=hR.heap r B hB;obtain⟨t',xs,bor,_,_⟩:=B;subst hbor he;rw[h1 rfl];simp;exact iS.own.1 this
    lia
  lia
 ·rename_i r lo hi;split at h
  ·rename_i B hB;split at h
   ·rename_i hfb;split at h
    ·rename_i he;cases h;obtain⟨B',hB',_,h2⟩:=hr;rw[hB]at hB';cases hB';have hent:=hR.heap r B hB;obtain⟨t',xs,bor,bls,bsm⟩:=B;simp at hfb he;obtain⟨hf,hbor⟩:=hfb;subst hbor he;refine⟨?_,λs hs=>⟨⟨t',xs,false,bls,bsm⟩,by grind⟩⟩;simp;exact aS3 hf (iS.own.1 hent) h2
    lia
   lia
  lia
 lia
theorem KU(hR:bQ n K w0 G w a E L V own):∀ {t:Ty} {ls:Γ gJ} {x:t.den} {us:Γ Nat} {cs:Γ Value},iL w0 G L V ls cs->El L t ls=some (x,us)->iA w t x cs (us.map own).flatten/\∀r∈us,∃B,b5 L r=some B
 | .int k',ls,x,us,cs,hr,h=>by
  simp only[El]at h;split at h
  ·rename_i y hy;cases h;exact⟨(jQ (t := .int k') hr hy).own rfl,λr hr=>by grind⟩
  lia
 | .bool,ls,x,us,cs,hr,h=>by
  simp only[El]at h;split at h
  ·rename_i y hy;cases h;exact⟨(jQ (t := .bool) hr hy).own rfl,λr hr=>by grind⟩
  lia
 | .fn,ls,x,us,cs,hr,h=>by
  simp only[El]at h;split at h
  ·rename_i y hy;cases h;exact⟨(jQ (t := .fn) hr hy).own rfl,λr hr=>by grind⟩
  lia
 | .str,ls,x,us,cs,hr,h=>by
  simp[El]at h;split at h
  ·rename_i y hy;cases h;exact⟨(jQ (t := .str) hr hy).own rfl,λr hr=>by grind⟩
  lia
 | .unit,ls,x,us,cs,hr,h=>by
  simp only[El]at h;split at h
  ·rename_i y hy;cases h;exact⟨(jQ (t := .unit) hr hy).own rfl,λr hr=>by grind⟩
  lia
 | .sl e,ls,x,us,cs,hr,h=>by
  simp only[El]at h;split at h
  ·obtain⟨v,r,rfl,h1,h2⟩:=hr;cases h2
   grind [aAP]
  lia
 | .cons p q,ls,x,us,cs,hr,h=>by
  simp only[El]at h;split at h
  ·rename_i y ys z zs hy hz;cases h;obtain⟨h1,h2⟩:=KU hR (r9 p.size hr) hy;obtain⟨h3,h4⟩:=KU hR (rZ p.size hr) hz;refine⟨⟨_,_,_,_,(fH p.size cs).symm,by simp,h1,h3⟩,λr hr=>?_⟩
   grind
  lia
theorem aS4{α:Type}{l:Γ α}{x:α}(h:bD5 l=some x):l=[x]:=by
 match l,h with
 | [y],h=>cases h;rfl
theorem aS5(hR:bQ n K w0 G w a E L V own){r:Nat}{A:iJ}{ls:Γ gJ}{b off:Nat}(hA:b5 L r=some A)(hls:A.ls=some ls)(hx:A.xs=[])(hv:V r = .slice (some ⟨b,off,none⟩) 0 1)(ht:A.t=t){x:t.den}{us:Γ Nat}(ho:El L t ls=some (x,us)) :
  aSy w t x (.pointer (some ⟨b,off,none⟩)) (own r++(us.map own).flatten)/\∀s∈us,∃B,b5 L s=some B:=by
 subst ht;obtain⟨b1,off1,cs,e1,e3,e4,e5,e6⟩:=hR.boxs r A ls hA hls;obtain⟨h1,h2⟩:=KU hR e6 ho;refine⟨⟨b,off,rfl,by simp[maxLen],?_⟩,h2⟩;rcases(hR.heap r A hA).2 with ⟨_,g1,_,_⟩ | ⟨b',off',cap',cur,ty,fz,bss,g1,g2,g3,g4,g5,g6,g7,g8,g9⟩
 ·lia
 ·rw[hv]at g1;simp only[kK,iH,uV]at g1;obtain⟨⟨q1,q2,_⟩,_,q3⟩:=g1;have hbss:bss=[]:=cF (by lia);subst hbss q1 q2 q3;refine .inr ⟨b,off,1,cur,ty,fz,[(us.map own).flatten],rfl,aT _,by lia,by lia,g5,g6,rfl,by grind,λi y bi hy hb=>?_⟩;cases i with
  | succ i=>grind
  | zero =>
   cases hy;cases hb;refine⟨cs,e3,λj c hj=>?_,h1⟩;have:=e5 j c hj
   grind [gW]
def SK(G:Nat->Prop)(own:Nat->Γ Nat)(us:Γ Nat)(b:Nat):Prop:=G b\/∃r∈us,b∈own r
def SmG(K:gU)(G:Nat->Prop)(sm:Bool):Nat->Prop:=if sm=true then K.G0 else G
theorem KV(hR:bQ n K w0 G w a E L V own)(k:cQ [] w w'){A:dE}{x:t.den}{us:Γ Nat}(hA:nQ w0 G L V A v)(h:aKi L t A=some (x,us)) :
  aSy w' t x v (us.map own).flatten/\(∀r∈us,∃B,b5 L r=some B)/\∃r B vs b off ls,us=r::vs/\A = .bptr r 0 t/\b5 L r=some B/\B.t=t/\B.xs=[]/\B.ls=some ls/\V r = .slice (some ⟨b,off,none⟩) 0 1/\v = .pointer (some ⟨b,off,none⟩):=by
 unfold aKi at h;split at h
 ·split at h
  ·rename_i B ht hB;split at h
   ·rename_i ls hls hck;split at h
    ·rename_i y us1 hown;simp at hck;obtain⟨hBt,hxs⟩:=hck;obtain⟨B',ls',b,off,hB',hls',hv,rfl,hsz⟩:=hA;obtain⟨h1,h2⟩:=aS5 (hR.ext k) hB hls hxs hv hBt hown
     grind
    lia
   lia
  lia
 lia
theorem DC(hR:bQ n K w0 G w a E L V own){w':World}(k:cQ [] w w')(hG:∀b,G b->G' b){q:Bool}:∀ {sig:Γ AT} {ps:Γ PV} {vs:Γ Value} {x:eQ sig} {os:Γ (Γ Nat)} {us:Γ Nat},
  DB w0 G L V ps vs->wW L sig ps=some (x,os,us)->(q=true->uB L sig ps=true)->(∀r∈us,∀b∈own r,G' b)->Hz w' G' (SmG K G q) sig x vs (Az own os)
 | [],[],vs,x,os,us,hp,h,_,_=>by cases h;cases hp;exact⟨rfl,rfl⟩
 | t::r,y::s,vs,x,os,us,⟨v,vs',hvs,hpy,hps⟩,h,hq,hd=>by
  subst hvs;simp[wW]at h;split at h
  ·rename_i z o u zs os' us' h1 h2;cases h;have ih:=DC hR k hG hps h2 (λe=>by have:=hq e;simp[uB]at this;exact this.2) (λr hr=>hd r (dC _ hr));have hd1:=λr hr=>hd r (dA us' hr);refine⟨_,_,(o.map own).flatten,Az own os',rfl,rfl,?_,ih⟩;cases t with
   | v t =>
    cases y with
    | a A =>
     simp[Dg]at h1;split at h1
     ·rename_i q hq;cases h1;exact⟨rfl,UX hR k hG hpy hq hd1⟩
     lia
    | tup _=>cases h1
    | fn _ _=>cases h1
   | p t =>
    cases y with
    | a A =>
     simp only[Dg]at h1;split at h1
     ·rename_i q hq;cases h1;exact⟨rfl,UY hR k hG hpy hq hd1⟩
     lia
    | tup _=>cases h1
    | fn _ _=>cases h1
   | own t =>
    cases y with
    | a A =>
     cases A with
     | osl r rg =>
      cases rg with
      | none =>
       simp[Dg]at h1;split at h1
       ·rename_i B hB;split at h1
        ·lia
        rename_i hbor;split at h1
        ·rename_i ht;cases h1;obtain⟨B',hB',hve,hs⟩:=hpy;obtain⟨tB,xB,bB,lB,sB⟩:=B;subst hbor;have hown:=(hR.heap r _ hB).keep (w':=w') λb hb=>k.block b (hR.own_lt hB b hb) (by simp);have hv:v=V r:=hve rfl;simp;rw[hv];exact aLR ht (iS.own.1 hown)
        lia
       lia
      | some q=>cases h1
     | _=>cases h1
    | tup _=>cases h1
    | fn _ _=>cases h1
   | po t =>
    cases y with
    | a A =>
     simp only[Dg]at h1;split at h1
     ·rename_i x us1 hpo;cases h1;exact(KV hR k hpy hpo).1
     lia
    | tup _=>cases h1
    | fn _ _=>cases h1
   | fn f caps =>
    cases y with
    | a A=>cases h1
    | tup _=>cases h1
    | fn g ats =>
     simp[Dg]at h1;split at h1
     ·rename_i q2 us'' hfg hq2;cases h1;obtain⟨vs,hv,hr⟩:=hpy;obtain rfl:=bF hfg;exact⟨rfl,vs,hv,IH hR k hG hq2 hr hd1⟩
     lia
  lia
 | [],_::_,_,_,_,_,_,h,_,_=>by cases h
 | _::_,[],_,_,_,_,_,h,_,_=>by cases h
end
def II:PV->Γ Nat
 | .a A=>uL A
 | .tup xs=>xs.flatMap uL
 | .fn _ xs=>xs.flatMap uL
def UZ(r:Nat)(p:PV):PV:=match yW r (II p)with | true => .a .junk | false=>p
def Nu(r:Nat)(E:gK):gK:=E.map λq=>(q.1,UZ r q.2)
theorem Pv(r:Nat):∀(E:gK) (i:Nat),(Nu r E).get i=UZ r (E.get i)
 | [],i=>rfl
 | (j,p)::s,i=>by
  simp[Nu,gK.get];cases h:cC j i with
  | true=>rfl
  | false=>exact Pv r s i
variable {r:Nat}
theorem U0{p:PV}:r ∉ II (UZ r p)/\∀s∈II (UZ r p),s∈II p:=by
 grind [UZ,II,uL,Bl]
def oD(L:bM)(V:Nat->Value)(L':bM)(V':Nat->Value)(r:Nat):Prop :=
 V' r=V r/\∀A,b5 L r=some A->∃A',b5 L' r=some A'/\A'.t=A.t/\A'.xs.length=A.xs.length/\∀ls,A.ls=some ls->∃ls',A'.ls=some ls'
variable {L:bM} {V:Nat->Value}
theorem oD.of_same{L':bM}{V':Nat->Value}(hV:V' r=V r)(h:b5 L' r=b5 L r):oD L V L' V' r :=
 ⟨hV,λA hA=>⟨A,by lia,rfl,rfl,λls h=>⟨ls,h⟩⟩⟩
theorem oD.trans{L L1 L2:bM}{V V1 V2:Nat->Value}{r:Nat}(h:oD L V L1 V1 r)(k:oD L1 V1 L2 V2 r):oD L V L2 V2 r:=by
 refine⟨k.1.trans h.1,λA hA=>?_⟩;obtain⟨A',e1,e2,e3,e4⟩:=h.2 A hA;obtain⟨A'',f1,f2,f3,f4⟩:=k.2 A' e1;exact⟨A'',f1,f2.trans e2,f3.trans e3,λls hls=>by obtain⟨l',h'⟩:=e4 ls hls;exact f4 l' h'⟩
variable {v:Value}
theorem F4{L L':bM}{V V':Nat->Value}{rg:Option (Nat×Nat)}(h:Pm L V r rg v)(ha:oD L V L' V' r):Pm L' V' r rg v:=by
 obtain⟨B,hB,h1,h2⟩:=h;obtain⟨hV,hL⟩:=ha;obtain⟨B',hB',ht,hl,_⟩:=hL B hB;exact⟨B',hB',by lia,by lia⟩
variable {w0:World}
theorem aHU{G:Nat->Prop}{L L':bM}{V V':Nat->Value}{l:gJ}(h:UG w0 G L V l v)(ha:∀r∈Lr l,oD L V L' V' r):UG w0 G L' V' l v:=by
 cases l with
 | osl r rg=>exact F4 h (ha r (by simp[Lr]))
 | _=>exact h
theorem DD{w0:World}{G:Nat->Prop}{L L':bM}{V V':Nat->Value}:∀ {ls:Γ gJ} {cs:Γ Value},iL w0 G L V ls cs->(∀r∈jF ls,oD L V L' V' r)->iL w0 G L' V' ls cs
 | [],_,h,_=>h
 | l::ls,_,⟨v,r,h,h1,h2⟩,ha=>⟨v,r,h,aHU h1 (λr hr=>ha r (by grind [jF])),DD h2 (λr hr=>ha r (by grind [jF]))⟩
theorem Bm{G:Nat->Prop}{L L':bM}{V V':Nat->Value}{A:dE}(h:nQ w0 G L V A v)(ha:∀r∈uL A,oD L V L' V' r):nQ w0 G L' V' A v:=by
 cases A with
 | osl r rg=>exact F4 h (ha r (by simp[uL]))
 | optr r i p =>
  obtain⟨B,hB,h2⟩:=h;obtain⟨hV,hL⟩:=ha r (by simp[uL]);obtain⟨B',hB',ht,hl,_⟩:=hL B hB;exact⟨B',hB',by lia⟩
 | rcd t ls =>
  obtain⟨cs,h1,h2,h3⟩:=h;exact⟨cs,h1,h2,DD h3 ha⟩
 | bptr r o t =>
  obtain⟨B,ls,b,off,hB,h1,h2,h3,h4⟩:=h;obtain⟨hV,hL⟩:=ha r (by simp[uL]);obtain⟨B',hB',ht,hl,hls⟩:=hL B hB;obtain⟨ls',hls'⟩:=hls ls h1;exact⟨B',ls',b,off,hB',hls',by lia,h3,by lia⟩
 | _=>exact h
theorem IJ{w0:World}{G:Nat->Prop}{L L':bM}{V V':Nat->Value}:∀ {ats:Γ dE} {vs:Γ Value},tV w0 G L V ats vs->(∀r∈ats.flatMap uL,oD L V L' V' r)->tV w0 G L' V' ats vs
 | [],_,h,_=>h
 | A::s,vs,⟨v,r,h,h1,h2⟩,ha=>⟨v,r,h,Bm h1 (λr hr=>ha r (by grind)),IJ h2 (λr hr=>ha r (by grind))⟩
theorem sC{G:Nat->Prop}{L L':bM}{V V':Nat->Value}{p:PV}(h:mS w0 G L V p v)(ha:∀r∈II p,oD L V L' V' r):mS w0 G L' V' p v:=by
 cases p with
 | a A=>exact Bm h ha
 | tup xs=>obtain⟨vs,hv,hr⟩:=h;exact⟨vs,hv,IJ hr ha⟩
 | fn f xs=>obtain⟨vs,hv,hr⟩:=h;exact⟨vs,hv,IJ hr ha⟩
theorem ZZ{G:Nat->Prop}{p:PV}(r:Nat)(h:mS w0 G L V p v):mS w0 G L V (UZ r p) v:=by
 unfold UZ;cases yW r (II p)with
 | true=>trivial
 | false=>lia
theorem Z0{rg:Option (Nat×Nat)}(h:Pm L V r rg v):∃B,b5 L r=some B:=by
 obtain⟨B,hB,_⟩:=h;grind
theorem F5{w0:World}{G:Nat->Prop}{L:bM}{V:Nat->Value}:∀ {ls:Γ gJ} {cs:Γ Value},iL w0 G L V ls cs->∀r∈jF ls,∃B,b5 L r=some B
 | [],_,_,r,hr=>by cases hr
 | l::ls,_,⟨v,q,_,h1,h2⟩,r,hr=>by
  simp[jF]at hr;rcases hr with hr | hr
  ·cases l with
   | osl s rg=>simp[Lr]at hr;subst hr;exact Z0 h1
   | _=>grind [Lr]
  ·exact F5 h2 r hr
theorem KW{G:Nat->Prop}{A:dE}(h:nQ w0 G L V A v):∀r∈uL A,∃B,b5 L r=some B:=by
 cases A with
 | osl r rg=>intro s hs;simp[uL]at hs;subst hs;exact Z0 h
 | optr r i p=>obtain⟨B,hB,_⟩:=h;grind [uL]
 | rcd t ls=>obtain⟨cs,_,_,h⟩:=h;exact F5 h
 | bptr r o t=>obtain⟨B,ls,b,off,hB,_⟩:=h;grind [uL]
 | _=>simp[uL]
theorem Ls{w0:World}{G:Nat->Prop}{L:bM}{V:Nat->Value}:∀ {ats:Γ dE} {vs:Γ Value},tV w0 G L V ats vs->∀r∈ats.flatMap uL,∃B,b5 L r=some B
 | [],_,_,r,hr=>by grind
 | A::s,vs,⟨v,q,h,h1,h2⟩,r,hr=>by
  simp only[List.flatMap_cons,cY]at hr;rcases hr with hr | hr
  ·exact KW h1 r hr
  ·exact Ls h2 r hr
theorem Z1{G:Nat->Prop}{p:PV}(h:mS w0 G L V p v):∀r∈II p,∃B,b5 L r=some B:=by
 cases p with
 | a A=>exact KW h
 | tup xs=>obtain⟨vs,hv,hr⟩:=h;exact Ls hr
 | fn f xs=>obtain⟨vs,hv,hr⟩:=h;exact Ls hr
def Em{β:Type}(f:Nat->β)(r:Nat)(x:β):Nat->β:=λs=>cond (cC s r) x (f s)
theorem fC{β:Type}(f:Nat->β)(r:Nat)(x:β):Em f r x r=x:=by simp[Em]
theorem dI{β:Type}(f:Nat->β){r s:Nat}(x:β)(h:s≠r):Em f r x s=f s:=by
 simp[Em,yS h]
def yX(r:Nat):gJ->gJ
 | .osl s rg=>match cC s r with | true => .junk | false => .osl s rg
 | l=>l
def pJ(r:Nat)(A:iJ):iJ:=match A.ls with
 | some ls=>⟨A.t,A.xs,A.bor,some (ls.map (yX r)),A.sm⟩
 | none=>A
def yF(r:Nat)(L:bM):bM:=L.map λo=>match o with | some A=>some (pJ r A) | none=>none
theorem oU(r:Nat):∀(L:bM) (s:Nat),b5 (yF r L) s=(b5 L s).map (pJ r)
 | [],_=>rfl
 | some A::L,0=>rfl
 | none::L,0=>rfl
 | _::L,s+1=>by exact oU r L s
theorem Nv(r:Nat)(A:iJ):(pJ r A).t=A.t:=by grind [pJ]
theorem aE4(r:Nat)(A:iJ):(pJ r A).sm=A.sm:=by grind [pJ]
theorem Z2(r:Nat)(A:iJ):(pJ r A).bor=A.bor:=by grind [pJ]
theorem KX{w0 w:World}{G:Nat->Prop}{A:iJ}{bs:Γ Nat}:iS w0 G w (pJ r A) v bs↔iS w0 G w A v bs:=by
 unfold pJ;split
 all_goals rfl
theorem Pw(r:Nat)(A:iJ):(pJ r A).xs.length=A.xs.length:=by grind [pJ]
theorem IK{A:iJ}:(∀ls,A.ls=some ls->(pJ r A).ls=some (ls.map (yX r)))/\∀ls',(pJ r A).ls=some ls'->∃ls,A.ls=some ls/\ls'=ls.map (yX r):=by
 unfold pJ
 grind
theorem aE5(r:Nat)(L:bM)(V:Nat->Value)(s:Nat):oD L V (yF r L) V s :=
 ⟨rfl,λA hA=>⟨pJ r A,by grind [oU],Nv r A,Pw r A,λls hls=>⟨_,IK.1 ls hls⟩⟩⟩
theorem U1{w0:World}{G:Nat->Prop}{L:bM}{V:Nat->Value}(r:Nat):∀ {ls:Γ gJ} {cs:Γ Value},iL w0 G L V ls cs->iL w0 G L V (ls.map (yX r)) cs
 | [],_,h=>h
 | l::ls,_,⟨v,s,h,h1,h2⟩=>by
  refine⟨v,s,h,?_,U1 r h2⟩;cases l with
  | osl s' rg =>
   simp[yX];cases cC s' r with
   | true=>exact Pm.one h1
   | false=>lia
  | _=>exact h1
theorem IL{r:Nat}:∀ {ls:Γ gJ},r ∉ jF (ls.map (yX r))/\∀s∈jF (ls.map (yX r)),s∈jF ls
 | []=>⟨by simp[jF],λs hs=>hs⟩
 | l::ls=>by
  obtain⟨h1,h2⟩:=IL (r:=r) (ls:=ls);have key:r ∉ Lr (yX r l)/\∀s∈Lr (yX r l),s∈Lr l:=by
   cases l with
   | osl s rg =>
    simp[yX];cases hb:cC s r with
    | true=>simp[Lr]
    | false =>
     simp[Lr];intro e;simp_all
   | _=>simp[yX,Lr]
  simp[jF]
  grind
theorem Dd.agree{w0 w:World}{G:Nat->Prop}{L L':bM}{V V':Nat->Value}{t:Ty}{ls:Γ gJ}(h:Dd w0 G w L V t ls v)(ha:∀r∈jF ls,oD L V L' V' r):Dd w0 G w L' V' t ls v:=by
 obtain⟨b,off,cs,h1,h3,h4,h5,h6⟩:=h;exact⟨b,off,cs,h1,h3,h4,h5,DD h6 ha⟩
theorem Dd.live{w0 w:World}{G:Nat->Prop}{t:Ty}{ls:Γ gJ}(h:Dd w0 G w L V t ls v):∀r∈jF ls,∃B,b5 L r=some B:=by
 obtain⟨b,off,cs,h1,h3,h4,h5,h6⟩:=h
 grind [F5]
theorem Dd.kill{w0 w:World}{G:Nat->Prop}{t:Ty}{ls:Γ gJ}(r:Nat)(h:Dd w0 G w L V t ls v):Dd w0 G w L V t (ls.map (yX r)) v:=by
 obtain⟨b,off,cs,h1,h3,h4,h5,h6⟩:=h;exact⟨b,off,cs,h1,h3,by grind,h5,U1 r h6⟩
section
variable {P:Program} {n:Nat} {K:gU} {G:Nat->Prop} {w0 w:World} {a:Act} {E:gK} {L:bM} {V:Nat->Value} {own:Nat->Γ Nat}
variable {v:Value} {bs:Γ Nat}
theorem bQ.grow(hR:bQ n K w0 G w a E L V own){A0:iJ}(ho:iS w0 G w A0 v bs)(hn:bs.Nodup)(hg:∀b∈bs,Out K G b)
  (hd:∀r A,b5 L r=some A->∀b∈own r,b ∉ bs) (hbox:∀ls,A0.ls=some ls->Dd w0 G w L V A0.t ls v:=by intro ls h;cases h) (hsm:∀q,A0.sm=some q->(∃b off,v = .slice (some ⟨b,off,none⟩) 1 1)/\(q=true->A0.bor=true/\iS w0 K.G0 w A0 v bs):=by intro q h;cases h):bQ n K w0 G w a E (L++[some A0]) (Em V L.length v) (Em own L.length bs):=by
 have hsplit:∀r A,b5 (L++[some A0]) r=some A->(r≠L.length/\b5 L r=some A)\/(r=L.length/\A=A0):=by
  intro r A h;rw[nE]at h;split at h
  ·lia
  ·have:r-L.length=0:=by
    cases hk:r-L.length with
    | zero=>rfl
    | succ k=>grind [b5]
   grind [b5]
 have hagree:∀r,(∃B,b5 L r=some B)->oD L V (L++[some A0]) (Em V L.length v) r:=by
  rintro r ⟨B,hB⟩;have hlt:=wS hB;refine oD.of_same (dI _ _ (by lia)) ?_;rw[nE,π hlt]
 refine⟨hR.glob,hR.kept,hR.size,hR.defers,hR.glt,hR.gref,hR.gsub,hR.gold,hR.gup,?_,?_,?_,?_,?_,?_,λi=>sC (hR.env i) λr hr=>hagree r (Z1 (hR.env i) r hr)⟩
 ·intro r A h;rcases hsplit r A h with ⟨hne,h⟩ | ⟨rfl,rfl⟩
  ·rw[dI _ _ hne,dI _ _ hne];exact hR.heap r A h
  grind [fC]
 ·intro r A h;rcases hsplit r A h with ⟨hne,h⟩ | ⟨rfl,rfl⟩
  ·rw[dI _ _ hne];exact hR.good r A h
  grind [fC]
 ·intro r A h;rcases hsplit r A h with ⟨hne,h⟩ | ⟨rfl,rfl⟩
  ·rw[dI _ _ hne];exact hR.nodup r A h
  grind [fC]
 ·intro r s A B h1 h2 hrs;rcases hsplit r A h1 with ⟨hne,g1⟩ | ⟨rfl,rfl⟩
  ·rcases hsplit s B h2 with ⟨hne',g2⟩ | ⟨rfl,rfl⟩
   ·rw[dI _ _ hne,dI _ _ hne'];exact hR.apart r s A B g1 g2 hrs
   grind [fC,dI]
  ·rcases hsplit s B h2 with ⟨hne',g2⟩ | ⟨rfl,rfl⟩
   ·grind [fC,dI]
   lia
 ·intro r A ls h hls;rcases hsplit r A h with ⟨hne,h⟩ | ⟨rfl,rfl⟩
  ·rw[dI _ _ hne];have hb:=hR.boxs r A ls h hls;exact hb.agree λs hs=>hagree s (hb.live s hs)
  ·rw[fC];have hb:=hbox ls hls;exact hb.agree λs hs=>hagree s (hb.live s hs)
 ·intro r A q h hs;rcases hsplit r A h with ⟨hne,h⟩ | ⟨rfl,rfl⟩
  ·rw[dI _ _ hne,dI _ _ hne];exact hR.small r A q h hs
  grind [fC]
theorem uM{A0:iJ}{G G':Nat->Prop}{u:World}(h:iS u G' w A0 v bs):nQ w0 G (L++[some A0]) (Em V L.length v) (.osl L.length none) v:=by
 have hg:b5 (L++[some A0]) L.length=some A0:=by
  rw[nE,ν (Yu _),BT];rfl
 refine⟨_,hg,λ_=>(fC _ _ _).symm,?_⟩;rw[fC];refine⟨bG _,aT _,?_⟩;rcases h.2 with ⟨ad,h1,h2,_⟩ | ⟨b,off,cap,cur,ty,fz,bss,h1,h2,h3,h4,h5,h6,h7,h8,h9⟩
 ·grind
 ·exact .inr ⟨b,off,A0.xs.length,cap,off,cap,h1,by rw[h1];rfl,by grind [Hn],.inl ⟨by simp[yT],by simp[yT]⟩⟩
theorem U2(L:bM)(A:iJ):b5 (L++[some A]) L.length=some A:=by
 rw[nE,ν (Yu _),BT];rfl
theorem bQ.widen(hR:bQ n K w0 G w a E L V own){F:Nat->Prop}(hF:∀b,F b->b<w.heap.size)(hF2:∀b,F b->¬Good K.w0 K.O b)(hd:∀b,F b->∀r A,b5 L r=some A->b ∉ own r):bQ n K w (λb=>G b\/F b) w a E L V own:=by
 have hG:∀b,G b->(λb=>G b\/F b) b:=λb hb => .inl hb;have repA:∀ {A:dE} {v:Value},nQ w0 G L V A v->nQ w (λb=>G b\/F b) L V A v:=by
  intro A v h;have hls:∀ {ls:Γ gJ} {cs:Γ Value},iL w0 G L V ls cs->iL w (λb=>G b\/F b) L V ls cs:=by
   intro ls
   induction ls with
   | nil=>intro cs h;exact h
   | cons l r ih =>
    rintro cs ⟨v,s,h1,h2,h3⟩;refine⟨v,s,h1,?_,ih h3⟩;cases l with
    | sl t xs=>exact oE.keep (λ_ _=>eK.keep hG hR.gref) hG hR.gref h2
    | _=>exact h2
  cases A with
  | osl r rg=>exact h
  | optr r i p=>exact h
  | rcd t ls=>obtain⟨cs,h1,h2,h3⟩:=h;exact⟨cs,h1,h2,hls h3⟩
  | bptr r o t=>exact h
  | val u=>exact h
  | sl t xs=>exact pI (A := .sl t xs) hG hR.gref h
  | ptr t x=>exact pI (A := .ptr t x) hG hR.gref h
  | st t x=>exact pI (A := .st t x) hG hR.gref h
  | junk=>exact h
 have repAs:∀ {ats:Γ dE} {vs:Γ Value},tV w0 G L V ats vs->tV w (λb=>G b\/F b) L V ats vs:=by
  intro ats
  induction ats with
  | nil=>intro vs h;exact h
  | cons A s ih=>rintro vs ⟨v,r,h1,h2,h3⟩;exact⟨v,r,h1,repA h2,ih h3⟩
 have hls:∀ {ls:Γ gJ} {cs:Γ Value},iL w0 G L V ls cs->iL w (λb=>G b\/F b) L V ls cs:=by
  intro ls
  induction ls with
  | nil=>intro cs h;exact h
  | cons l r ih =>
   rintro cs ⟨v,s,h1,h2,h3⟩;refine⟨v,s,h1,?_,ih h3⟩;cases l with
   | sl t xs=>exact oE.keep (λ_ _=>eK.keep hG hR.gref) hG hR.gref h2
   | _=>exact h2
 refine⟨hR.glob,hR.kept,hR.size,hR.defers,?_,λ_ _=>rfl,λb hb => .inl (hR.gsub b hb),hR.gold,λb hb=>hb.elim (hR.gup b) (λh => .inr (hF2 b h)),λr A hA=>(hR.heap r A hA).keepG hG hR.gref (λ_ _=>rfl),?_,hR.nodup,hR.apart,?_,?_,λi=>?_⟩
 ·rintro b (hb | hb)
  ·exact hR.glt b hb
  grind
 ·intro r A hA b hb;obtain⟨h1,h2⟩:=hR.good r A hA b hb;exact⟨h1,λh=>h.elim h2 λhf=>hd b hf r A hA hb⟩
 ·intro r A ls hA hls';obtain⟨b,off,cs,h1,h3,h4,h5,h6⟩:=hR.boxs r A ls hA hls';exact⟨b,off,cs,h1,h3,h4,h5,hls h6⟩
 ·intro r A q hA hs;obtain⟨h1,h2⟩:=hR.small r A q hA hs;exact⟨h1,λe=>⟨(h2 e).1,(h2 e).2.keepG (λ_ h=>h) (λb hb=>hR.gref b (hR.gsub b hb)) (λ_ _=>rfl)⟩⟩
 ·have hi:=hR.env i;generalize E.get i=p at hi;cases p with
  | a A=>exact repA hi
  | tup xs=>obtain⟨vs,hv,hr⟩:=hi;exact⟨vs,hv,repAs hr⟩
  | fn f xs=>obtain⟨vs,hv,hr⟩:=hi;exact⟨vs,hv,repAs hr⟩
structure pY (L:bM) (es:bM) (V V':Nat->Value) (own own':Nat->Γ Nat) (bs:Γ Nat):Prop where
 same:∀r,r<L.length->V' r=V r/\own' r=own r
 new:∀r,L.length<=r->r<L.length+es.length->∀b∈own' r,b∈bs
theorem pY.agree{es:bM}{V V':Nat->Value}{own own':Nat->Γ Nat}(h:pY L es V V' own own' bs):∀r,(∃B,b5 L r=some B)->oD L V (L++es) V' r:=by
 rintro r ⟨B,hB⟩;have hlt:=wS hB;exact oD.of_same (h.same r hlt).1 (by rw[nE,π hlt])
theorem pY.refl(V:Nat->Value)(own:Nat->Γ Nat)(bs:Γ Nat):pY L [] V V own own bs :=
 ⟨λr _=>⟨rfl,rfl⟩,λr h1 h2=>by grind⟩
theorem pY.trans{es fs:bM}{V V1 V2:Nat->Value}{own own1 own2:Nat->Γ Nat}{bs cs ds:Γ Nat}(h:pY L es V V1 own own1 bs)(k:pY (L++es) fs V1 V2 own1 own2 cs)(hb:∀b∈bs,b∈ds)(hc:∀b∈cs,b∈ds):pY L (es++fs) V V2 own own2 ds:=by
 refine⟨λr hr=>?_,λr h1 h2 b hb'=>?_⟩
 ·obtain⟨e1,e2⟩:=k.same r (by grind);obtain⟨f1,f2⟩:=h.same r hr
  lia
 ·by_cases hlt:r<L.length+es.length
  ·rw[(k.same r (by grind)).2]at hb';exact hb b (h.new r h1 hlt b hb')
  ·exact hc b (k.new r (by grind) (by grind) b hb')
theorem pY.apart{es:bM}{V V':Nat->Value}{own own':Nat->Γ Nat}{bs rest:Γ Nat}(h:pY L es V V' own own' bs)(ho:∀r A,b5 L r=some A->∀b∈own r,b ∉ rest)(hn:∀b∈bs,b ∉ rest):∀r A,b5 (L++es) r=some A->∀b∈own' r,b ∉ rest:=by
 intro r A hA b hb;rw[nE]at hA;split at hA
 ·rename_i hlt;rw[(h.same r hlt).2]at hb
  grind
 ·have:=wS hA;exact hn b (h.new r (by lia) (by lia) b hb)
def sD(k:Nat):(t:Ty)->t.den->Γ gJ×bM
 | .int k',n=>([.val (.int k' n)],[])
 | .bool,b=>([.val (.bool b)],[])
 | .fn,f=>([.val (fnV f)],[])
 | .str,s=>([.val (.string s)],[])
 | .sl e,xs=>([.osl k none],[some ⟨e,xs,false,none,none⟩])
 | .unit,_=>([],[])
 | .cons a b,x=>match sD k a x.1 with
  | (l1,e1)=>match sD (k+e1.length) b x.2 with
   | (l2,e2)=>(l1++l2,e1++e2)
theorem Nw(hR:bQ n K w0 G w a E L V own){A0:iJ}(ho:iS w0 G w A0 v bs)(hn:bs.Nodup)(hg:∀b∈bs,Out K G b)(hd:∀r A,b5 L r=some A->∀b∈own r,b ∉ bs)
  (hbox:∀ls,A0.ls=some ls->Dd w0 G w L V A0.t ls v:=by intro ls h;cases h) (hsm:∀q,A0.sm=some q->(∃b off,v = .slice (some ⟨b,off,none⟩) 1 1)/\(q=true->A0.bor=true/\iS w0 K.G0 w A0 v bs):=by intro q h;cases h) :
  bQ n K w0 G w a E (L++[some A0]) (Em V L.length v) (Em own L.length bs)/\pY L [some A0] V (Em V L.length v) own (Em own L.length bs) bs:=by
 refine⟨hR.grow ho hn hg hd hbox hsm,λr hr=>⟨dI _ _ (by lia),dI _ _ (by lia)⟩,λr h1 h2 b hb=>?_⟩;have:r=L.length:=by grind
 grind [fC]
theorem En:∀ {t:Ty} {x:t.den} {cs:Γ Value} {bs:Γ Nat} {L:bM} {V:Nat->Value} {own:Nat->Γ Nat},bQ n K w0 G w a E L V own->iA w t x cs bs->bs.Nodup->(∀b∈bs,Out K G b)->(∀r A,b5 L r=some A->∀b∈own r,b ∉ bs) ->
  ∃V' own',bQ n K w0 G w a E (L++(sD L.length t x).2) V' own'/\pY L (sD L.length t x).2 V V' own own' bs/\iL w0 G (L++(sD L.length t x).2) V' (sD L.length t x).1 cs/\(sD L.length t x).1.length=t.size
 | .int k,x,cs,bs,L,V,own,hR,ho,_,_,_=>by
  obtain⟨rfl,h1,_⟩:=ho;exact⟨V,own,by grind [sD],pY.refl _ _ _,⟨_,_,rfl,⟨rfl,h1,rfl⟩,rfl⟩,rfl⟩
 | .bool,x,cs,bs,L,V,own,hR,ho,_,_,_=>by
  obtain⟨rfl,_⟩:=ho;exact⟨V,own,by grind [sD],pY.refl _ _ _,⟨_,_,rfl,⟨rfl,trivial,rfl⟩,rfl⟩,rfl⟩
 | .fn,x,cs,bs,L,V,own,hR,ho,_,_,_=>by
  obtain⟨rfl,_⟩:=ho;exact⟨V,own,by grind [sD],pY.refl _ _ _,⟨_,_,rfl,⟨rfl,aHJ x,Tg x⟩,rfl⟩,rfl⟩
 | .str,x,cs,bs,L,V,own,hR,ho,_,_,_=>by
  obtain⟨rfl,h1,_⟩:=ho;exact⟨V,own,by grind [sD],pY.refl _ _ _,⟨_,_,rfl,⟨rfl,h1,rfl⟩,rfl⟩,rfl⟩
 | .unit,x,cs,bs,L,V,own,hR,ho,_,_,_=>by
  obtain⟨rfl,_⟩:=ho;exact⟨V,own,by grind [sD],pY.refl _ _ _,rfl,rfl⟩
 | .sl e,xs,cs,bs,L,V,own,hR,ho,hn,hg,hd=>by
  obtain⟨v,rfl,ho'⟩:=ho;have hE:iS w0 G w ⟨e,xs,false,none,none⟩ v bs:=iS.own.2 ⟨v,rfl,ho'⟩;obtain⟨h1,h2⟩:=Nw hR hE hn hg hd;exact⟨_,_,h1,h2,⟨_,_,rfl,uM (w0:=w0) (G:=G) (u:=w0) (G':=G) hE,rfl⟩,rfl⟩
 | .cons p q,x,cs,bs,L,V,own,hR,ho,hn,hg,hd=>by
  obtain⟨c1,c2,b1,b2,rfl,rfl,ho1,ho2⟩:=ho;rw[lY]at hn;obtain⟨V1,own1,r1,g1,l1,n1⟩:=En hR ho1 hn.1 (λb hb=>hg b (dA _ hb)) (λr A hA b hb hm=>hd r A hA b hb (dA _ hm));have hlen:(L++(sD L.length p x.1).2).length=L.length+(sD L.length p x.1).2.length:=by simp
  obtain⟨V2,own2,r2,g2,l2,n2⟩:=En r1 ho2 hn.2.1 (λb hb=>hg b (dC _ hb)) (g1.apart (λr A hA b hb hm=>hd r A hA b hb (dC _ hm)) (λb hb hm=>hn.2.2 b hb b hm rfl));rw[hlen]at r2 g2 l2 n2;have e1:(sD L.length (.cons p q) x).2=(sD L.length p x.1).2++(sD (L.length+(sD L.length p x.1).2.length) q x.2).2:=rfl;have e2:(sD L.length (.cons p q) x).1=(sD L.length p x.1).1++(sD (L.length+(sD L.length p x.1).2.length) q x.2).1:=rfl;rw[e1,e2, <- bZ];refine⟨V2,own2,r2,g1.trans g2 (λb hb=>dA _ hb) (λb hb=>dC _ hb),wV (DD l1 λr hr=>g2.agree r (F5 l1 r hr)) l2,?_⟩;rw[aU,n1,n2];rfl
def aAQ:Γ RK->Bool
 | []=>true
 | .own::r=>aAQ r
 | _::_=>false
def yY(k:Nat):RK->aS->dE×bM
 | .own,⟨.sl e,xs⟩=>(.osl k none,[some ⟨e,xs,false,none,none⟩])
 | .own,⟨t,x⟩=>match t.flat with
  | true=>(j8 t x,[])
  | false=>match sD k t x with
   | (ls,es)=>(.rcd t ls,es)
 | .frz,d=>(j8 d.t d.x,[])
def Nx(k:Nat):Γ RK->Γ aS->Γ dE×bM
 | _,[]=>([],[])
 | ks,d::r=>match yY k (RK.hd ks) d with
  | (A,es)=>match Nx (k+es.length) ks.tail r with
   | (As,fs)=>(A::As,es++fs)
theorem U3{t:Ty}{cs:Γ Value}(hl:cs.length=t.size)(h:H2 t cs v):v=hZ t cs:=by
 cases t <;> simp[H2]at h <;> subst h <;> rfl
theorem U4{t:Ty}{x:t.den}{cs:Γ Value}(hf:t.flat=true)(h:iA w t x cs bs)(hv:H2 t cs v)(G:Nat->Prop) :
  nQ w0 G L V (j8 t x) v/\bs=[]:=by
 obtain⟨hr,hb⟩:=h.flat (w':=w0) (G:=G) hf;rw[U3 h.length hv];exact⟨AF hr.repB,hb⟩
theorem Bn{b:Γ Nat}{bs:Γ (Γ Nat)}(h:(b::bs).flatten.Nodup):b.Nodup/\bs.flatten.Nodup/\∀x∈b,x ∉ bs.flatten:=by
 grind
theorem aS6{k:RK}{d:aS}{Gc F:Nat->Prop}{b:Γ Nat}(hR:bQ n K w0 G w a E L V own)(hk:k = .own\/((∀c,Gc c\/F c->G c)/\w0=w))(hr:UH w Gc F k d v b)(hn:b.Nodup)(hg:∀c∈b,Out K G c)(hd:∀r A,b5 L r=some A->∀c∈own r,c ∉ b) :
  ∃V' own',bQ n K w0 G w a E (L++(yY L.length k d).2) V' own'/\pY L (yY L.length k d).2 V V' own own' b/\nQ w0 G (L++(yY L.length k d).2) V' (yY L.length k d).1 v:=by
 obtain⟨t,x⟩:=d;cases k with
 | own =>
  obtain⟨cs,ho,hv⟩:=hr;by_cases hsl:∃e,t = .sl e
  ·obtain⟨e,rfl⟩:=hsl;subst hv;have hE:iS w0 G w ⟨e,x,false,none,none⟩ v b:=iS.own.2 ho;obtain⟨h1,h2⟩:=Nw hR hE hn hg hd;exact⟨_,_,h1,h2,uM (w0:=w0) (G:=G) (u:=w0) (G':=G) hE⟩
  ·have e:yY L.length .own ⟨t,x⟩=match t.flat with
     | true=>(j8 t x,[])
     | false=>match sD L.length t x with
      | (ls,es)=>(.rcd t ls,es):=by
    cases t with
    | sl e=>lia
    | _=>rfl
   rw[e];cases hf:t.flat with
   | true =>
    grind [pY.refl,U4]
   | false =>
    obtain⟨V',own',h1,h2,h3,h4⟩:=En hR ho hn hg hd;refine⟨V',own',h1,h2,cs,?_,h4,h3⟩;rw[U3 ho.length hv];cases t with
    | sl e=>lia
    | unit=>rfl
    | cons _ _=>rfl
    | int _=>cases hf
    | bool=>cases hf
    | fn=>cases hf
    | str=>cases hf
 | frz =>
  obtain⟨hG,rfl⟩:=hk.resolve_left (by lia);obtain⟨rfl,cs,hc,hv⟩:=hr;refine⟨V,own,by grind [yY],pY.refl _ _ _,?_⟩;rw[U3 hc.length hv];exact AF (hc.keep hG (λ_ _=>rfl)).repB
theorem U5:∀ {ks:Γ RK} {ds:Γ aS} {Gc F:Nat->Prop} {L:bM} {V:Nat->Value} {own:Nat->Γ Nat} {rs:Γ Value} {rbs:Γ (Γ Nat)},
  bQ n K w0 G w a E L V own->(aAQ ks=true\/((∀c,Gc c\/F c->G c)/\w0=w))->Y8 w Gc F ks ds rs rbs->rbs.flatten.Nodup->(∀b∈rbs.flatten,Out K G b)->(∀r A,b5 L r=some A->∀b∈own r,b ∉ rbs.flatten) ->
  ∃V' own',bQ n K w0 G w a E (L++(Nx L.length ks ds).2) V' own'/\pY L (Nx L.length ks ds).2 V V' own own' rbs.flatten/\tV w0 G (L++(Nx L.length ks ds).2) V' (Nx L.length ks ds).1 rs
 | ks,[],Gc,F,L,V,own,rs,rbs,hR,_,hr,_,_,_=>by
  have hr':rs=[]/\rbs=[]:=by cases ks <;> exact hr
  obtain⟨rfl,rfl⟩:=hr';have e:Nx L.length ks []=([],[]):=by rfl
  exact⟨V,own,by grind,pY.refl _ _ _,rfl⟩
 | ks,d::ds,Gc,F,L,V,own,rs,rbs,hR,hk,hr,hn,hg,hd=>by
  have hr':∃v s b bs,rs=v::s/\rbs=b::bs/\UH w Gc F (RK.hd ks) d v b/\Y8 w Gc F ks.tail ds s bs:=by cases ks <;> exact hr
  obtain⟨v,s,b,bs,rfl,rfl,h1,h2⟩:=hr';obtain⟨hn1,hn2,hn3⟩:=Bn hn;have hk1:RK.hd ks = .own\/((∀c,Gc c\/F c->G c)/\w0=w):=hk.imp_left λh=>by
   cases ks with
   | nil=>rfl
   | cons k ks=>cases k <;> first | rfl | cases h
  have hk2:aAQ ks.tail=true\/((∀c,Gc c\/F c->G c)/\w0=w):=hk.imp_left λh=>by
   cases ks with
   | nil=>rfl
   | cons k ks=>cases k <;> first | exact h | cases h
  obtain⟨V1,own1,r1,g1,a1⟩:=aS6 hR hk1 h1 hn1 (λc hc=>hg c (by grind)) (λr A hA c hc hm=>hd r A hA c hc (by grind));have hlen:(L++(yY L.length (RK.hd ks) d).2).length=L.length+(yY L.length (RK.hd ks) d).2.length:=by simp
  obtain⟨V2,own2,r2,g2,a2⟩:=U5 r1 hk2 h2 hn2 (λc hc=>hg c (by grind)) (g1.apart (λr A hA c hc hm=>hd r A hA c hc (by grind)) hn3);rw[hlen]at r2 g2 a2;have e:Nx L.length ks (d::ds)=((yY L.length (RK.hd ks) d).1::(Nx (L.length+(yY L.length (RK.hd ks) d).2.length) ks.tail ds).1,(yY L.length (RK.hd ks) d).2++(Nx (L.length+(yY L.length (RK.hd ks) d).2.length) ks.tail ds).2):=by
   rfl
  rw[e, <- bZ];refine⟨V2,own2,r2,g1.trans g2 (λc hc=>by grind) (λc hc=>by grind),v,s,rfl,?_,a2⟩;exact Bm a1 λr hr=>g2.agree r (KW a1 r hr)
end
abbrev IM:=Γ (Nat×Option iJ)
def aKj(t:Ty):Γ gJ:=aQ t.size .junk
def KY(us:Γ Nat):IM:=us.map λr=>(r,none)
def aX1(t:Ty)(A:jC):Option t.den:=if h:A.t=t then bD5 (q9 h A.xs)else none
def aKk(L:bM)(us:Γ Nat)(A':jC):Option (Γ Prop×IM) :=
 match us with
 | [r]=>match b5 L r with
  | some A=>match decide (A'.t=A.t),A.ls with
   | true,none=>some ([A'.xs.length=A.xs.length],[(r,some ⟨A'.t,A'.xs,false,none,none⟩)])
   | _,_=>none
  | none=>none
 | _=>none
def aOu(t:Ty)(us:Γ Nat)(A':jC):Option (IM×Γ (Nat×aS)) :=
 match us,aX1 t A' with
 | r::vs,some x=>some ((r,some ⟨t,[],false,some (aKj t),none⟩)::KY vs,[(r,⟨t,x⟩)])
 | _,_=>none
def U6(L:bM)(q:Bool):AT->PV->Γ Nat->jC->Option (Γ Prop×IM×Γ (Nat×aS))
 | .own t,p,us,A'=>match aKk L us A' with | some (cs,as)=>some (cs,as,[]) | none=>none
 | .po t,p,us,A'=>match aOu t us A' with | some (as,ex)=>some ([],as,ex) | none=>none
 | _,_,_,_=>none
def aAR(L:bM)(q:Bool)(o:AT)(p:PV)(us:Γ Nat):Option jC->Option (Γ Prop×IM×Γ (Nat×aS))
 | none=>some ([],KY us,[])
 | some A'=>U6 L q o p us A'
def SL:AT->Bool
 | .own _=>true
 | .po _=>true
 | _=>false
def F6(L:bM)(q:Bool):Γ AT->Γ PV->Γ (Γ Nat)->Γ (Option jC)->Option (Γ Prop×IM×Γ (Nat×aS))
 | [],_,_,[]=>some ([],[],[])
 | o::r,p::s,us::os,ups=>match SL o with
  | false=>F6 L q r s os ups
  | true=>match ups with
   | u::ups=>match aAR L q o p us u,F6 L q r s os ups with
    | some (cs,as,ex),some (ds,bs,fx)=>some (cs++ds,as++bs,ex++fx)
    | _,_=>none
   | []=>none
 | _,_,_,_=>none
def yG:IM->gK×bM->gK×bM
 | [],EL=>EL
 | (r,none)::s,EL=>yG s (Nu r EL.1,yF r (jY EL.2 r none))
 | (r,some A)::s,EL=>yG s (EL.1,jY EL.2 r (some A))
def aAS:Γ (Nat×aS)->bM->bM
 | [],L=>L
 | (r,d)::s,L=>match sD L.length d.t d.x with
  | (ls,es)=>aAS s (jY (L++es) r (some ⟨d.t,[],false,some ls,none⟩))
def aE6:Γ dE->PV
 | [A] => .a A
 | ats => .tup ats
def Z3(ext:A7)(E:gK)(L:bM)(f:FuncId)(ps:Γ PV):Option (Γ Prop×PV×gK×bM) :=
 match ext with
 | []=>none
 | (g,S)::r=>match cC f g with
  | true=>match wW L S.sig ps with
   | some (x,os,us)=>match aE2 os.flatten us&&Bk os.flatten&&(aAQ S.kds||us.isEmpty),F6 L (uB L S.sig ps) S.sig ps os (S.upd x)with
    | true,some (cs,acts,ex)=>match yG acts (E,L)with
     | (E',L1)=>match aAS ex L1 with
      | L2=>match Nx L2.length S.kds (S.res x)with
       | (ats,es)=>some (S.pre x::cs,aE6 ats,E',L2++es)
    | _,_=>Z3 r E L f ps
   | none=>Z3 r E L f ps
  | false=>Z3 r E L f ps
section
variable {P:Program} {n:Nat} {K:gU} {G:Nat->Prop} {w0 w:World} {a:Act} {E:gK} {L:bM} {V:Nat->Value} {own:Nat->Γ Nat}
variable {r:Nat}
theorem kC{L:bM}{x:Option iJ}{A:iJ}(h:b5 L r=some A):b5 (jY L r x) r=x:=by
 rw[ZO,π ⟨rfl,wS h⟩]
theorem dS{L:bM}{r s:Nat}{x:Option iJ}(h:r≠s):b5 (jY L r x) s=b5 L s:=by
 rw[ZO,ν (λhh=>h hh.1)]
def Z4(A A':iJ):Prop:=A'.t=A.t/\A'.xs.length=A.xs.length/\∀ls,A.ls=some ls->∃ls',A'.ls=some ls'
theorem aHV{A A':iJ}(h:Z4 A A'):Z4 (pJ r A) A':=by
 obtain⟨h1,h2,h3⟩:=h;refine⟨h1.trans (Nv r A).symm,h2.trans (Pw r A).symm,λls hls=>?_⟩;obtain⟨l0,h0,_⟩:=IK.2 ls hls
 grind
theorem Px{A A':iJ}(hA:b5 L r=some A)(h:Z4 A A')(V:Nat->Value)(s:Nat):oD L V (jY L r (some A')) V s:=by
 refine⟨rfl,λB hB=>?_⟩;by_cases hs:r=s
 ·subst hs;rw[hA]at hB;cases hB;exact⟨A',kC hA,h.1,h.2.1,h.2.2⟩
 ·exact⟨B,by grind [dS],rfl,rfl,λls h=>⟨ls,h⟩⟩
def aHW{r s:Nat}(hs:s≠r)(V:Nat->Value):oD L V (jY L r none) V s :=
 oD.of_same rfl (dS (kT hs))
structure Py (n:Nat) (K:gU) (w0:World) (G:Nat->Prop) (w:World) (a:Act) (E:gK) (L:bM) (V:Nat->Value) (own:Nat->Γ Nat) (pend:Γ Nat) (rest:Nat->Prop):Prop where
 glob:No K.w0 K.O
 kept:cQ K.O K.w0 w
 size:a.tmps.size=n
 defers:a.defers=[]
 glt:∀b,G b->b<w.heap.size
 gref:∀b,G b->w.heap[b]? = w0.heap[b]?
 gsub:∀b,K.G0 b->G b
 gold:∀b,K.G0 b->Good K.w0 K.O b
 gup:∀b,G b->K.Ga b\/¬Good K.w0 K.O b
 heap:∀r A,b5 L r=some A->r ∉ pend->iS w0 G w A (V r) (own r)
 good:∀r A,b5 L r=some A->r ∉ pend->∀b∈own r,Out K G b
 nodup:∀r A,b5 L r=some A->r ∉ pend->(own r).Nodup
 apart:∀r s A B,b5 L r=some A->b5 L s=some B->r ∉ pend->s ∉ pend->r≠s->∀b∈own r,b ∉ own s
 boxs:∀r A ls,b5 L r=some A->r ∉ pend->A.ls=some ls->Dd w0 G w L V A.t ls (V r)
 small:∀r A q,b5 L r=some A->r ∉ pend->A.sm=some q->(∃b off,V r = .slice (some ⟨b,off,none⟩) 1 1)/\(q=true->A.bor=true/\iS w0 K.G0 w A (V r) (own r))
 env:∀i,mS w0 G L V (E.get i) (a.tmps.getD i undef)
 live:∀r∈pend,∃A,b5 L r=some A
 rest:∀r A,b5 L r=some A->r ∉ pend->∀b∈own r,¬rest b
variable {rest:Nat->Prop}
theorem Py.done(h:Py n K w0 G w a E L V own [] rest):bQ n K w0 G w a E L V own :=
 ⟨h.glob,h.kept,h.size,h.defers,h.glt,h.gref,h.gsub,h.gold,h.gup,λr A hA=>h.heap r A hA (by simp),λr A hA=>h.good r A hA (by simp),λr A hA=>h.nodup r A hA (by simp),λr s A B h1 h2=>h.apart r s A B h1 h2 (by simp) (by simp),λr A ls hA=>h.boxs r A ls hA (by simp),λr A q hA=>h.small r A q hA (by simp),h.env⟩
theorem mO{r s:Nat}{rs:Γ Nat}(h1:s≠r)(h2:s ∉ rs):s ∉ r::rs:=λhm=>by
 grind
theorem Py.drop{pend:Γ Nat}(hp:Py n K w0 G w a E L V own (r::pend) rest)(hr:r ∉ pend):Py n K w0 G w a (Nu r E) (yF r (jY L r none)) V own pend rest:=by
 obtain⟨A0,hA0⟩:=hp.live r (aR ..);have hback:∀s A,b5 (yF r (jY L r none)) s=some A->s≠r/\∃B,b5 L s=some B/\A=pJ r B:=by
  intro s A hs;rw[oU]at hs;by_cases hsr:s=r
  ·grind [kC]
  ·rw[dS (kT hsr)]at hs;cases hB:b5 L s with
   | none=>grind
   | some B=>grind
 have hag:∀s,s≠r->oD L V (yF r (jY L r none)) V s:=λs hs=>(aHW hs V).trans (aE5 r _ V s);refine⟨hp.glob,hp.kept,hp.size,hp.defers,hp.glt,hp.gref,hp.gsub,hp.gold,hp.gup,?_,?_,?_,?_,?_,?_,λi=>?_,?_,?_⟩
 ·intro s A hs hm;obtain⟨h1,B,h2,rfl⟩:=hback s A hs;exact KX.2 (hp.heap s B h2 (mO h1 hm))
 ·intro s A hs hm;obtain⟨h1,B,h2,rfl⟩:=hback s A hs;exact hp.good s B h2 (mO h1 hm)
 ·intro s A hs hm;obtain⟨h1,B,h2,rfl⟩:=hback s A hs;exact hp.nodup s B h2 (mO h1 hm)
 ·intro s t A B hs ht hm hm' hst;obtain⟨h1,C,h2,rfl⟩:=hback s A hs;obtain⟨h3,D,h4,rfl⟩:=hback t B ht;exact hp.apart s t C D h2 h4 (mO h1 hm) (mO h3 hm') hst
 ·intro s A ls hs hm hls;obtain⟨h1,B,h2,rfl⟩:=hback s A hs;obtain⟨l0,h0,rfl⟩:=IK.2 ls hls;rw[Nv];refine((hp.boxs s B l0 h2 (mO h1 hm) h0).kill r).agree λu hu=>hag u λe=>?_
  grind [IL]
 ·intro s A q hs hm hq;obtain⟨h1,B,h2,rfl⟩:=hback s A hs;rw[aE4]at hq;obtain⟨g1,g2⟩:=hp.small s B q h2 (mO h1 hm) hq
  grind [Z2,KX]
 ·rw[Pv];exact sC (ZZ r (hp.env i)) λs hs=>hag s λe=>U0.1 (e ▸ hs)
 ·intro s hs;obtain⟨A,hA⟩:=hp.live s (aM _ hs);have:s≠r:=λe=>hr (e ▸ hs);exact⟨pJ r A,by rw[oU,dS (kT this),hA];rfl⟩
 ·intro s A hs hm;obtain⟨h1,B,h2,rfl⟩:=hback s A hs;exact hp.rest s B h2 (mO h1 hm)
theorem Py.set{pend b:Γ Nat}{A':iJ}(hp:Py n K w0 G w a E L V own (r::pend) (λc=>c∈b\/rest c))(hr:r ∉ pend)(hsh:∀A,b5 L r=some A->Z4 A A')(hE:iS w0 G w A' (V r) b)
  (hbox:∀ls,A'.ls=some ls->Dd w0 G w L V A'.t ls (V r)) (hsm:∀q,A'.sm=some q->(∃b off,V r = .slice (some ⟨b,off,none⟩) 1 1)/\(q=true->A'.bor=true/\iS w0 K.G0 w A' (V r) b)) (hn:b.Nodup) (hnr:∀c∈b,¬rest c) (hg:∀c∈b,Out K G c) :
  Py n K w0 G w a E (jY L r (some A')) V (Em own r b) pend rest:=by
 obtain⟨A0,hA0⟩:=hp.live r (aR ..);have hag:∀s,oD L V (jY L r (some A')) V s:=Px hA0 (hsh A0 hA0) V;have hsplit:∀s B,b5 (jY L r (some A')) s=some B->(s≠r/\b5 L s=some B)\/(s=r/\B=A'):=by
  intro s B hs;by_cases hsr:s=r
  ·subst hsr;rw[kC hA0]at hs;lia
  ·exact .inl ⟨hsr,by rwa [dS (kT hsr)]at hs⟩
 have hold:∀s B,b5 L s=some B->s≠r->s ∉ pend->∀c∈own s,c ∉ b/\¬rest c:=by
  intro s B hs h1 h2 c hc;have:=hp.rest s B hs (mO h1 h2) c hc
  lia
 refine⟨hp.glob,hp.kept,hp.size,hp.defers,hp.glt,hp.gref,hp.gsub,hp.gold,hp.gup,?_,?_,?_,?_,?_,?_,λi=>sC (hp.env i) λs _=>hag s,?_,?_⟩
 ·intro s B hs hm;rcases hsplit s B hs with ⟨h1,h2⟩ | ⟨rfl,rfl⟩
  ·rw[dI _ _ h1];exact hp.heap s B h2 (mO h1 hm)
  grind [fC]
 ·intro s B hs hm;rcases hsplit s B hs with ⟨h1,h2⟩ | ⟨rfl,rfl⟩
  ·rw[dI _ _ h1];exact hp.good s B h2 (mO h1 hm)
  grind [fC]
 ·intro s B hs hm;rcases hsplit s B hs with ⟨h1,h2⟩ | ⟨rfl,rfl⟩
  ·rw[dI _ _ h1];exact hp.nodup s B h2 (mO h1 hm)
  grind [fC]
 ·intro s t B C hs ht hm hm' hst;rcases hsplit s B hs with ⟨h1,h2⟩ | ⟨rfl,rfl⟩
  ·rcases hsplit t C ht with ⟨h3,h4⟩ | ⟨rfl,rfl⟩
   ·rw[dI _ _ h1,dI _ _ h3];exact hp.apart s t B C h2 h4 (mO h1 hm) (mO h3 hm') hst
   grind [dI,fC]
  ·rcases hsplit t C ht with ⟨h3,h4⟩ | ⟨rfl,rfl⟩
   ·grind [dI,fC]
   lia
 ·intro s B ls hs hm hls;rcases hsplit s B hs with ⟨h1,h2⟩ | ⟨rfl,rfl⟩
  ·exact(hp.boxs s B ls h2 (mO h1 hm) hls).agree λu _=>hag u
  ·exact(hbox ls hls).agree λu _=>hag u
 ·intro s B q hs hm hq;rcases hsplit s B hs with ⟨h1,h2⟩ | ⟨rfl,rfl⟩
  ·rw[dI _ _ h1];exact hp.small s B q h2 (mO h1 hm) hq
  grind [fC]
 ·intro s hs;obtain⟨B,hB⟩:=hp.live s (aM _ hs);have:s≠r:=λe=>hr (e ▸ hs);exact⟨B,by rw[dS (kT this)];lia⟩
 ·all_goals grind [dI,fC]
def A8(K:gU)(w0:World)(G:Nat->Prop)(w:World)(V:Nat->Value):IM->Γ (Γ Nat)->Prop
 | [],bss=>bss=[]
 | (r,none)::s,bss=>A8 K w0 G w V s bss
 | (r,some A')::s,bss=>∃b t,bss=b::t/\iS w0 G w A' (V r) b/\(∀ls,A'.ls=some ls->jF ls=[]/\Dd w0 G w [] V A'.t ls (V r)) /\
   (∀q,A'.sm=some q->(∃b off,V r = .slice (some ⟨b,off,none⟩) 1 1)/\(q=true->A'.bor=true/\iS w0 K.G0 w A' (V r) b))/\A8 K w0 G w V s t
theorem A8.append{as bs:IM}:∀ {xs ys:Γ (Γ Nat)},A8 K w0 G w V as xs->A8 K w0 G w V bs ys->A8 K w0 G w V (as++bs) (xs++ys):=by
 induction as with
 | nil=>intro xs ys h1 h2;cases h1;grind
 | cons p s ih =>
  intro xs ys h1 h2;obtain⟨r,o⟩:=p;cases o with
  | none=>exact ih (xs:=xs) h1 h2
  | some A' =>
   obtain⟨b,t,rfl,h3,h4,h5,h6⟩:=h1;exact⟨b,t++ys,rfl,h3,h4,h5,ih h6 h2⟩
theorem Lt:∀ {us:Γ Nat},A8 K w0 G w V (KY us) []
 | []=>rfl
 | r::s=>Lt (us:=s)
theorem IN:∀(us:Γ Nat),(KY us).map dB=us
 | []=>rfl
 | r::s=>by simp only[KY,dG,List.cons.injEq,true_and];exact IN s
def U7(L:bM)(acts:IM):Prop:=∀p∈acts,∀A',p.2=some A'->∀A,b5 L p.1=some A->Z4 A A'
def Py.mono{pend:Γ Nat}{R R':Nat->Prop}(h:Py n K w0 G w a E L V own pend R)(hR:∀c,R' c->R c):Py n K w0 G w a E L V own pend R' :=
 { h with rest:=λr A hA hr c hc hm=>h.rest r A hA hr c hc (hR c hm) }
theorem Pz:∀ {acts:IM} {E:gK} {L:bM} {own:Nat->Γ Nat} {bss:Γ (Γ Nat)} {rest:Nat->Prop},
  Py n K w0 G w a E L V own (acts.map dB) (λc=>c∈bss.flatten\/rest c)->(acts.map dB).Nodup->A8 K w0 G w V acts bss->U7 L acts->bss.flatten.Nodup->(∀c∈bss.flatten,¬rest c)->(∀b∈bss.flatten,Out K G b) ->
  ∃own',bQ n K w0 G w a (yG acts (E,L)).1 (yG acts (E,L)).2 V own'/\(∀r A,b5 (yG acts (E,L)).2 r=some A->∀b∈own' r,¬rest b)
 | [],E,L,own,bss,rest,hp,_,hok,_,_,_,_=>by
  exact⟨own,hp.done,λr A hA b hb hm=>hp.rest r A hA (by simp) b hb (.inr hm)⟩
 | (r,none)::acts,E,L,own,bss,rest,hp,hnd,hok,hsh,hn,hnr,hg=>by
  obtain⟨hr,hnd'⟩:=jJ.1 hnd;refine Pz (acts:=acts) (hp.drop hr) hnd' hok ?_ hn hnr hg;rintro⟨p1,p2⟩ hp' A' hA' A hA;rw[oU]at hA;have hpr:p1≠r:=λe=>hr (dK.2 ⟨_,hp',e⟩);rw[dS (kT hpr)]at hA;cases hB:b5 L p1 with
  | none=>grind
  | some B =>
   rw[hB]at hA;cases hA;exact aHV (hsh (p1,p2) (aM _ hp') A' hA' B hB)
 | (r,some A')::acts,E,L,own,bss,rest,hp,hnd,hok,hsh,hn,hnr,hg=>by
  obtain⟨hr,hnd'⟩:=jJ.1 hnd;obtain⟨b,t,rfl,hE,hbox,hsm,hok'⟩:=hok;simp only[gF]at hp hn hnr hg;rw[lY]at hn;have hp':=(hp.mono (R':=λc=>c∈b\/(c∈t.flatten\/rest c)) (λc hc=>by
   grind)).set hr (hsh _ (aR ..) A' rfl) hE (λls hls=>(hbox ls hls).2.agree λu hu=>by grind) hsm hn.1 (λc hc hm=>hm.elim (λhm=>hn.2.2 c hc c hm rfl) (hnr c (dA _ hc))) (λc hc=>hg c (dA _ hc))
  refine Pz (acts:=acts) hp' hnd' hok' ?_ hn.2.1 (λc hc=>hnr c (dC _ hc)) (λc hc=>hg c (dC _ hc));rintro⟨p1,p2⟩ hp2 B' hB' B hB;have hpr:p1≠r:=λe=>hr (dK.2 ⟨_,hp2,e⟩);rw[dS (kT hpr)]at hB;exact hsh (p1,p2) (aM _ hp2) B' hB' B hB
theorem bQ.setLs(hR:bQ n K w0 G w a E L V own){A:iJ}{l0 ls:Γ gJ}(hA:b5 L r=some A)(h0:A.ls=some l0)(hb:Dd w0 G w L V A.t ls (V r)):bQ n K w0 G w a E (jY L r (some ⟨A.t,A.xs,A.bor,some ls,A.sm⟩)) V own:=by
 have hag:∀s,oD L V (jY L r (some ⟨A.t,A.xs,A.bor,some ls,A.sm⟩)) V s:=Px (A':=⟨A.t,A.xs,A.bor,some ls,A.sm⟩) hA ⟨rfl,rfl,λ_ _=>⟨ls,rfl⟩⟩ V;have hsplit:∀s B,b5 (jY L r (some ⟨A.t,A.xs,A.bor,some ls,A.sm⟩)) s=some B->(s≠r/\b5 L s=some B)\/(s=r/\B=⟨A.t,A.xs,A.bor,some ls,A.sm⟩):=by
  intro s B hs;by_cases hsr:s=r
  ·subst hsr;rw[kC hA]at hs;lia
  ·exact .inl ⟨hsr,by rwa [dS (kT hsr)]at hs⟩
 have hlive:∀s B,b5 (jY L r (some ⟨A.t,A.xs,A.bor,some ls,A.sm⟩)) s=some B->∃C,b5 L s=some C:=λs B hs=>by
  grind
 refine⟨hR.glob,hR.kept,hR.size,hR.defers,hR.glt,hR.gref,hR.gsub,hR.gold,hR.gup,?_,?_,?_,?_,?_,?_,λi=>sC (hR.env i) λs _=>hag s⟩
 ·intro s B hs;rcases hsplit s B hs with ⟨_,h⟩ | ⟨rfl,rfl⟩
  ·exact hR.heap s B h
  ·exact hR.heap s A hA
 ·intro s B hs;obtain⟨C,hC⟩:=hlive s B hs;exact hR.good s C hC
 ·intro s B hs;obtain⟨C,hC⟩:=hlive s B hs;exact hR.nodup s C hC
 ·intro s t B D hs ht hst;obtain⟨C,hC⟩:=hlive s B hs;obtain⟨F,hF⟩:=hlive t D ht;exact hR.apart s t C F hC hF hst
 ·intro s B l hs hl;rcases hsplit s B hs with ⟨_,h⟩ | ⟨rfl,rfl⟩
  ·exact(hR.boxs s B l h hl).agree λu _=>hag u
  ·cases hl;exact hb.agree λu _=>hag u
 ·intro s B q hs hq;rcases hsplit s B hs with ⟨_,h⟩ | ⟨rfl,rfl⟩
  ·exact hR.small s B q h hq
  ·exact hR.small s A q hA hq
def U8(w:World)(V:Nat->Value):Γ (Nat×aS)->Γ (Γ Nat)->Prop
 | [],bss=>bss=[]
 | (r,d)::s,bss=>∃b t blk off cs,bss=b::t/\V r = .slice (some ⟨blk,off,none⟩) 0 1/\lD w blk off cs/\iA w d.t d.x cs b/\U8 w V s t
theorem U8.append:∀ {as bs:Γ (Nat×aS)} {xs ys:Γ (Γ Nat)},U8 w V as xs->U8 w V bs ys->U8 w V (as++bs) (xs++ys)
 | [],_,_,_,h1,h2=>by cases h1;grind
 | (r,d)::as,bs,_,ys,⟨b,t,blk,off,cs,h1,h3,h4,h5,h6⟩,h2=>by
  subst h1;exact⟨b,t++ys,blk,off,cs,rfl,h3,h4,h5,h6.append h2⟩
def bD6(L:bM)(ex:Γ (Nat×aS)):Prop:=∀p∈ex,∃ls,b5 L p.1=some ⟨p.2.t,[],false,some ls,none⟩
theorem aE7:∀ {ex:Γ (Nat×aS)} {L:bM} {V:Nat->Value} {own:Nat->Γ Nat} {bss:Γ (Γ Nat)} {rest:Nat->Prop},bQ n K w0 G w a E L V own->U8 w V ex bss->bD6 L ex->(ex.map dB).Nodup ->
  bss.flatten.Nodup->(∀c∈bss.flatten,¬rest c)->(∀b∈bss.flatten,Out K G b)->(∀r A,b5 L r=some A->∀b∈own r,b ∉ bss.flatten/\¬rest b) ->
  ∃V' own',bQ n K w0 G w a E (aAS ex L) V' own'/\(∀r A,b5 (aAS ex L) r=some A->∀b∈own' r,¬rest b)
 | [],L,V,own,bss,rest,hR,hok,_,_,_,_,_,hd=>by
  exact⟨V,own,hR,λr A hA b hb=>(hd r A hA b hb).2⟩
 | (r,d)::ex,L,V,own,bss,rest,hR,hok,hin,hnd,hn,hnr,hg,hd=>by
  obtain⟨b,t,blk,off,cs,rfl,hv,hc,ho,hok'⟩:=hok;obtain⟨l0,hA⟩:=hin _ (aR ..);obtain⟨hr,hnd'⟩:=jJ.1 hnd;have hn':=lY.1 hn;obtain⟨V1,own1,r1,g1,l1,n1⟩:=En hR ho hn'.1 (λc hc=>hg c (dA _ hc)) (λs A hs c hc hm=>(hd s A hs c hc).1 (dA _ hm));have hA':b5 (L++(sD L.length d.t d.x).2) r=some ⟨d.t,[],false,some l0,none⟩:=by
   rw[nE,π (wS hA)];lia
  have hVr:V1 r=V r:=(g1.same r (wS hA)).1;have jY:=r1.setLs (ls:=(sD L.length d.t d.x).1) hA' rfl ⟨blk,off,cs,by lia,ho.length,n1,hc,l1⟩;have hap:∀s A,b5 (L++(sD L.length d.t d.x).2) s=some A->∀c∈own1 s,c ∉ t.flatten/\¬rest c:=by
   intro s A hs c hc;rw[nE]at hs;split at hs
   ·rename_i hlt;rw[(g1.same s hlt).2]at hc
    grind
   ·have hlt:=wS hs;have hcb:=g1.new s (by lia) (by lia) c hc
    grind
  have hV1:∀s A,b5 L s=some A->V1 s=V s:=λs A hs=>(g1.same s (wS hs)).1;have hokV:∀ {ex:Γ (Nat×aS)} {bss:Γ (Γ Nat)},(∀p∈ex,V1 p.1=V p.1)->U8 w V ex bss->U8 w V1 ex bss:=by
   intro ex
   induction ex with
   | nil=>intro bss _ h;exact h
   | cons p s ih =>
    intro bss hh h;obtain⟨b',t',blk',off',cs',e1,e2,e3,e4,e5⟩:=h;exact⟨b',t',blk',off',cs',e1,by simp_all,e3,e4,ih (λp hp=>hh p (aM _ hp)) e5⟩
  refine aE7 (ex:=ex) jY (hokV (λp hp=>?_) hok') ?_ hnd' hn'.2.1 (λc hc=>hnr c (dC _ hc)) (λc hc=>hg c (dC _ hc)) ?_
  ·obtain⟨ls,h⟩:=hin p (aM _ hp)
   grind
  ·rintro⟨p1,p2⟩ hp;obtain⟨ls,h⟩:=hin (p1,p2) (aM _ hp);have hpr:p1≠r:=λe=>hr (dK.2 ⟨_,hp,e⟩);exact⟨ls,by rw[dS (kT hpr),nE,π (wS h)];lia⟩
  ·intro s A hs;by_cases hsr:s=r
   ·grind
   ·rw[dS (kT hsr)]at hs
    grind
theorem aS7{t:Ty}{A:jC}{x:t.den}(h:aX1 t A=some x){y:t.den}(hy:A=⟨t,[y]⟩):x=y:=by
 subst hy;unfold aX1 at h;rw[dif_pos rfl]at h;have:=aS4 h;cases this;rfl
theorem eK.one{w:World}{G:Nat->Prop}:∀ {t:Ty} {x:t.den} {cs:Γ Value},eK w G t x cs->∀c∈cs,c.oneCell'=true
 | .int _,_,_,h,c,hc=>by rw[h.1]at hc;simp at hc;subst hc;rfl
 | .bool,_,_,h,c,hc=>by rw[h]at hc;simp at hc;subst hc;rfl
 | .fn,x,_,h,c,hc=>by rw[h]at hc;grind [Tg]
 | .str,_,_,h,c,hc=>by rw[h.1]at hc;simp at hc;subst hc;rfl
 | .sl _,_,_,⟨v,h,h2⟩,c,hc=>by
  rw[h]at hc;simp at hc;subst hc;rcases h2.2 with ⟨_,rfl,_⟩ | ⟨b,off,cap,rfl,_⟩ <;> rfl
 | .unit,_,_,h,c,hc=>by rw[h]at hc;grind
 | .cons _ _,_,_,⟨c1,c2,h,h1,h2⟩,c,hc=>by
  rw[h]at hc;rcases cY.1 hc with hc | hc
  ·exact h1.one c hc
  ·exact h2.one c hc
theorem iA.one{w:World}:∀ {t:Ty} {x:t.den} {cs:Γ Value} {bs:Γ Nat},iA w t x cs bs->∀c∈cs,c.oneCell'=true:=λ{t x cs bs} h =>
 (h.read (G:=λ_=>True) (λ_ _=>trivial)).one
theorem Z5(w:World):∀ {cs:Γ Value} {k:Nat},(∀c∈cs,c.oneCell'=true)->cs.length=k->iL w0 G [] V (aQ k .junk) cs
 | [],k,_,h=>by subst h;rfl
 | c::cs,k,hc,h=>by
  subst h;exact⟨c,cs,rfl,hc c (aR ..),Z5 w (λd hd=>hc d (aM _ hd)) rfl⟩
theorem U9:∀k:Nat,jF (aQ k .junk)=[]
 | 0=>rfl
 | k+1=>by simp[BF,jF,Lr,U9]
theorem Ua{us:Γ Nat}:U7 L (KY us):=by
 intro p hp A' hA';obtain⟨r,_,rfl⟩:=dK.1 hp
 lia
def bD7(w:World)(G0:Nat->Prop)(o:AT)(v:Value)(b:Γ Nat):Option jC->Prop
 | none=>b=[]
 | some A=>aHK w G0 o A v b
theorem aAT{w':World}{Gq:Nat->Prop}{q:Bool}(hR:bQ n K w0 G w a E L V own)(hGq:∀b,Gq b->G b)(hGs:q=true->∀b,Gq b->K.G0 b)(href:∀b,G b->w'.heap[b]? = w0.heap[b]?){o:AT}{p:PV}{us:Γ Nat}{x:o.den}{u:Option jC}{v:Value}{bs:Γ Nat}{cd:Γ Prop}{acts:IM}{ex:Γ (Nat×aS)}(how:SL o=true)(hp:mS w0 G L V p v)(hd:Dg L o p=some (x,us,[]))
  (h:aAR L q o p us u=some (cd,acts,ex)) (hc:iD cd) (hu:bD7 w' Gq o v bs u) :
  ∃bss exs,A8 K w0 G w' V acts bss/\U8 w' V ex exs/\(bss.flatten++exs.flatten).Perm bs/\U7 L acts/\acts.map dB=us/\(∀r∈ex.map dB,r∈us)/\(ex.map dB).Nodup/\(∀z∈ex,∃ls,(z.1,some ⟨z.2.t,[],false,some ls,none⟩)∈acts):=by
 cases u with
 | none =>
  cases h;have hu:bs=[]:=hu;subst hu;exact⟨[],[],Lt,rfl,.refl _,Ua,IN us,(λr hr=>by grind),lM,λz hz=>by grind⟩
 | some A' =>
  simp only[aAR]at h;cases o with
  | v t=>cases how
  | p t=>cases how
  | fn f c=>cases how
  | own t =>
   simp only[U6]at h;split at h
   ·rename_i cs as hpl;cases h;unfold aKk at hpl;split at hpl
    ·rename_i r;split at hpl
     ·rename_i A hA;split at hpl
      ·rename_i hte hls;have hte:=of_decide_eq_true hte;cases hpl;obtain⟨hlen,_⟩:=hc;have hv:v=V r:=by
        cases p with
        | a B =>
         cases B with
         | osl s rg =>
          cases rg with
          | none =>
           simp only[Dg]at hd;split at hd
           ·split at hd
            ·lia
            ·split at hd
             ·obtain⟨_,_,hve,_⟩:=hp
              lia
             lia
           lia
          | some _=>cases hd
         | _=>cases hd
        | tup _=>cases hd
        | fn _ _=>cases hd
       rw[hv]at hu;refine⟨[bs],[],⟨bs,[],rfl,iS.own.2 hu,(λl h=>by lia),(λq h=>by lia),rfl⟩,rfl,by simp,λz hz B' hB' B2 hB2=>?_,rfl,(λr hr=>by grind),lM,λz hz=>by grind⟩;rw[dU]at hz;subst hz;cases hB';rw[hA]at hB2;cases hB2;exact⟨hte,hlen,λl hl=>by lia⟩
      lia
     lia
    lia
   lia
  | po t =>
   simp only[U6]at h;split at h
   ·rename_i as ex' hpl;cases h;unfold aOu at hpl;split at hpl
    ·rename_i r vs x' hx';cases hpl;obtain⟨y,hA',hat⟩:=hu;have hxy:=aS7 hx' hA';subst hxy;cases p with
     | a B =>
      simp only[Dg]at hd;split at hd
      ·rename_i x1 us1 hpo;cases hd;obtain⟨_,_,r',B',vs',b,off,ls,e1,e2,e3,e4,e5,e6,e7,e8⟩:=KV hR (cQ.refl _ _) hp hpo;cases e1;obtain⟨b',off',e9,hO⟩:=hat;rw[e8]at e9;cases e9;rcases hO.2 with ⟨_,h1,_,_⟩ | ⟨b2,off2,cap,cur,ty,fz,bss,h1,h2,h3,h4,h5,h6,h7,h8,h9⟩
       ·lia
       ·simp only[kK,iH,uV]at h1;obtain⟨⟨q1,q2,_⟩,_,q3⟩:=h1;subst q1 q2 q3;obtain⟨bi,rfl⟩:∃bi,bss=[bi]:=by
         match bss,h7 with
         | [bi],_=>lia
        obtain⟨cs,g1,g2,g3⟩:=h9 0 x' bi rfl rfl;have hcells:lD w' b off cs:=λj c hj=>by
         grind [gW]
        have hE1:iS w0 G w' ⟨t,[],false,some (aKj t),none⟩ (V r) [b]:=by
         refine⟨by simp,.inr ⟨b,off,1,cur,ty,fz,[],e7,bG _,h3,h4,h5,h6,rfl,rfl,λi y bi hy=>by simp⟩⟩
        refine⟨[[b]],[bi],⟨[b],[],rfl,hE1,λl hl=>?_,(λq h=>by lia),Lt⟩,⟨bi,[],b,off,cs,rfl,e7,hcells,g3,rfl⟩,by grind,?_,?_,?_,?_,?_⟩
        ·cases hl;exact⟨U9 _,b,off,cs,e7,g1,by simp[aKj],hcells,Z5 w' g3.one g1⟩
        ·intro z hz A2 hA2 A3 hA3;rcases aW.1 hz with rfl | hz
         ·cases hA2;rw[e3]at hA3;cases hA3;exact⟨e4.symm,by lia,λl hl=>⟨_,rfl⟩⟩
         ·exact Ua z hz A2 hA2 A3 hA3
        all_goals simp[dG,IN,aR,dU,aKj]
      lia
     | tup _=>cases hd
     | fn _ _=>cases hd
    lia
   lia
theorem aOv{o:AT}{p:PV}{x:o.den}{us vs:Γ Nat}(h:Dg L o p=some (x,us,vs)):(SL o=false->us=[])/\(SL o=true->vs=[]):=by
 cases o with
 | v t=>cases p with
  | a A=>simp only[Dg]at h;split at h <;> cases h;exact⟨λ_=>rfl,(λh=>by cases h)⟩
  | tup _=>cases h
  | fn _ _=>cases h
 | p t=>cases p with
  | a A=>simp[Dg]at h;split at h <;> cases h;exact⟨λ_=>rfl,(λh=>by cases h)⟩
  | tup _=>cases h
  | fn _ _=>cases h
 | fn f c=>cases p with
  | a A=>cases h
  | tup _=>cases h
  | fn _ _=>simp[Dg]at h;split at h <;> cases h;exact⟨λ_=>rfl,(λh=>by cases h)⟩
 | own t=>cases p with
  | a A =>
   refine⟨(λh=>by cases h),λ_=>?_⟩;cases A with
   | osl r rg=>cases rg with
    | none =>
     grind [Dg]
    | some _=>cases h
   | _=>cases h
  | tup _=>cases h
  | fn _ _=>cases h
 | po t=>cases p with
  | a A=>refine⟨(λh=>by cases h),λ_=>?_⟩;grind [Dg]
  | tup _=>cases h
  | fn _ _=>cases h
theorem QA{w':World}{Gq:Nat->Prop}{q:Bool}(hR:bQ n K w0 G w a E L V own)(hGq:∀b,Gq b->G b)(hGs:q=true->∀b,Gq b->K.G0 b)(href:∀b,G b->w'.heap[b]? = w0.heap[b]?):∀ {sig:Γ AT} {ps:Γ PV} {vs:Γ Value} {x:eQ sig} {os:Γ (Γ Nat)} {us:Γ Nat} {ups:Γ (Option jC)} {ubs:Γ (Γ Nat)} {cd:Γ Prop} {acts:IM} {ex:Γ (Nat×aS)},
  DB w0 G L V ps vs->wW L sig ps=some (x,os,us)->F6 L q sig ps os ups=some (cd,acts,ex)->iD cd->TS w' Gq (Cp sig) ups (lP sig vs) ubs->os.flatten.Nodup ->
  ∃bss exs,A8 K w0 G w' V acts bss/\U8 w' V ex exs/\(bss.flatten++exs.flatten).Perm ubs.flatten/\U7 L acts/\acts.map dB=os.flatten/\(∀r∈ex.map dB,r∈os.flatten)/\(ex.map dB).Nodup/\(∀z∈ex,∃ls,(z.1,some ⟨z.2.t,[],false,some ls,none⟩)∈acts)
 | [],ps,vs,x,os,us,ups,ubs,cd,acts,ex,hp,hd,h,hc,hu,hn=>by
  cases ps with
  | cons p s=>cases hd
  | nil =>
   cases hd;cases ups with
   | cons u r=>cases h
   | nil =>
    cases h;have hub:ubs=[]:=hu.2;subst hub;exact⟨[],[],rfl,rfl,.refl _,(λz hz=>by grind),rfl,(λr hr=>by grind),lM,λz hz=>by grind⟩
 | o::sig,[],vs,x,os,us,ups,ubs,cd,acts,ex,hp,hd,h,hc,hu,hn=>by cases hd
 | o::sig,p::ps,vs,x,os,us,ups,ubs,cd,acts,ex,⟨v,vs',hvs,hp,hps⟩,hd,h,hc,hu,hn=>by
  subst hvs;simp[wW]at hd;split at hd
  ·rename_i z o1 u1 zs os' us' hd1 hd2;cases hd;obtain⟨n1,n2⟩:=aOv hd1;simp[F6]at h;rw[gF,lY]at hn;split at h
   ·rename_i how;have ho1:=n1 how;subst ho1;have hu':TS w' Gq (Cp sig) ups (lP sig vs') ubs:=by cases o <;> first | exact hu | cases how
    have:=QA (os:=os') hR hGq hGs href hps hd2 h hc hu' hn.2.1;simpa using this
   ·rename_i how;have ho1:=n2 how;subst ho1;split at h
    ·rename_i u ups';split at h
     ·rename_i c1 a1 e1 c2 a2 e2 hp1 hp2;cases h;obtain⟨hc1,hc2⟩:=iD.append.1 hc;have hu':TS w' Gq (o::Cp sig) (u::ups') (v::lP sig vs') ubs:=by cases o <;> first | exact hu | cases how
      have hcomb:∀ {b:Γ Nat} {bs':Γ (Γ Nat)},ubs=b::bs'->TS w' Gq (Cp sig) ups' (lP sig vs') bs'->bD7 w' Gq o v b u ->
        ∃bss exs,A8 K w0 G w' V (a1++a2) bss/\U8 w' V (e1++e2) exs/\(bss.flatten++exs.flatten).Perm ubs.flatten/\U7 L (a1++a2)/\(a1++a2).map dB=(o1::os').flatten/\(∀r∈(e1++e2).map dB,r∈(o1::os').flatten)/\((e1++e2).map dB).Nodup/\(∀z∈e1++e2,∃ls,(z.1,some ⟨z.2.t,[],false,some ls,none⟩)∈a1++a2):=by
       intro b bs' hub hu1 hu2;obtain⟨s1,x1,k1,k2,k3,k4,k5,k6,k7,k8⟩:=aAT (w':=w') hR hGq hGs href how hp hd1 hp1 hc1 hu2;obtain⟨s2,x2,m1,m2,m3,m4,m5,m6,m7,m8⟩:=QA hR hGq hGs href hps hd2 hp2 hc2 hu1 hn.2.1;refine⟨s1++s2,x1++x2,k1.append m1,k2.append m2,?_,λz hz=>?_,by grind,λr hr=>?_,?_,λz hz=>?_⟩
       ·grind
       ·rcases cY.1 hz with hz | hz
        ·exact k4 z hz
        ·exact m4 z hz
       all_goals grind
      cases u with
      | none =>
       obtain⟨v',s',bs',h1,h2,h3⟩:=hu';cases h1;exact hcomb h2 h3 rfl
      | some A =>
       obtain⟨v',s',b,bs',h1,h2,h3,h4⟩:=hu';cases h1;exact hcomb h2 h4 h3
     lia
    lia
  lia
theorem aAU{r:Nat}{A':iJ}:∀ {acts:IM} {E:gK} {L:bM},(acts.map dB).Nodup->(r,some A')∈acts->(∀p∈acts,∃A,b5 L p.1=some A)->(∀ls,A'.ls=some ls->jF ls=[])->b5 (yG acts (E,L)).2 r=some A'
 | [],_,_,_,h,_,_=>by cases h
 | (s,o)::acts,E,L,hn,h,hl,hj=>by
  obtain⟨hs,hn'⟩:=jJ.1 hn;have kill:∀k,pJ k A'=A':=by
   intro k;unfold pJ;split
   ·rename_i ls hls;have h0:=hj ls hls;have:ls.map (yX k)=ls:=by
     clear hls
     induction ls with
     | nil=>rfl
     | cons l r ih =>
      simp only[jF,List.append_eq_nil_iff]at h0;rw[dG,ih h0.2]
      congr 1
      cases l with
      | osl a b=>simp[Lr]at h0
      | _=>rfl
    rw[this];obtain⟨_,_,_,_,_⟩:=A';simp only at hls;subst hls;rfl
   ·rfl
  have keep:∀ {acts:IM} {E:gK} {L:bM},r ∉ acts.map dB->b5 L r=some A'->b5 (yG acts (E,L)).2 r=some A':=by
   intro acts
   induction acts with
   | nil=>intro E L _ h;exact h
   | cons p acts ih =>
    intro E L hm h;obtain⟨s,o⟩:=p;simp only[dG,aW,not_or]at hm;cases o with
    | none =>
     refine ih hm.2 ?_;show b5 (yF s (jY L s none)) r=some A';rw[oU,dS (λe=>hm.1 e.symm),h];simp[kill]
    | some B =>
     refine ih hm.2 ?_;show b5 (jY L s (some B)) r=some A';rw[dS (λe=>hm.1 e.symm)];exact h
  have step:∀L',(∀p∈acts,b5 L' p.1=b5 L p.1\/∃A,b5 L' p.1=some A)->∀p∈acts,∃A,b5 L' p.1=some A:=λL' hh p hp=>by
   rcases hh p hp with h | h
   ·rw[h];exact hl p (aM _ hp)
   ·exact h
  rcases aW.1 h with h1 | h1
  ·cases h1;obtain⟨A,hA⟩:=hl _ (aR ..);show b5 (yG acts (E,jY L r (some A'))).2 r=some A';exact keep hs (kC hA)
  ·cases o with
   | none =>
    show b5 (yG acts (Nu s E,yF s (jY L s none))).2 r=some A';refine aAU (acts:=acts) hn' h1 (step _ λp hp => .inr ?_) hj;have hps:p.1≠s:=λe=>hs (dK.2 ⟨_,hp,e⟩);obtain⟨A,hA⟩:=hl p (aM _ hp);exact⟨pJ s A,by
     show b5 (yF s (jY L s none)) p.1=_;rw[oU,dS (kT hps),hA];rfl⟩
   | some B =>
    show b5 (yG acts (E,jY L s (some B))).2 r=some A';refine aAU (acts:=acts) hn' h1 (step _ λp hp => .inl ?_) hj;have hps:p.1≠s:=λe=>hs (dK.2 ⟨_,hp,e⟩);exact dS (kT hps)
theorem Lu(hR:bQ n K w0 G w a E L V own){A:dE}{v:Value}(h:nQ w0 G L V A v):∀r∈IF L A,∃B,b5 L r=some B:=by
 unfold IF;split
 ·rename_i r o t;obtain⟨B,ls,b,off,hB,hls,_⟩:=h;simp only[hB,hls];intro s hs;rcases aW.1 hs with rfl | hs
  ·grind
  ·exact(hR.boxs r B ls hB hls).live s hs
 grind [KW]
theorem F7(hR:bQ n K w0 G w a E L V own):∀ {caps:Γ (Bool×Ty)} {ats:Γ dE} {x:u2 caps} {us:Γ Nat} {vs:Γ Value},BK L caps ats=some (x,us)->tV w0 G L V ats vs->∀r∈us,∃A,b5 L r=some A
 | [],[],x,us,vs,h,_,r,hr=>by cases h;grind
 | (true,t)::c,A::s,x,us,vs,h,⟨v,q,_,h1,h2⟩,r,hr=>by
  simp[BK]at h;split at h
  ·rename_i y z us' hy hz;cases h;rcases cY.1 hr with hr | hr
   ·exact Lu hR h1 r hr
   ·exact F7 hR hz h2 r hr
  ·cases h
 | (false,t)::c,A::s,x,us,vs,h,⟨v,q,_,h1,h2⟩,r,hr=>by
  simp only[BK]at h;split at h
  ·rename_i y z us' hy hz;cases h;exact F7 hR hz h2 r hr
  ·cases h
 | [],_::_,_,_,_,h,_,_,_=>by cases h
 | (true,_)::_,[],_,_,_,h,_,_,_=>by cases h
 | (false,_)::_,[],_,_,_,h,_,_,_=>by cases h
theorem aLS(hR:bQ n K w0 G w a E L V own){o:AT}{p:PV}{x:o.den}{us vs:Γ Nat}{v:Value}(hp:mS w0 G L V p v)(h:Dg L o p=some (x,us,vs)):(∀r∈vs,∃A,b5 L r=some A)/\∀r∈us,∃A,b5 L r=some A:=by
 cases o with
 | v t=>cases p with
  | a A=>simp only[Dg]at h;split at h <;> cases h;exact⟨Lu hR hp,λr hr=>by grind⟩
  | tup _=>cases h
  | fn _ _=>cases h
 | p t=>cases p with
  | a A=>simp[Dg]at h;split at h <;> cases h;exact⟨Lu hR hp,λr hr=>by grind⟩
  | tup _=>cases h
  | fn _ _=>cases h
 | fn f c=>cases p with
  | a A=>cases h
  | tup _=>cases h
  | fn _ _ =>
   simp[Dg]at h;split at h
   ·obtain⟨vs,hv,hr⟩:=hp
    grind [F7]
   lia
 | own t=>cases p with
  | a A =>
   cases A with
   | osl r rg=>cases rg with
    | none =>
     grind [Dg]
    | some _=>cases h
   | _=>cases h
  | tup _=>cases h
  | fn _ _=>cases h
 | po t=>cases p with
  | a A =>
   simp[Dg]at h;split at h
   ·rename_i x1 us1 hpo;cases h;exact⟨(λr hr=>by grind),(KV hR (cQ.refl _ _) hp hpo).2.1⟩
   lia
  | tup _=>cases h
  | fn _ _=>cases h
theorem wX(hR:bQ n K w0 G w a E L V own):∀ {sig:Γ AT} {ps:Γ PV} {vs:Γ Value} {x:eQ sig} {os:Γ (Γ Nat)} {us:Γ Nat},DB w0 G L V ps vs->wW L sig ps=some (x,os,us) ->
  (∀r∈us,∃A,b5 L r=some A)/\(∀r∈os.flatten,∃A,b5 L r=some A)
 | [],[],vs,x,os,us,hp,h=>by cases h;simp
 | t::q,y::s,vs,x,os,us,⟨v,vs',hvs,hpy,hps⟩,h=>by
  simp[wW]at h;split at h
  ·rename_i z o u zs os' us' h1 h2;cases h;obtain⟨i1,i2⟩:=wX hR hps h2;obtain⟨k1,k2⟩:=aLS hR hpy h1;refine⟨λr hr=>?_,λr hr=>?_⟩
   ·rcases cY.1 hr with hr | hr
    ·exact k1 r hr
    ·exact i1 r hr
   ·rcases cY.1 hr with hr | hr
    ·exact k2 r hr
    ·exact i2 r hr
  ·cases h
 | [],_::_,_,_,_,_,_,h=>by cases h
 | _::_,[],_,_,_,_,_,h=>by cases h
theorem uN(own:Nat->Γ Nat):∀os:Γ (Γ Nat),(Az own os).flatten=(os.flatten.map own).flatten
 | []=>rfl
 | o::os=>by
  have:=uN own os;simp[Az]at this ⊢;rw[this]
theorem QB(hR:bQ n K w0 G w a E L V own):∀ {rs:Γ Nat},rs.Nodup->(∀r∈rs,∃A,b5 L r=some A)->(rs.map own).flatten.Nodup
 | [],_,_=>lM
 | r::rs,hn,hl=>by
  obtain⟨h1,h2⟩:=jJ.1 hn;obtain⟨A,hA⟩:=hl r (aR ..);simp;rw[lY];refine⟨hR.nodup r A hA,QB hR h2 (λs hs=>hl s (aM _ hs)),λb hb c hc e=>?_⟩;subst e;obtain⟨l,hl',hbl⟩:=kX.1 hc;obtain⟨s,hs,rfl⟩:=dK.1 hl';obtain⟨B,hB⟩:=hl s (aM _ hs);exact hR.apart r s A B hA hB (λe=>h1 (e ▸ hs)) b hb hbl
def QC{G:Nat->Prop}:∀ {ats:Γ dE} {rs:Γ Value},tV w0 G L V ats rs->mS w0 G L V (aE6 ats) (IA rs)
 | [],rs,h=>by subst h;exact⟨[],rfl,rfl⟩
 | [A],rs,⟨v,s,h,h1,h2⟩=>by subst h;cases h2;exact h1
 | A::B::ats,rs,h=>by
  obtain⟨v,s,hs,h1,h2⟩:=h;obtain⟨v',s',hs',h1',h2'⟩:=h2;subst hs hs';exact⟨_,rfl,_,_,rfl,h1,_,_,rfl,h1',h2'⟩
theorem Z6(hR:bQ n K w0 G w a E L V own){S:Spec}{ps:Γ PV}{vs:Γ Value}{x:eQ S.sig}{os:Γ (Γ Nat)}{us:Γ Nat}{cd:Γ Prop}{acts:IM}{ex:Γ (Nat×aS)}{e:Ending}{w':World}
  (hps:DB w0 G L V ps vs) (hd:wW L S.sig ps=some (x,os,us)) (hnd:os.flatten.Nodup) (hko:aAQ S.kds=true\/us=[]) (hpl:F6 L (uB L S.sig ps) S.sig ps os (S.upd x)=some (cd,acts,ex)) (hc:iD cd)
  (hpost:aOf w (Az own os).flatten (SK G own us) (SmG K G (uB L S.sig ps)) S.kds (S.res x) (Cp S.sig) (S.upd x) (lP S.sig vs) e w') :
  ∃v w0' G' V' own',e = .returned v/\cQ (Az own os).flatten w w'/\bQ n K w0' G' w' a (yG acts (E,L)).1 (aAS ex (yG acts (E,L)).2++(Nx (aAS ex (yG acts (E,L)).2).length S.kds (S.res x)).2) V' own' /\
   mS w0' G' (aAS ex (yG acts (E,L)).2++(Nx (aAS ex (yG acts (E,L)).2).length S.kds (S.res x)).2) V' (aE6 (Nx (aAS ex (yG acts (E,L)).2).length S.kds (S.res x)).1) v:=by
 obtain⟨rs,ubs,rbs,F,rfl,hk,hrr,hur,hnn,hgg,hF⟩:=hpost;obtain⟨l1,l2⟩:=wX hR hps hd;have hH:∀b∈(Az own os).flatten,∃r∈os.flatten,b∈own r:=λb hb=>by
  rw[uN]at hb;obtain⟨l,hl,hbl⟩:=kX.1 hb;obtain⟨r,hr,rfl⟩:=dK.1 hl;exact⟨r,hr,hbl⟩
 have hg:∀b∈(Az own os).flatten,Out K G b:=λb hb=>by
  obtain⟨r,hr,hbr⟩:=hH b hb;obtain⟨A,hA⟩:=l2 r hr;exact hR.good r A hA b hbr
 have hout:∀b,¬Good w (Az own os).flatten b->Out K G b:=λb h1=>by
  by_cases hm:b∈(Az own os).flatten
  ·exact hg b hm
  ·exact hR.out_new (Nat.le_of_not_lt λhlt=>h1 ⟨hlt,hm⟩)
 have hfar:∀r A,b5 L r=some A->r ∉ os.flatten->∀b∈own r,b<w.heap.size/\b ∉ (Az own os).flatten:=λr A hA hr b hb=>by
  refine⟨hR.own_lt hA b hb,λhm=>?_⟩;obtain⟨s,hs,hbs⟩:=hH b hm;obtain⟨B,hB⟩:=l2 s hs;exact hR.apart r s A B hA hB (λe=>hr (e ▸ hs)) b hb hbs
 have hGk:∀b,G b->w'.heap[b]? = w0.heap[b]? := λb hb=>(hk.block b (hR.glt b hb) (λhm=>(hg b hm).2 hb)).trans (hR.gref b hb);have hGq:∀b,SmG K G (uB L S.sig ps) b->G b:=λb hb=>by
  unfold SmG at hb;split at hb
  ·exact hR.gsub b hb
  ·exact hb
 have hGs:uB L S.sig ps=true->∀b,SmG K G (uB L S.sig ps) b->K.G0 b:=λhq b hb=>by
  unfold SmG at hb
  rwa [π hq]at hb
 obtain⟨bss,exs,k1,k2,k3,k4,k5,k6,k7,k8⟩:=QA (w':=w') hR hGq hGs hGk hps hd hpl hc hur hnd;have hall:((bss.flatten++exs.flatten)++rbs.flatten).Perm (ubs.flatten++rbs.flatten):=List.Perm.append_right _ k3;have hnn2:=hall.nodup_iff.2 hnn;have hn12:=lY.1 hnn2;have hn1:=lY.1 hn12.1;have hmem:∀b,b∈bss.flatten\/b∈exs.flatten\/b∈rbs.flatten->b∈ubs.flatten++rbs.flatten:=λb hb=>by
  refine hall.mem_iff.1 ?_;rcases hb with hb | hb | hb
  ·exact dA _ (dA _ hb)
  ·exact dA _ (dC _ hb)
  ·exact dC _ hb
 have hp:Py n K w0 G w' a E L V own (acts.map dB) (λc=>c∈bss.flatten\/(c∈exs.flatten\/(c∈rbs.flatten\/F c))):=by
  rw[k5];refine⟨hR.glob,?_,hR.size,hR.defers,λb hb=>cZ (hR.glt b hb) hk.size,hGk,hR.gsub,hR.gold,hR.gup,λr A hA hr=>?_,λr A hA _=>hR.good r A hA,λr A hA _=>hR.nodup r A hA,λr s A B h1 h2 _ _=>hR.apart r s A B h1 h2,λr A ls hA hr hls=>?_,λr A q hA hr hq=>?_,hR.env,l2,λr A hA hr b hb hm=>?_⟩
  ·refine⟨hk.os.trans hR.kept.os,hk.tape.trans hR.kept.tape,hk.output.trans hR.kept.output,dV hR.kept.size hk.size,λb hb ho=>?_⟩;rw[hk.block b (cZ hb hR.kept.size) (λhm=>(hg b hm).1 ⟨hb,ho⟩)];exact hR.kept.block b hb ho
  ·exact(hR.heap r A hA).keep λb hb=>hk.block b (hfar r A hA hr b hb).1 (hfar r A hA hr b hb).2
  ·exact(hR.boxs r A ls hA hls).keepB λb off hv=>hk.block b (hfar r A hA hr b ((hR.heap r A hA).block hv (aT _))).1 (hfar r A hA hr b ((hR.heap r A hA).block hv (aT _))).2
  ·obtain⟨g1,g2⟩:=hR.small r A q hA hq;exact⟨g1,λe=>⟨(g2 e).1,(g2 e).2.keep λb hb=>hk.block b (hfar r A hA hr b hb).1 (hfar r A hA hr b hb).2⟩⟩
  ·rcases hm with hm | hm | hm | hm
   ·exact hgg b (hmem b (.inl hm)) (hfar r A hA hr b hb)
   ·exact hgg b (hmem b (.inr (.inl hm))) (hfar r A hA hr b hb)
   ·exact hgg b (hmem b (.inr (.inr hm))) (hfar r A hA hr b hb)
   ·exact(hF b hm).2.1 (hfar r A hA hr b hb)
 obtain⟨own1,r1,d1⟩:=Pz hp (by rw[k5];exact hnd) k1 k4 hn1.1 (λc hc hm=>by
  rcases hm with hm | hm | hm
  ·exact hn1.2.2 c hc c hm rfl
  ·exact hn12.2.2 c (dA _ hc) c hm rfl
  ·exact(hF c hm).2.2 (hmem c (.inl hc))) (λb hb=>hout b (hgg b (hmem b (.inl hb))))
 have hin:bD6 (yG acts (E,L)).2 ex:=λp hp'=>by
  obtain⟨ls,hls⟩:=k8 p hp';refine⟨ls,aAU (by rw[k5];exact hnd) hls (λz hz=>l2 z.1 (by rw[<- k5];exact dK.2 ⟨_,hz,rfl⟩)) λl hl=>?_⟩;cases hl;have key:∀ {acts:IM} {bss:Γ (Γ Nat)},A8 K w0 G w' V acts bss->∀r A' l,(r,some A')∈acts->A'.ls=some l->jF l=[]:=by
   intro acts
   induction acts with
   | nil=>intro bss _ r A' l hm;cases hm
   | cons z s ih =>
    intro bss h r A' l hm hl;obtain⟨r0,o⟩:=z;cases o with
    | none =>
     rcases aW.1 hm with hm | hm
     ·cases hm
     ·exact ih (bss:=bss) h r A' l hm hl
    | some B =>
     obtain⟨b,t,_,_,h3,_,h5⟩:=h;rcases aW.1 hm with hm | hm
     ·cases hm;exact(h3 l hl).1
     ·exact ih h5 r A' l hm hl
  exact key k1 _ _ _ hls rfl
 obtain⟨V2,own2,r2,d2⟩:=aE7 (rest:=λc=>c∈rbs.flatten\/F c) r1 k2 hin k7 hn1.2.1 (λc hc hm=>by
  rcases hm with hm | hm
  ·exact hn12.2.2 c (dC _ hc) c hm rfl
  ·exact(hF c hm).2.2 (hmem c (.inr (.inl hc)))) (λb hb=>hout b (hgg b (hmem b (.inr (.inl hb))))) (λr A hA b hb=>⟨λhm=>d1 r A hA b hb (.inl hm),λhm=>d1 r A hA b hb (.inr hm)⟩)
 have hrout:∀b∈rbs.flatten,Out K G b:=λb hb=>hout b (hgg b (hmem b (.inr (.inr hb))));rcases hko with hko | hus
 ·obtain⟨V3,own3,r3,_,a3⟩:=U5 r2 (.inl hko) hrr hn12.2.1 hrout (λr A hA b hb hm=>d2 r A hA b hb (.inl hm));exact⟨_,w0,G,V3,own3,rfl,hk,r3,QC a3⟩
 ·have r2':=r2.widen (F:=F) (λb hb=>(hF b hb).1) (λb hb=>(hout b (hF b hb).2.1).1) (λb hb r A hA hm=>d2 r A hA b hm (.inr hb));have hrout':∀b∈rbs.flatten,Out K (λc=>G c\/F c) b:=λb hb=>by
   obtain⟨h1,h2⟩:=hrout b hb;exact⟨h1,λh=>h.elim h2 λhf=>(hF b hf).2.2 (hmem b (.inr (.inr hb)))⟩
  obtain⟨V3,own3,r3,_,a3⟩:=U5 r2' (.inr ⟨λc hc=>by
   rcases hc with hc | hc
   ·rcases hc with hc | ⟨r,hr,_⟩
    ·exact .inl hc
    ·rw[hus]at hr;cases hr
   ·exact .inr hc,rfl⟩) hrr hn12.2.1 hrout' (λr A hA b hb hm=>d2 r A hA b hb (.inl hm))
  exact⟨_,w',_,V3,own3,rfl,hk,r3,QC a3⟩
theorem F8:∀ {ext:A7} (hX:q8 P ext) (hR:bQ n K w0 G w a E L V own) {f:FuncId} {ps:Γ PV} {vs:Γ Value} {cs:Γ Prop} {pv:PV} {E':gK} {L':bM}
  (hps:DB w0 G L V ps vs) (h:Z3 ext E L f ps=some (cs,pv,E',L')) (hc:iD cs),
  Bj P f/\Calls P f vs.toArray w λe w'=>∃v w0' G' V' own',e = .returned v/\bQ n K w0' G' w' a E' L' V' own'/\mS w0' G' L' V' pv v
 | [],_,_,_,_,_,_,_,_,_,_,h,_=>by cases h
 | (g,S)::r,hX,hR,f,ps,vs,cs,pv,E',L',hps,h,hc=>by
  obtain⟨⟨hcall,hcon⟩,hX'⟩:=hX;simp[Z3]at h;split at h
  ·rename_i hfg;obtain rfl:=bF hfg;split at h
   ·rename_i x os us hd;split at h
    ·rename_i cd acts ex hdis hpl;cases h;obtain⟨hpre,hc⟩:=hc;simp at hdis;obtain⟨⟨hdj,hnb⟩,hko⟩:=hdis;have hnd:=IG hnb;obtain⟨l1,l2⟩:=wX hR hps hd;have hH:∀b∈(Az own os).flatten,∃r∈os.flatten,b∈own r:=λb hb=>by
      rw[uN]at hb
      grind
     have hg:∀b∈(Az own os).flatten,Out K G b:=λb hb=>by
      obtain⟨r,hr,hbr⟩:=hH b hb;obtain⟨A,hA⟩:=l2 r hr;exact hR.good r A hA b hbr
     have hGood:∀b,SK G own us b->Good w (Az own os).flatten b:=by
      rintro b (hb | ⟨r,hr,hb⟩)
      ·exact⟨hR.glt b hb,λhm=>(hg b hm).2 hb⟩
      ·obtain⟨A,hA⟩:=l1 r hr;refine⟨hR.own_lt hA b hb,λhm=>?_⟩;obtain⟨s,hs,hbs⟩:=hH b hm;obtain⟨B,hB⟩:=l2 s hs;have hrs:r≠s:=λe=>UW hdj s hs (e ▸ hr);exact hR.apart r s A B hA hB hrs b hb hbs
     have hargs:=DC (q:=uB L S.sig ps) hR (cQ.refl [] w) (G':=SK G own us) (λb hb => .inl hb) hps hd (λh=>h) (λr hr b hb => .inr ⟨r,hr,hb⟩);have hnd':(Az own os).flatten.Nodup:=by grind [uN,QB]
     refine⟨hcall,(hcon w (SK G own us) (SmG K G (uB L S.sig ps)) x _ _ (hR.gok (cQ.refl _ _) hg) hGood (λb hb => .inl ?_) hpre hargs hnd').mono ?_⟩
     ·unfold SmG at hb;split at hb
      ·exact hR.gsub b hb
      lia
     grind [Z6]
    ·exact F8 hX' hR hps h hc
   ·exact F8 hX' hR hps h hc
  ·exact F8 hX' hR hps h hc
end
theorem aOw{w0 w:World}{G:Nat->Prop}{t:Ty}{bor:Bool}{x:t.den}{cs:Γ Value}{bi:Γ Nat}(h:pH w0 G w t bor x cs bi):∀c∈cs,c.oneCell'=true:=by
 revert h;cases bor with
 | true=>exact λh=>h.1.one
 | false=>exact λh=>h.one
theorem aLT{w0 w w':World}{G G':Nat->Prop}{t:Ty}{bor bor':Bool}{x:t.den}{cs:Γ Value}{bi:Γ Nat}(hf:t.flat=true)(h:pH w0 G w t bor x cs bi):pH w0 G' w' t bor' x cs []:=by
 have h1:eK w0 G t x cs:=by
  revert h;unfold pH;cases bor with
  | true=>lia
  | false=>exact λh=>(h.flat (w':=w0) (G:=G) hf).1
 cases bor' with
 | true=>exact⟨h1.flat hf,rfl⟩
 | false=>exact h1.own hf
theorem sE{P:Program}:∀(vs:Γ Value) (w:World) (b o i:Nat) (cur:Array Value) (ty:TypeId) (fz:Nat×Nat),w.heap[b]? = some (.cells cur ty fz)->aOd fz cur.size->o+i+vs.length<=cur.size->(∀v∈vs,v.oneCell'=true) ->
  ∃w' cur',(storeCells ⟨b,o,none⟩ vs i).run P w = .ok () w'/\w'.heap[b]? = some (.cells cur' ty fz)/\cur'.toList=fX cur.toList (o+i) vs/\cQ [b] w w'/\w'.heap.size=w.heap.size
 | [],w,b,o,i,cur,ty,fz,hb,_,_,_=>⟨w,cur,rfl,hb,by simp[fX],cQ.refl _ _,rfl⟩
 | v::vs,w,b,o,i,cur,ty,fz,hb,hf,hl,h1=>by
  simp at hl;have hcell:w.cell? ⟨b,o+i,none⟩=some (cur[o+i]'(by lia)):=by
   grind [gW]
  have hfr:w.frozen? ⟨b,o+i,none⟩=false:=by
   simp[World.frozen?];have:=hf (o+i) (by lia)
   lia
  have jY:(w.setCell ⟨b,o+i,none⟩ v).heap[b]? = some (.cells (cur.setIfInBounds (o+i) v) ty fz):=by
   simp only[World.setCell,Array.getElem?_modify,hb];rfl
  obtain⟨w',cur',h2,h3,h4,h5,h6⟩:=sE (P:=P) vs (w.setCell ⟨b,o+i,none⟩ v) b o (i+1) (cur.setIfInBounds (o+i) v) ty fz jY (by grind) (by grind) (λu hu=>h1 u (aM _ hu));refine⟨w',cur',?_,h3,?_,?_,?_⟩
  ·unfold storeCells;simp[gB,run_store P w _ v _ (h1 v (aR ..)),hcell,hfr,Bool.false_eq_true,if_false,bL]
   lia
  ·rw[h4];have hlt:o+i<cur.toList.length:=by grind
   simp[fX];rw[show o+(i+1)=o+i+1 from by lia,eG];simp[Gl hlt,Option.toList_some,bZ,List.cons_append,dL];rw[LA (aT _),LB (by lia),show o+i+1+vs.length=o+i+(vs.length+1)from by lia]
  ·have hk1:cQ [b] w (w.setCell ⟨b,o+i,none⟩ v):=⟨rfl,rfl,rfl,by simp,λk hk hkb=>Go.RowKit.Below.heap_setCell w ⟨b,o+i,none⟩ v k (by grind)⟩;exact hk1.trans h5
  simp_all
def yZ{α:Type}(R:α->Γ Value->Γ Nat->Prop)(sz:Nat):Γ α->Γ (Γ Value)->Γ (Γ Nat)->Prop
 | [],css,bss=>css=[]/\bss=[]
 | y::ys,css,bss=>∃c cs b bs,css=c::cs/\bss=b::bs/\c.length=sz/\R y c b/\yZ R sz ys cs bs
theorem yZ.len{α:Type}{R:α->Γ Value->Γ Nat->Prop}{sz:Nat}:∀ {ys:Γ α} {css:Γ (Γ Value)} {bss:Γ (Γ Nat)},yZ R sz ys css bss->css.length=ys.length/\bss.length=ys.length/\css.flatten.length=ys.length*sz
 | [],_,_,⟨h1,h2⟩=>by grind
 | y::ys,_,_,⟨c,cs,b,bs,h1,h2,h3,h4,h5⟩=>by
  obtain⟨e1,e2,e3⟩:=h5.len
  grind
theorem yZ.mono{α:Type}{R R':α->Γ Value->Γ Nat->Prop}{sz:Nat}:∀ {ys:Γ α} {css:Γ (Γ Value)} {bss:Γ (Γ Nat)},(∀y c b,b∈bss->R y c b->R' y c b)->yZ R sz ys css bss->yZ R' sz ys css bss
 | [],_,_,_,h=>h
 | y::ys,_,_,hm,⟨c,cs,b,bs,h1,h2,h3,h4,h5⟩=>⟨c,cs,b,bs,h1,h2,h3,hm _ _ _ (by grind) h4,h5.mono (λy c b hb=>hm y c b (by grind))⟩
theorem yZ.nil{α:Type}{R R':α->Γ Value->Γ Nat->Prop}{sz:Nat}:∀ {ys:Γ α} {css:Γ (Γ Value)} {bss:Γ (Γ Nat)},(∀y c b,R y c b->R' y c [])->yZ R sz ys css bss->∃bss',yZ R' sz ys css bss'/\bss'.flatten=[]
 | [],css,_,_,h=>⟨[],⟨h.1,rfl⟩,rfl⟩
 | y::ys,_,_,hm,⟨c,cs,b,bs,h1,h2,h3,h4,h5⟩=>by
  obtain⟨bs',h6,h7⟩:=h5.nil hm;exact⟨[]::bs',⟨c,cs,[],bs',h1,rfl,h3,hm _ _ _ h4,h6⟩,by grind⟩
theorem yZ.append{α:Type}{R:α->Γ Value->Γ Nat->Prop}{sz:Nat}:∀ {ys zs:Γ α} {cs ds:Γ (Γ Value)} {bs es:Γ (Γ Nat)},yZ R sz ys cs bs->yZ R sz zs ds es->yZ R sz (ys++zs) (cs++ds) (bs++es)
 | [],_,_,_,_,_,⟨h1,h2⟩,h=>by grind
 | y::ys,_,_,_,_,_,⟨c,cs,b,bs,h1,h2,h3,h4,h5⟩,h=>by
  subst h1 h2;exact⟨c,_,b,_,rfl,rfl,h3,h4,h5.append h⟩
theorem yZ.get{α:Type}{R:α->Γ Value->Γ Nat->Prop}{sz:Nat}:∀ {ys:Γ α} {css:Γ (Γ Value)} {bss:Γ (Γ Nat)},yZ R sz ys css bss->∀i y bi,ys[i]? = some y->bss[i]? = some bi ->
  ∃c,c.length=sz/\R y c bi/\∀j v,c[j]? = some v->css.flatten[i*sz+j]? = some v
 | [],_,_,_,i,y,bi,h,_=>by grind
 | y::ys,_,_,⟨c,cs,b,bs,h1,h2,h3,h4,h5⟩,0,z,bi,hy,hb=>by
  grind
 | y::ys,_,_,⟨c,cs,b,bs,h1,h2,h3,h4,h5⟩,i+1,z,bi,hy,hb=>by
  obtain⟨d,e1,e2,e3⟩:=h5.get i z bi (by grind) (by grind)
  grind
theorem aHX{α:Type}{R:α->Γ Value->Γ Nat->Prop}{sz:Nat}{f:Nat->Option Value}:∀(ys:Γ α) (bss:Γ (Γ Nat)) (off:Nat),bss.length=ys.length ->
  (∀i y bi,ys[i]? = some y->bss[i]? = some bi->∃cs,cs.length=sz/\(∀j c,cs[j]? = some c->f (off+i*sz+j)=some c)/\R y cs bi) ->
  ∃css,yZ R sz ys css bss/\∀j c,css.flatten[j]? = some c->f (off+j)=some c
 | [],bss,off,hl,_=>⟨[],⟨rfl,cF hl⟩,λj c h=>by grind⟩
 | y::ys,[],_,hl,_=>by grind
 | y::ys,b::bs,off,hl,h=>by
  obtain⟨c,hc1,hc2,hc3⟩:=h 0 y b rfl rfl;obtain⟨cs,hr,hcs⟩:=aHX ys bs (off+sz) (by grind) (λi z bi hz hb=>by
   obtain⟨d,e1,e2,e3⟩:=h (i+1) z bi (by grind) (by grind);refine⟨d,e1,λj v hj=>?_,e3⟩;have:=e2 j v hj
   rwa [show off+(i+1)*sz+j=off+sz+i*sz+j from by lia]at this)
  refine⟨c::cs,⟨c,cs,b,bs,rfl,rfl,hc1,hc3,hr⟩,λj v hj=>?_⟩
  grind
theorem tD{w:World}{α:Type}{R:α->Γ Value->Γ Nat->Prop}{sz:Nat}{xs:Γ α}{css:Γ (Γ Value)}{bss:Γ (Γ Nat)}(h:yZ R sz xs css bss){b off cap:Nat}{cur:Array Value}{ty:TypeId}{fz:Nat×Nat}
  (hl:xs.length<=maxLen) (h1:xs.length<=cap) (h2:cap<=maxLen) (h3:off+cap*sz<=cur.size) (h4:w.heap[b]? = some (.cells cur ty fz)) (h5:H1 sz fz cur.size)
  (h6:∀j c,css.flatten[j]? = some c->cur[off+j]? = some c):yE w R sz xs (.slice (some ⟨b,off,none⟩) xs.length cap) (b::bss.flatten):=by
 refine⟨hl,.inr ⟨b,off,cap,cur,ty,fz,bss,rfl,h1,h2,h3,h4,h5,h.len.2.1,rfl,λi x bi hx hb=>?_⟩⟩;obtain⟨c,e1,e2,e3⟩:=h.get i x bi hx hb
 grind
theorem yZ.one{α:Type}{R:α->Γ Value->Γ Nat->Prop}{sz:Nat}(hR:∀y c b,R y c b->∀v∈c,v.oneCell'=true):∀ {ys:Γ α} {css:Γ (Γ Value)} {bss:Γ (Γ Nat)},yZ R sz ys css bss->∀v∈css.flatten,v.oneCell'=true
 | [],_,_,⟨h1,h2⟩,v,hv=>by grind
 | y::ys,_,_,⟨c,cs,b,bs,h1,h2,h3,h4,h5⟩,v,hv=>by
  subst h1;simp only[gF,cY]at hv;rcases hv with hv | hv
  ·grind
  ·exact h5.one hR v hv
theorem yZ.take{α:Type}{R:α->Γ Value->Γ Nat->Prop}{sz:Nat}:∀ {ys:Γ α} {css:Γ (Γ Value)} {bss:Γ (Γ Nat)} (k:Nat),yZ R sz ys css bss->yZ R sz (ys.take k) (css.take k) (bss.take k)
 | _,_,_,0,_=>⟨by rfl,by rfl⟩
 | [],_,_,k+1,⟨h1,h2⟩=>by subst h1 h2;exact⟨rfl,rfl⟩
 | y::ys,_,_,k+1,⟨c,cs,b,bs,h1,h2,h3,h4,h5⟩=>by
  subst h1 h2;exact⟨c,_,b,_,rfl,rfl,h3,h4,h5.take k⟩
theorem yZ.drop{α:Type}{R:α->Γ Value->Γ Nat->Prop}{sz:Nat}:∀ {ys:Γ α} {css:Γ (Γ Value)} {bss:Γ (Γ Nat)} (k:Nat),yZ R sz ys css bss->yZ R sz (ys.drop k) (css.drop k) (bss.drop k)
 | _,_,_,0,h=>h
 | [],_,_,k+1,⟨h1,h2⟩=>by subst h1 h2;exact⟨rfl,rfl⟩
 | y::ys,_,_,k+1,⟨c,cs,b,bs,h1,h2,h3,h4,h5⟩=>by
  subst h1 h2;exact h5.drop k
theorem yH{α:Type}(l:Γ α):∀(n j:Nat),(aQ n l).flatten[j]? = if j<n*l.length then l[j%l.length]? else none
 | 0,j=>by simp
 | n+1,j=>by
  rw[BF,gF];by_cases h:j<l.length
  ·rw[b7 h,Nat.mod_eq_of_lt h]
   lia
  ·rw[cO (by lia),yH l n];have e:(j-l.length)%l.length=j%l.length:=by
    grind [Nat.mod_eq_sub_mod]
   lia
theorem Ub(z:Array Value)(n:Nat):((aGT (n*z.size)).map (z[· % z.size]!)).toList=(aQ n z.toList).flatten:=by
 apply xW;intro j;rw[yH];by_cases h:j<n*z.size
 ·have hz:0<z.size:=by
   lia
  have hm:j%z.size<z.size:=Nat.mod_lt _ hz;simp[h,hm]
 grind
theorem Dh{w0 w:World}{G:Nat->Prop}(t:Ty)(bor:Bool):∀n:Nat,yZ (pH w0 G w t bor) t.size (aQ n t.dflt) (aQ n (fD t)) (aQ n [])
 | 0=>⟨rfl,rfl⟩
 | n+1=>by
  refine⟨fD t,_,[],_,rfl,rfl,(jD w G t).length,?_,Dh t bor n⟩;cases bor with
  | true=>exact⟨jD w0 G t,rfl⟩
  | false=>exact own_dcells t
where
 own_dcells {w:World}:∀t:Ty,iA w t t.dflt (fD t) []
 | .int k=>⟨rfl,by cases k <;> simp[bA,p7,p8,oJ,n7,Ty.dflt],rfl⟩
 | .bool=>⟨rfl,rfl⟩
 | .fn=>⟨rfl,rfl⟩
 | .str=>⟨rfl,bG _,rfl⟩
 | .sl e=>⟨_,rfl,bG _,.inl ⟨_,rfl,rfl,rfl⟩⟩
 | .unit=>⟨rfl,rfl⟩
 | .cons a b=>⟨_,_,[],[],rfl,rfl,own_dcells a,own_dcells b⟩
theorem yZ.set{α:Type}{R:α->Γ Value->Γ Nat->Prop}{sz:Nat}{y':α}{c':Γ Value}{b':Γ Nat}(h1:c'.length=sz)(h2:R y' c' b'):∀ {ys:Γ α} {css:Γ (Γ Value)} {bss:Γ (Γ Nat)} (i:Nat),yZ R sz ys css bss ->
  yZ R sz (ys.set i y') (css.set i c') (bss.set i b')
 | [],_,_,i,⟨e1,e2⟩=>by subst e1 e2;exact⟨rfl,rfl⟩
 | y::ys,_,_,0,⟨c,cs,b,bs,e1,e2,e3,e4,e5⟩=>by subst e1 e2;exact⟨c',cs,b',bs,rfl,rfl,h1,h2,e5⟩
 | y::ys,_,_,i+1,⟨c,cs,b,bs,e1,e2,e3,e4,e5⟩=>by subst e1 e2;exact⟨c,_,b,_,rfl,rfl,e3,e4,e5.set h1 h2 i⟩
theorem SM{sz:Nat}{c':Γ Value}(h1:c'.length=sz):∀ {css:Γ (Γ Value)} {i:Nat},(∀c∈css,c.length=sz)->i<css.length->fX css.flatten (i*sz) c'=(css.set i c').flatten
 | [],i,_,h=>by grind
 | c::cs,0,h,_=>by
  grind [fX]
 | c::cs,i+1,h,hi=>by
  have hc:=h c (aR ..);have ih:=SM h1 (css:=cs) (i:=i) (λd hd=>h d (aM _ hd)) (by grind);simp[fX]at ih ⊢;rw[<- ih,gE,D3,Nat.add_comm (i*sz) sz];rw[<- hc,zW];simp[cW,fY]
theorem yZ.lens{α:Type}{R:α->Γ Value->Γ Nat->Prop}{sz:Nat}:∀ {ys:Γ α} {css:Γ (Γ Value)} {bss:Γ (Γ Nat)},yZ R sz ys css bss->∀c∈css,c.length=sz
 | [],_,_,⟨e1,e2⟩,c,hc=>by grind
 | y::ys,_,_,⟨d,cs,b,bs,e1,e2,e3,e4,e5⟩,c,hc=>by
  subst e1;rcases aW.1 hc with rfl | hc
  ·lia
  ·exact e5.lens c hc
def bD8(lv:Bool)(t:Ty)(A:dE):Option iJ :=
 match lv && !t.flat,Cq t A with
 | false,some x=>some ⟨t,[x],true,none,some false⟩
 | _,_=>match aAM t A with
  | some ls=>some ⟨t,[],false,some ls,none⟩
  | none=>none
def Yd:PV->PV
 | .fn f [] => .a (.val (.func (.func f) #[] #[]))
 | p=>p
def aS8(tab:Γ TI)(lv:Bool)(T:TypeId)(p:PV):Option iJ:=match Yd p with
 | .a A=>match (jP tab T).ty with
  | some t=>bD8 lv t A
  | none=>none
 | _=>none
def aAV(tab:Γ TI)(T:TypeId):Option iJ :=
 match (jP tab T).ty with
 | some t=>match t.flat with
  | true=>some ⟨t,[t.dflt],true,none,some false⟩
  | false=>some ⟨t,[],false,some (zLs t),none⟩
 | none=>none
def Uc(k:Nat)(A:iJ):dE :=
 match A.ls with
 | some _ => .bptr k 0 A.t
 | none => .optr k 0 []
def aHY(t:Ty):Γ t.den->Γ (Nat×PV)->Option (Γ t.den)
 | xs,[]=>some xs
 | xs,(i,.a A)::r=>match Nat.blt i xs.length,Cq t A with
  | true,some y=>aHY t (xs.set i y) r
  | _,_=>none
 | _,_=>none
def KZ(tab:Γ TI)(T:TypeId)(n:Nat)(parts:Γ (Nat×PV)):Option iJ :=
 match jP tab T with
 | .slice _ t _=>match pE (n*t.size) 16777216&&pE 1 t.size,aHY t (aQ n t.dflt) (parts.map λp=>(p.1,Yd p.2))with
  | true,some xs=>some ⟨t,xs, !t.flat && !(cC n 0),none,none⟩
  | _,_=>none
 | _=>none
def aKl(tab:Γ TI)(T:TypeId)(l c:PV):Option (Γ Prop×iJ) :=
 match jP tab T,l,c with
 | .slice _ t by',.a (.val (.int .i64 l)),.a (.val (.int .i64 c))=>some ([0<=l,l<=c,(by':Int)*c<=281474976710656],⟨t,aQ l.toNat t.dflt,false,none,none⟩)
 | _,_,_=>none
def bD9(A:iJ)(t:Ty):Bool :=
 match A.sm with
 | some true=>t.flat
 | _=>true
def aHZ(tab:Γ TI)(L:bM)(T:TypeId):PV->PV->Option bM
 | .a (.optr r i p),.a B=>match (jP tab T).ty,b5 L r with
  | some t,some A=>match (A.bor||t.flat)&&bD9 A t,A.ls,Cq t B with
   | true,none,some y=>match Y7 A.t (A.xs.getD i A.t.dflt) p ⟨t,y⟩ with
    | some x=>some (jY L r (some ⟨A.t,A.xs.set i x,A.bor,none,A.sm⟩))
    | none=>none
   | _,_,_=>none
  | _,_=>none
 | .a (.bptr r o t'),.a B=>match (jP tab T).ty,b5 L r with
  | some t,some A=>match decide (t'=t),A.ls,aAM t B with
   | true,some ls,some l=>some (jY L r (some ⟨A.t,A.xs,A.bor,some (F1 ls o l),A.sm⟩))
   | _,_,_=>none
  | _,_=>none
 | _,_=>none
section
variable {P:Program} {n:Nat} {K:gU} {G:Nat->Prop} {w0 w:World} {a:Act} {E:gK} {L:bM} {V:Nat->Value} {own:Nat->Γ Nat}
theorem bQ.fresh(hR:bQ n K w0 G w a E L V own){w':World}(hk:cQ [] w w'){A0:iJ}{v:Value}{bs:Γ Nat}(h:iS w0 G w' A0 v bs)(hn:bs.Nodup)(hb:∀b∈bs,w.heap.size<=b)
  (hbox:∀ls,A0.ls=some ls->Dd w0 G w' L V A0.t ls v:=by intro ls h;cases h) (hsm:∀q,A0.sm=some q->(∃b off,v = .slice (some ⟨b,off,none⟩) 1 1)/\(q=true->A0.bor=true/\iS w0 K.G0 w' A0 v bs):=by intro q h;cases h) :
  bQ n K w0 G w' a E (L++[some A0]) (Em V L.length v) (Em own L.length bs) :=
 (hR.ext hk).grow h hn (λb hb'=>hR.out_new (hb b hb')) (λr A hA b hb' hm=>by have:=hb b hm;have:=hR.own_lt hA b hb';lia) hbox hsm
structure New (L:bM) (w w':World) (V V':Nat->Value) (own own':Nat->Γ Nat):Prop where
 kept:cQ [] w w'
 same:∀r,r<L.length->V' r=V r/\own' r=own r
 fresh:∀r,L.length<=r->∀A L',b5 (L++L') r=some A->L'.length<=1->∀b∈own' r,w.heap.size<=b
def aE8(n:Nat)(K:gU)(w0:World)(G:Nat->Prop)(w w':World)(a:Act)(E:gK)(L L':bM)(V V':Nat->Value)(own own':Nat->Γ Nat):Prop :=
 bQ n K w0 G w' a E L' V' own'/\New L w w' V V' own own'
theorem bQ.freshN(hR:bQ n K w0 G w a E L V own){w':World}(hk:cQ [] w w'){A0:iJ}{v:Value}{bs:Γ Nat}(h:iS w0 G w' A0 v bs)(hn:bs.Nodup)(hb:∀b∈bs,w.heap.size<=b)
  (hbox:∀ls,A0.ls=some ls->Dd w0 G w' L V A0.t ls v:=by intro ls h;cases h) (hsm:∀q,A0.sm=some q->(∃b off,v = .slice (some ⟨b,off,none⟩) 1 1)/\(q=true->A0.bor=true/\iS w0 K.G0 w' A0 v bs):=by intro q h;cases h) :
  aE8 n K w0 G w w' a E L (L++[some A0]) V (Em V L.length v) own (Em own L.length bs) :=
 ⟨hR.fresh hk h hn hb hbox hsm,hk,λr hr=>⟨dI _ _ (by lia),dI _ _ (by lia)⟩,λr hr A L' hg hl b hb'=>by
  have hlt:=wS hg;rw[aU]at hlt;have:r=L.length:=by lia
  grind [fC]⟩
variable {t:Ty}
theorem F9{A:dE}{v:Value}(hb:yD w0 G A v){x:t.den}(h:Cq t A=some x)(bor:Bool)(hf:bor=false->t.flat=true):∃cs,v=hZ t cs/\cs.length=t.size/\eK w0 G t x cs/\∀w,pH w0 G w t bor x cs []:=by
 obtain⟨cs,hr,hv⟩:=Bd hb h;refine⟨cs,hv,hr.length,hr,λw=>?_⟩;unfold pH;cases bor with
 | true=>lia
 | false=>exact hr.own (hf rfl)
theorem Eo(w:World)(o:Obj):(w.alloc o).heap[w.heap.size]? = some o:=heap_alloc_new w o
theorem Z7(n:Nat):aOd (0,0) n:=λj _ h=>by lia
def Bo(sz n:Nat):H1 sz (0,0) n:=⟨Z7 _,.inr (Z7 _)⟩
variable {cs:Γ Value}
theorem aS9{w:World}{bor:Bool}{sm:Option Bool}{x:t.den}(h:∀w,pH w0 G w t bor x cs [])(hl:cs.length=t.size)(ty:TypeId) :
  iS w0 G (w.alloc (.cells cs.toArray ty)) ⟨t,[x],bor,none,sm⟩ (.slice (some ⟨w.heap.size,0,none⟩) 1 1) [w.heap.size]:=by
 have hrow:yZ (pH w0 G (w.alloc (.cells cs.toArray ty)) t bor) t.size [x] [cs] [[]]:=⟨cs,[],[],[],rfl,rfl,hl,h _,rfl,rfl⟩;have:=tD hrow (b:=w.heap.size) (off:=0) (cap:=1) (cur:=cs.toArray) (ty:=ty) (fz:=(0,0)) (by simp[maxLen]) (by simp) (by simp[maxLen]) (by grind) (Eo _ _) (Bo _ _) (by simp)
 grind [iS]
theorem Fa{x:t.den}(h:eK w0 G t x cs):(hZ t cs).cells=cs.toArray:=by
 have:=congrArg qT (sA h)
 grind
theorem aKm(hR:bQ n K w0 G w a E L V own){A:iJ}(T:TypeId)(hl:cs.length=t.size)
  (h:(∃x,A=⟨t,[x],true,none,some false⟩/\eK w0 G t x cs)\/∃ls,A=⟨t,[],false,some ls,none⟩/\ls.length=t.size/\iL w0 G L V ls cs) :
  ∃V' own',aE8 n K w0 G w (w.alloc (.cells cs.toArray T)) a E L (L++[some A]) V V' own own'/\mS w0 G (L++[some A]) V' (.a (Uc L.length A)) (.pointer (some ⟨w.heap.size,0,none⟩)):=by
 rcases h with ⟨x,rfl,hr⟩ | ⟨ls,rfl,hll,hr⟩
 ·have hE:=aS9 (w:=w) (sm:=some false) (bor:=true) (x:=x) (λw=>(⟨hr,rfl⟩:pH w0 G w t true x cs [])) hl T;refine⟨_,_,hR.freshN ((cQ.refl [] w).alloc _) hE (by simp) (by simp) (hsm:=λq hq=>⟨⟨_,_,rfl⟩,λe=>by lia⟩),?_⟩;exact⟨_,U2 _ _,by simp,w.heap.size,0,1,1,0,t,fC _ _ _,rfl,by lia⟩
 ·have hE:iS w0 G (w.alloc (.cells cs.toArray T)) ⟨t,[],false,some ls,none⟩ (.slice (some ⟨w.heap.size,0,none⟩) 0 1) [w.heap.size] :=
   ⟨by simp,.inr ⟨w.heap.size,0,1,cs.toArray,T,(0,0),[],rfl,bG _,by simp[maxLen],by grind,Eo _ _,Bo _ _,rfl,rfl,λi y bi hy=>by simp⟩⟩
  refine⟨_,_,hR.freshN ((cQ.refl [] w).alloc _) hE (by simp) (by simp) (hbox:=λl hl'=>?_),?_⟩
  ·cases hl';refine⟨w.heap.size,0,cs,rfl,hl,hll,λj c hj=>?_,hr⟩;simp_all
  ·exact⟨_,ls,w.heap.size,0,U2 _ _,rfl,fC _ _ _,rfl,by lia⟩
theorem aLU(hR:bQ n K w0 G w a E L V own)(x:Operand){A:dE}(hA:Yd (opnd E x) = .a A):nQ w0 G L V A (a.eval x):=by
 unfold Yd at hA;split at hA
 ·rename_i f hq;cases hA;have hv:=hR.opnd x;rw[hq]at hv;obtain⟨us,hu,hr⟩:=hv;cases hr;exact⟨hu,trivial⟩
 ·exact hR.atom hA
theorem aE9(hR:bQ n K w0 G w a E L V own)(x:Operand){A:dE}(hA:Yd (opnd E x) = .a A){y:t.den}(hd:Cq t A=some y):yD w0 G A (a.eval x):=by
 unfold Yd at hA;split at hA
 ·rename_i f hq;cases hA;have hv:=hR.opnd x;rw[hq]at hv;obtain⟨us,hu,hr⟩:=hv;cases hr;exact⟨hu,trivial⟩
 ·exact qE (hR.atom hA) hd
theorem aEA{tab:Γ TI}(hT:kZ P tab)(hR:bQ n K w0 G w a E L V own){lv:Bool}{T:TypeId}{x:Operand}{A:iJ}(h:aS8 tab lv T (opnd E x)=some A) :
  ∃v w' V' own',(aNQ T (a.eval x)).run P w = .ok v w'/\aE8 n K w0 G w w' a E L (L++[some A]) V V' own own'/\mS w0 G (L++[some A]) V' (.a (Uc L.length A)) v:=by
 unfold aS8 at h;split at h
 ·rename_i B hB;split at h
  ·rename_i t ht;have key:∃cs,cs.length=t.size/\(a.eval x).cells=cs.toArray/\((∃y,A=⟨t,[y],true,none,some false⟩/\eK w0 G t y cs)\/∃ls,A=⟨t,[],false,some ls,none⟩/\ls.length=t.size/\iL w0 G L V ls cs):=by
    unfold bD8 at h;split at h
    ·rename_i y _ hy;cases h;obtain⟨cs,hv,hl,hrep,hcs⟩:=F9 (aE9 hR x hB hy) hy true (λh=>by lia);exact⟨cs,hl,by grind [Fa],.inl ⟨y,rfl,hrep⟩⟩
    ·split at h
     ·rename_i ls hls;cases h;obtain⟨cs,e1,e2,e3,e4,e5⟩:=UU (aLU hR x hB) hls
      lia
     lia
   obtain⟨cs,hl,hc,hcase⟩:=key;obtain⟨V',own',h1,h2⟩:=aKm hR T hl hcase;refine⟨_,_,V',own',?_,h1,h2⟩;simp[aNQ,newVar,hc];rfl
  lia
 lia
theorem Ud{tab:Γ TI}(hT:kZ P tab)(hR:bQ n K w0 G w a E L V own){T:TypeId}{A:iJ}(h:aAV tab T=some A) :
  ∃v w' V' own',(Ju T true (.tuple #[])).run P w = .ok v w'/\aE8 n K w0 G w w' a E L (L++[some A]) V V' own own'/\mS w0 G (L++[some A]) V' (.a (Uc L.length A)) v:=by
 unfold aAV at h;split at h
 ·rename_i t ht;have hd:=jD w0 G t;have key:(∃y,A=⟨t,[y],true,none,some false⟩/\eK w0 G t y (fD t))\/∃ls,A=⟨t,[],false,some ls,none⟩/\ls.length=t.size/\iL w0 G L V ls (fD t):=by
   split at h
   ·grind
   ·cases h;exact .inr ⟨_,rfl,Lo,Tj⟩
  obtain⟨V',own',h1,h2⟩:=aKm hR T hd.length key;refine⟨_,_,V',own',?_,h1,h2⟩;simp[Ju,newVar,(TI.ty_ok (hT T) ht).zero_run,Fa hd];rfl
 lia
theorem aEB{t:Ty}{bor:Bool}(hbor:bor=false->t.flat=true):∀ {parts:Γ (Nat×PV)} {vs:Γ (Nat×Value)} {xs xs':Γ t.den} {css:Γ (Γ Value)} {bss:Γ (Γ Nat)},
  aHY t xs parts=some xs'->Ek w0 G parts vs->(∀w,yZ (pH w0 G w t bor) t.size xs css bss)->bss.flatten=[] ->
  ∃css' bss',sY (λi=>some (i*t.size,t.size)) css.flatten.toArray vs=some css'.flatten.toArray/\(∀w,yZ (pH w0 G w t bor) t.size xs' css' bss')/\bss'.flatten=[]/\xs'.length=xs.length
 | [],vs,xs,xs',css,bss,h,hv,hr,hb=>by
  cases hv;cases h;exact⟨css,bss,rfl,hr,hb,rfl⟩
 | (i,.a A)::r,vs,xs,xs',css,bss,h,hv,hr,hb=>by
  obtain⟨v,s,rfl,h1,h2⟩:=hv;simp[aHY]at h;split at h
  ·rename_i y hlt hy;have hlt:i<xs.length:=by simp_all
   obtain⟨cs,hv,hl,hrep,hcs⟩:=F9 (h1 A rfl _ _ hy) hy bor hbor;obtain⟨e1,e2,e3⟩:=(hr w0).len;have jY:∀w,yZ (pH w0 G w t bor) t.size (xs.set i y) (css.set i cs) (bss.set i []):=λw=>(hr w).set hl (hcs w) i;have hbn:(bss.set i []).flatten=[]:=by
    grind [wL]
   obtain⟨css',bss',e4,e5,e6,e7⟩:=aEB hbor h h2 jY hbn;refine⟨css',bss',?_,e5,e6,by grind⟩;rw[Pu _ css.flatten i (i*t.size) v cs t.size s rfl (by grind [sA]) hl (by have:=cV t.size hlt;lia),
    SM hl (hr w0).lens (by lia)]
   lia
  lia
 | (_,.tup _)::_,_,_,_,_,_,h,_,_,_=>by cases h
 | (_,.fn _ _)::_,_,_,_,_,_,h,_,_,_=>by cases h
theorem Ny{w:World}{bor:Bool}{sm:Option Bool}{xs:Γ t.den}{css:Γ (Γ Value)}{bss:Γ (Γ Nat)}{rest:Γ Value}{cap:Nat}{ty:TypeId}(hr:yZ (pH w0 G (w.alloc (.cells (css.flatten++rest).toArray ty)) t bor) t.size xs css bss)(hb:bss.flatten=[])
  (hl:xs.length<=cap) (hm:cap<=maxLen) (hc:cap*t.size<=(css.flatten++rest).length) :
  iS w0 G (w.alloc (.cells (css.flatten++rest).toArray ty)) ⟨t,xs,bor,none,sm⟩ (.slice (some ⟨w.heap.size,0,none⟩) xs.length cap) [w.heap.size]:=by
 have:=tD hr (b:=w.heap.size) (off:=0) (cap:=cap) (cur:=(css.flatten++rest).toArray) (ty:=ty) (fz:=(0,0)) (by lia) hl hm (by grind) (Eo _ _) (Bo _ _) (λj c hj=>by
  grind)
 rw[hb]at this;exact this
theorem Fb(t:Ty):(hZ t (fD t)).cells=(fD t).toArray:=Fa (w0:=default) (G:=λ_=>True) (jD default (λ_=>True) t)
theorem Bp(t:Ty)(k:Nat)(z:Array Value)(hz:k*t.size≠0->z=(fD t).toArray):((aGT (k*t.size)).map (z[· % z.size]!))=(aQ k (fD t)).flatten.toArray:=by
 have hl:(fD t).length=t.size:=(jD default (Good default []) t).length;by_cases h:k*t.size=0
 ·have:(aQ k (fD t)).flatten=[]:=by
   apply cF;simp_all
  grind
 ·have hs:(fD t).toArray.size=t.size:=by grind
  grind [Ub]
theorem aEC(hR:bQ n K w0 G w a E L V own):∀(l:Γ (Nat×Operand)),Ek w0 G ((l.map λp=>(p.1,opnd E p.2)).map λp=>(p.1,Yd p.2)) (l.map λp=>(p.1,a.eval p.2))
 | []=>rfl
 | p::r=>⟨a.eval p.2,_,rfl,λA hA t x hd=>aE9 hR p.2 hA hd,aEC hR r⟩
theorem LH{tab:Γ TI}(hT:kZ P tab)(hR:bQ n K w0 G w a E L V own){T:TypeId}{k:Nat}{parts:Array (Nat×Operand)}{A:iJ}(h:KZ tab T k (parts.toList.map λp=>(p.1,opnd E p.2))=some A) :
  ∃v w' V' own',(Rn T k (parts.map λp=>(p.1,a.eval p.2))).run P w = .ok v w'/\aE8 n K w0 G w w' a E L (L++[some A]) V V' own own'/\mS w0 G (L++[some A]) V' (.a (.osl L.length none)) v:=by
 unfold KZ at h;split at h
 ·rename_i e t by' ht
  split at h
  ·rename_i xs hle hlit;cases h;have hS:=hT T;rw[ht]at hS;obtain⟨_,hu,he,_⟩:=hS;simp at hle;obtain⟨hle,hsz⟩:=hle;have hkm:k<=maxLen:=by have:=wM k hsz;grind [maxLen]
   have hb0:(aQ k ([]:Γ Nat)).flatten=[]:=by simp
   have hbor:(!t.flat && !(cC k 0))=false->t.flat=true\/k=0:=by
    simp;lia
   have hfill:∃css' bss',sY (λi=>some (i*t.size,t.size)) (aQ k (fD t)).flatten.toArray (parts.toList.map λp=>(p.1,a.eval p.2))=some css'.flatten.toArray/\(∀w,yZ (pH w0 G w t (!t.flat && !(cC k 0))) t.size xs css' bss')/\bss'.flatten=[]/\xs.length=k:=by
    by_cases hk:k=0
    ·subst hk;have:parts.toList=[]:=by
      cases hp:parts.toList with
      | nil=>rfl
      | cons q r =>
       rw[hp]at hlit;simp at hlit;cases hq:opnd E q.2 with
       | a A=>rw[hq]at hlit;simp[Yd,aHY]at hlit
       | tup _=>grind [Yd,aHY]
       | fn _ cs=>rw[hq]at hlit;cases cs <;> simp[Yd,aHY]at hlit
     rw[this]at hlit ⊢;cases hlit;exact⟨[],[],rfl,λw=>⟨rfl,rfl⟩,rfl,rfl⟩
    ·obtain⟨css',bss',e1,e2,e3,e4⟩:=aEB (bor := !t.flat && !(cC k 0)) (λhh=>(hbor hh).resolve_right hk) hlit (aEC hR parts.toList) (λw=>Dh t _ k) hb0
     grind
   obtain⟨css,bss,hf,hrow,hbn,hlen⟩:=hfill;obtain⟨l1,l2,l3⟩:=(hrow w).len;have hent:=Ny (w:=w) (sm:=none) (ty:=e) (rest:=[]) (cap:=k) (hrow _) hbn (by lia) hkm (by grind);rw[List.append_nil]at hent;refine⟨_,_,_,_,?_,hR.freshN ((cQ.refl [] w).alloc _) hent (by simp) (by simp),uM (w0:=w0) (G:=G) (u:=w0) (G':=G) hent⟩;have e1:(parts.map λp=>(p.1,a.eval p.2)).toList=parts.toList.map λp=>(p.1,a.eval p.2):=by simp
   unfold Rn;simp only[c8,run_underlying hu,bL,he.size_run];rw[ν (by lia)];by_cases h0:k*t.size=0
   ·have hz:=Bp t k #[] (λh=>absurd h0 h);rw[π h0];simp only[c8,dW,bL,hz,e1,hf,hlen];rfl
   ·have hz:=Bp t k (fD t).toArray (λ_=>rfl);rw[ν h0];simp only[c8,dW,bL,he.zero_run,Fb,hz,e1,hf,hlen];rfl
  lia
 lia
end
def b9(s:Δ):Γ Int:=s.data.toList.map λb=>(b.toNat:Int)
def aSA(tab:Γ TI)(src dst:TypeId):PV->Option iJ
 | .a (.val (.string s))=>match jP tab src,jP tab dst with
  | .scal .str,.slice _ (.int .u8) _=>some ⟨.int .u8,b9 s,false,none,none⟩
  | _,_=>none
 | _=>none
def aX2(tab:Γ TI)(L:bM)(src dst:TypeId):PV->Option Δ
 | .a A=>match jP tab src,jP tab dst,aOs L (.sl (.int .u8)) A with
  | .slice _ (.int .u8) _,.scal .str,some xs=>some (nR xs)
  | _,_,_=>none
 | _=>none
section
variable {P:Program} {n:Nat} {K:gU} {G:Nat->Prop} {w0 w:World} {a:Act} {E:gK} {L:bM} {V:Nat->Value} {own:Nat->Γ Nat}
theorem aSB{n:Int}(h:bA .i64 n) : -9223372036854775808<=n/\n<=9223372036854775807:=by
 grind [bA,p7,p8,oJ,n7]
theorem Z8{tab:Γ TI}(hT:kZ P tab)(hR:bQ n K w0 G w a E L V own){T:TypeId}{l c:Operand}{cs:Γ Prop}{A:iJ}(h:aKl tab T (opnd E l) (opnd E c)=some (cs,A))(hc:iD cs) :
  ∃v w' V' own',(T9 T (a.eval l) (a.eval c)).run P w = .ok v w'/\aE8 n K w0 G w w' a E L (L++[some A]) V V' own own'/\mS w0 G (L++[some A]) V' (.a (.osl L.length none)) v:=by
 unfold aKl at h;split at h
 ·rename_i e t by' li ci ht hl hcc
  cases h;simp[iD]at hc;obtain⟨e1,o1⟩:=hR.valEq hl;obtain⟨e2,o2⟩:=hR.valEq hcc;have hS:=hT T;rw[ht]at hS;obtain⟨_,hu,he,hby⟩:=hS;obtain⟨i,hi,hbi⟩:∃i,P.info? e=some i/\i.bytes=by':=by
   simp_all
  have hcm:ci.toNat<=maxLen:=by have:=(aSB o2).2;grind [maxLen]
  have hdl:(fD t).length=t.size:=(jD default (Good default []) t).length;have hsplit:(aQ ci.toNat (fD t)).flatten=(aQ li.toNat (fD t)).flatten++(aQ (ci.toNat-li.toNat) (fD t)).flatten:=by
   grind [List.replicate_append_replicate]
  have hent:=Ny (w:=w) (sm:=none) (ty:=e) (rest:=(aQ (ci.toNat-li.toNat) (fD t)).flatten) (cap:=ci.toNat) (Dh (w0:=w0) (G:=G) t false li.toNat) (by simp) (by grind) hcm (by
   rw[<- hsplit];simp[hdl])
  rw[<- hsplit,List.length_replicate]at hent;refine⟨_,_,_,_,?_,hR.freshN ((cQ.refl [] w).alloc _) hent (by simp) (by simp),uM (w0:=w0) (G:=G) (u:=w0) (G':=G) hent⟩;rw[e1,e2];unfold T9;simp only[c8,run_underlying hu,bL,asInt,asIntOf,dW,typeInfo,run_program,hi,pX o1,pX o2];rw[ν (by lia)];simp only[c8,run_askRoom,bL,he.size_run];by_cases hz:ci.toNat*t.size=0
  ·have hzl:=Bp t ci.toNat #[] (λh=>absurd hz h);rw[π hz];simp only[c8,dW,bL,hzl,newRow];rfl
  ·have hzl:=Bp t ci.toNat (fD t).toArray (λ_=>rfl);rw[ν hz];simp only[c8,dW,bL,he.zero_run,Fb,hzl,newRow];rfl
 lia
theorem Fc{cs c:Γ Value}(h:cs.length=c.length):fX cs 0 c=c:=by
 grind [fX]
theorem SN{c1 c2 c:Γ Value}{o:Nat}(h:o+c.length<=c1.length):fX (c1++c2) o c=fX c1 o c++c2:=by
 unfold fX;rw[List.take_append_of_le_length (by omega),p9 (by omega)];simp
theorem Nz{c1 c2 c:Γ Value}{o:Nat}:fX (c1++c2) (c1.length+o) c=c1++fX c2 o c:=by
 unfold fX;rw[zW,cW (by lia),zV,gC (by lia)]
 grind
theorem nF{cs c:Γ Value}{o:Nat}(h:o+c.length<=cs.length):(fX cs o c).length=cs.length:=by
 grind [fX]
theorem IP{w:World}{G:Nat->Prop}{d:aS}{c:Γ Value}(hd:eK w G d.t d.x c):∀ {t:Ty} {x x':t.den} {p:Γ Nat} {cs:Γ Value},Y7 t x p d=some x'->eK w G t x cs ->
  ∃o,lC p t=some (o,d.t)/\eK w G t x' (fX cs o c)/\o+c.length<=cs.length
 | t,x,x',[],cs,h,hr=>by
  have h':(if h:d.t=t then some (h ▸ d.x)else none:Option t.den)=some x':=by
   cases t <;> exact h
  split at h'
  ·rename_i ht;have hl:cs.length=c.length:=by rw[hr.length,hd.length,ht]
   refine⟨0,by rw[ht];rfl,?_,by lia⟩
   grind [Fc]
  lia
 | .cons a b,x,x',0::p,cs,h,hr=>by
  obtain⟨c1,c2,rfl,h1,h2⟩:=hr;simp[Y7]at h;split at h
  ·rename_i y hy;cases h;obtain⟨o,ho,hr',hl⟩:=IP hd (t:=a) hy h1;refine⟨o,by grind [lC,kV],?_,by grind⟩;rw[SN hl];exact⟨_,_,rfl,hr',h2⟩
  lia
 | .cons a b,x,x',(k+1)::p,cs,h,hr=>by
  obtain⟨c1,c2,rfl,h1,h2⟩:=hr;simp only[Y7]at h;split at h
  ·rename_i y hy;cases h;obtain⟨o,ho,hr',hl⟩:=IP hd (t:=b) hy h2;have hp:lC ((k+1)::p) (.cons a b)=some (a.size+o,d.t):=by
    grind [lC,kV]
   refine⟨a.size+o,hp,?_,by rw[aU,h1.length];lia⟩;rw[<- h1.length,Nz];exact⟨_,_,rfl,h1,hr'⟩
  lia
 | .int _,_,_,0::_,_,h,_=>by cases h
 | .bool,_,_,0::_,_,h,_=>by cases h
 | .fn,_,_,0::_,_,h,_=>by cases h
 | .str,_,_,0::_,_,h,_=>by cases h
 | .sl _,_,_,0::_,_,h,_=>by cases h
 | .unit,_,_,0::_,_,h,_=>by cases h
 | .int _,_,_,(_+1)::_,_,h,_=>by cases h
 | .bool,_,_,(_+1)::_,_,h,_=>by cases h
 | .fn,_,_,(_+1)::_,_,h,_=>by cases h
 | .str,_,_,(_+1)::_,_,h,_=>by cases h
 | .sl _,_,_,(_+1)::_,_,h,_=>by cases h
 | .unit,_,_,(_+1)::_,_,h,_=>by cases h
theorem OA{w:World}{d:aS}{c:Γ Value}(hf:d.t.flat=true)(hd:iA w d.t d.x c []):∀ {t:Ty} {x x':t.den} {p:Γ Nat} {cs:Γ Value} {bs:Γ Nat},Y7 t x p d=some x'->iA w t x cs bs ->
  ∃o,lC p t=some (o,d.t)/\iA w t x' (fX cs o c) bs/\o+c.length<=cs.length
 | t,x,x',[],cs,bs,h,hr=>by
  have h':(if h:d.t=t then some (h ▸ d.x)else none:Option t.den)=some x':=by
   cases t <;> exact h
  split at h'
  ·rename_i ht;have hl:cs.length=c.length:=by rw[hr.length,hd.length,ht]
   have hb:=(hr.flat (w':=w) (G:=λ_=>True) (by lia)).2;refine⟨0,by rw[ht];rfl,?_,by lia⟩
   grind [Fc]
  lia
 | .cons a b,x,x',0::p,cs,bs,h,hr=>by
  obtain⟨c1,c2,b1,b2,rfl,rfl,h1,h2⟩:=hr;simp only[Y7]at h;split at h
  ·rename_i y hy;cases h;obtain⟨o,ho,hr',hl⟩:=OA hf hd (t:=a) hy h1;refine⟨o,by grind [lC,kV],?_,by grind⟩;rw[SN hl];exact⟨_,_,_,_,rfl,rfl,hr',h2⟩
  lia
 | .cons a b,x,x',(k+1)::p,cs,bs,h,hr=>by
  obtain⟨c1,c2,b1,b2,rfl,rfl,h1,h2⟩:=hr;simp[Y7]at h;split at h
  ·rename_i y hy;cases h;obtain⟨o,ho,hr',hl⟩:=OA hf hd (t:=b) hy h2;have hp:lC ((k+1)::p) (.cons a b)=some (a.size+o,d.t):=by
    grind [lC,kV]
   refine⟨a.size+o,hp,?_,by rw[aU,h1.length];lia⟩;rw[<- h1.length,Nz];exact⟨_,_,_,_,rfl,rfl,h1,hr'⟩
  lia
 | .int _,_,_,0::_,_,_,h,_=>by cases h
 | .bool,_,_,0::_,_,_,h,_=>by cases h
 | .fn,_,_,0::_,_,_,h,_=>by cases h
 | .str,_,_,0::_,_,_,h,_=>by cases h
 | .sl _,_,_,0::_,_,_,h,_=>by cases h
 | .unit,_,_,0::_,_,_,h,_=>by cases h
 | .int _,_,_,(_+1)::_,_,_,h,_=>by cases h
 | .bool,_,_,(_+1)::_,_,_,h,_=>by cases h
 | .fn,_,_,(_+1)::_,_,_,h,_=>by cases h
 | .str,_,_,(_+1)::_,_,_,h,_=>by cases h
 | .sl _,_,_,(_+1)::_,_,_,h,_=>by cases h
 | .unit,_,_,(_+1)::_,_,_,h,_=>by cases h
theorem LI{l c1 c:Γ Value}{o1 o:Nat}(h:o+c.length<=c1.length)(hl:o1+c1.length<=l.length)(hc:∀j v,c1[j]? = some v->l[o1+j]? = some v):fX l (o1+o) c=fX l o1 (fX c1 o c):=by
 have hc1:c1=(l.drop o1).take c1.length:=by
  apply xW
  grind
 unfold fX;have e2:l.drop (o1+o+c.length)=c1.drop (o+c.length)++l.drop (o1+c1.length):=by
  have:l.drop o1=c1++l.drop (o1+c1.length):=by
   grind [fH,pP]
  rw[fY, <- pP,this,p9 (by lia)]
 grind
theorem bQ.turn(hR:bQ n K w0 G w a E L V own){w':World}{r b:Nat}{A A':iJ}(hA:b5 L r=some A)(hb:b∈own r)(hk:cQ [b] w w')(hs:Z4 A A')(hE:iS w0 G w' A' (V r) (own r))
  (hbox:∀ls,A'.ls=some ls->Dd w0 G w' L V A'.t ls (V r)) (hsm:∀q,A'.sm=some q->(∃b off,V r = .slice (some ⟨b,off,none⟩) 1 1)/\(q=true->A'.bor=true/\iS w0 K.G0 w' A' (V r) (own r))):bQ n K w0 G w' a E (jY L r (some A')) V own:=by
 have hag:∀s,oD L V (jY L r (some A')) V s:=Px hA hs V;have hnot:∀s C,b5 L s=some C->s≠r->∀d∈own s,d≠b:=λs C hs hsr d hd e=>by
  subst e;exact hR.apart s r C A hs hA hsr d hd hb
 have hsplit:∀s C,b5 (jY L r (some A')) s=some C->(s≠r/\b5 L s=some C)\/(s=r/\C=A'):=by
  intro s C hs;by_cases hsr:s=r
  ·subst hsr;rw[kC hA]at hs;lia
  ·exact .inl ⟨hsr,by rwa [dS (kT hsr)]at hs⟩
 have hGb:∀c,G c->c≠b:=λc hc e=>(hR.good r A hA b hb).2 (e ▸ hc);refine⟨hR.glob,?_,hR.size,hR.defers,λc hc=>cZ (hR.glt c hc) hk.size,λc hc=>(hk.block c (hR.glt c hc) (by grind)).trans (hR.gref c hc),hR.gsub,hR.gold,hR.gup,?_,?_,?_,?_,?_,?_,λi=>sC (hR.env i) λs _=>hag s⟩
 ·refine⟨hk.os.trans hR.kept.os,hk.tape.trans hR.kept.tape,hk.output.trans hR.kept.output,dV hR.kept.size hk.size,λk hk' hkO=>?_⟩;rw[hk.block k (cZ hk' hR.kept.size) (by simp;exact λe=>(hR.good r A hA b hb).1 (e ▸ ⟨hk',hkO⟩))];exact hR.kept.block k hk' hkO
 ·intro s C hs;rcases hsplit s C hs with ⟨e1,e2⟩ | ⟨rfl,rfl⟩
  ·exact(hR.heap s C e2).keep λd hd=>hk.block d (hR.own_lt e2 d hd) (by grind)
  lia
 ·intro s C hs;rcases hsplit s C hs with ⟨e1,e2⟩ | ⟨rfl,rfl⟩
  ·exact hR.good s C e2
  ·exact hR.good s A hA
 ·intro s C hs;rcases hsplit s C hs with ⟨e1,e2⟩ | ⟨rfl,rfl⟩
  ·exact hR.nodup s C e2
  ·exact hR.nodup s A hA
 ·intro s u C D hs hu' hsu;rcases hsplit s C hs with ⟨e1,e2⟩ | ⟨rfl,rfl⟩
  ·rcases hsplit u D hu' with ⟨e3,e4⟩ | ⟨rfl,rfl⟩
   ·exact hR.apart s u C D e2 e4 hsu
   ·exact hR.apart s u C A e2 hA hsu
  ·rcases hsplit u D hu' with ⟨e3,e4⟩ | ⟨rfl,rfl⟩
   ·exact hR.apart s u A D hA e4 hsu
   lia
 ·intro s C ls hs hl;rcases hsplit s C hs with ⟨e1,e2⟩ | ⟨rfl,rfl⟩
  ·refine((hR.boxs s C ls e2 hl).keepB λd off hv=>?_).agree λu _=>hag u;have hd:=(hR.heap s C e2).block hv (aT _);exact hk.block d (hR.own_lt e2 d hd) (by grind)
  ·exact(hbox ls hl).agree λu _=>hag u
 ·intro s C q hs hq;rcases hsplit s C hs with ⟨e1,e2⟩ | ⟨rfl,rfl⟩
  ·obtain⟨g1,g2⟩:=hR.small s C q e2 hq;exact⟨g1,λe=>⟨(g2 e).1,(g2 e).2.keep λd hd=>hk.block d (hR.own_lt e2 d hd) (by grind)⟩⟩
  grind
theorem Z9{w w':World}{A:iJ}{v:Value}{bs:Γ Nat}(hent:iS w0 G w A v bs)(hnd:bs.Nodup){i b off m cap po:Nat}{p:Γ Nat}{t:Ty}{z:t.den}{x':A.t.den}{c:Γ Value}{cur cur':Array Value}{ty:TypeId}{fz:Nat×Nat}{ls:Option (Γ gJ)}{sm:Option Bool}
  (hi:i<A.xs.length) (hv:v = .slice (some ⟨b,off,none⟩) m cap) (hp:lC p A.t=some (po,t)) (hbf:A.bor=true\/t.flat=true) (hrc:eK w0 G t z c) (hst:Y7 A.t (A.xs.getD i A.t.dflt) p ⟨t,z⟩=some x')
  (h5:w.heap[b]? = some (.cells cur ty fz)) (hs2:w'.heap[b]? = some (.cells cur' ty fz)) (hs3:cur'.toList=fX cur.toList (off+i*A.t.size+po) c) (hs4:cQ [b] w w'):iS w0 G w' ⟨A.t,A.xs.set i x',A.bor,ls,sm⟩ v bs:=by
 rcases hent.2 with ⟨_,_,h1,_⟩ | ⟨b',off',cap',cur0,ty0,fz0,bss,h1,h2,h3,h4,h5',h6,h7,h8,h9⟩
 ·grind
 ·rw[h1]at hv;simp only[kK,iH,uV]at hv;obtain⟨⟨q1,q2,_⟩,_,q3⟩:=hv;subst q1 q2 q3;rw[h5]at h5';cases h5';have hib:i<bss.length:=by lia
  obtain⟨cs,hcs1,hcs2,hcs3⟩:=h9 i _ _ (qD A.xs i A.t.dflt hi) (aX hib);have hnew:(∀w,pH w0 G w A.t A.bor (A.xs.getD i A.t.dflt) cs bss[i]->pH w0 G w A.t A.bor x' (fX cs po c) bss[i])/\po+c.length<=cs.length:=by
   cases hbor:A.bor with
   | true =>
    rw[hbor]at hcs3;obtain⟨o,e1,e2,e3⟩:=IP (d:=⟨t,z⟩) hrc hst hcs3.1;rw[hp]at e1;cases e1;exact⟨λw hh=>⟨e2,hh.2⟩,e3⟩
   | false =>
    rw[hbor]at hcs3 hbf;have hfl:t.flat=true:=hbf.resolve_left (by lia);obtain⟨o,e1,e2,e3⟩:=OA (d:=⟨t,z⟩) hfl (hrc.own hfl (w':=w)) hst hcs3;rw[hp]at e1;cases e1;refine⟨λw' hh=>?_,e3⟩;obtain⟨o',e1',e2',_⟩:=OA (d:=⟨t,z⟩) hfl (hrc.own hfl (w':=w')) hst hh;rw[hp]at e1';cases e1';exact e2'
  obtain⟨hnw,hol⟩:=hnew;have hsz:i*A.t.size+A.t.size<=cap'*A.t.size:=by
   have:(i+1)*A.t.size<=cap'*A.t.size:=cV _ (by lia)
   lia
  have hcl:cur.toList.length=cur.size:=eN;have hcurlen:cur'.size=cur.size:=by
   have:=congrArg aF hs3
   grind [nF]
  have hnb:∀d∈bss.flatten,d≠b':=λd hd e=>by
   grind
  refine⟨by grind,.inr ⟨b',off',cap',cur',ty,fz,bss,by grind,by grind,h3,by lia,hs2,by lia,by grind,h8,λj y bj hy hbj=>?_⟩⟩;have hkeep:∀d∈bj,w'.heap[d]? = w.heap[d]? := λd hd=>by
   have hm:=qC hbj d hd;exact hs4.block d (hent.lt d (by grind)) (by grind)
  have hkeepR:∀ {yy:A.t.den} {cc:Γ Value},pH w0 G w A.t A.bor yy cc bj->pH w0 G w' A.t A.bor yy cc bj:=λhh=>ZP (λ_ h=>h) (λ_ _=>rfl) hkeep hh;have hb2:off'+i*A.t.size+cs.length<=cur.toList.length:=by lia
  have hcsg:∀j v,cs[j]? = some v->cur.toList[off'+i*A.t.size+j]? = some v:=λj v hj=>by grind
  have hs3':cur'.toList=fX cur.toList (off'+i*A.t.size) (fX cs po c):=by
   rw[hs3];exact LI hol hb2 hcsg
  have hspl:(fX cs po c).length=cs.length:=nF hol;simp only at hy;rw[List.getElem?_set]at hy;by_cases hij:i=j
  ·subst hij;rw[π rfl,π hi]at hy;cases hy;rw[aX hib]at hbj;cases hbj;refine⟨fX cs po c,by lia,λk v hk=>?_,hkeepR (hnw w hcs3)⟩;have hk':k<cs.length:=by grind
   rw[<- eF,hs3',fX,bZ,cO (by grind)];rw[b7 (by grind)]
   grind
  ·rw[ν hij]at hy;obtain⟨ds,e1,e2,e3⟩:=h9 j y bj hy hbj;refine⟨ds,e1,λk v hk=>?_,hkeepR e3⟩;have hk':k<A.t.size:=by grind
   show cur'[off'+j*A.t.size+k]? = some v;have:=e2 k v hk;rw[<- eF]at this;rw[<- eF,hs3',fX,hspl,hcs1];rcases Nat.lt_or_gt_of_ne hij with hlt | hgt
   ·have hle:(i+1)*A.t.size<=j*A.t.size:=cV _ hlt;rw[gE,D3]at hle;rw[cO (by grind),vX]
    grind
   ·have hle:(j+1)*A.t.size<=i*A.t.size:=cV _ hgt;rw[gE,D3]at hle;rw[bZ,b7 (by grind),kY,π (by lia)]
    lia
def tgt:PV->Option Nat
 | .a (.optr r _ _)=>some r
 | .a (.bptr r _ _)=>some r
 | _=>none
theorem aIa{tab:Γ TI}(hT:kZ P tab)(hR:bQ n K w0 G w a E L V own){T:TypeId}{x y:Operand}{L':bM}(h:aHZ tab L T (opnd E x) (opnd E y)=some L') :
  ∃w',(AC T (a.eval x) (a.eval y)).run P w = .ok () w'/\bQ n K w0 G w' a E L' V own/\∃r,tgt (opnd E x)=some r/\cQ (own r) w w':=by
 unfold aHZ at h;split at h
 ·rename_i r i p B hx hy;split at h
  ·rename_i t A ht hA;split at h
   ·rename_i z hbf hls hz;split at h
    ·rename_i x' hst;cases h;simp only[aV,Bool.or_eq_true]at hbf;obtain⟨hbf,hsmok⟩:=hbf;obtain⟨A',hA',hi,b,off,m,cap,po,t',hv,hp,he⟩:=hR.atom hx;rw[hA]at hA';cases hA';obtain⟨c,hrc,hvc⟩:=Bd (qE (hR.atom hy) hz) hz;have hcl:=hrc.length;have hent:=hR.heap r A hA;have hb:b∈own r:=by
      rcases hent.2 with ⟨_,_,h1,_⟩ | ⟨b',off',cap',cur,ty,fz,bss,h1,h2,h3,h4,h5,h6,h7,h8,h9⟩
      all_goals grind
     -- the place of the part
     have hpt:t'=t/\po+t.size<=A.t.size:=by
      obtain⟨cs,bi,hc,ho,_⟩:=UQ hent hv (qD A.xs i A.t.dflt hi);revert ho;unfold pH;cases A.bor with
      | true =>
       intro ho;obtain⟨o,e1,e2,e3⟩:=IP (d:=⟨t,z⟩) hrc hst ho.1;rw[hp]at e1;cases e1;rw[ho.1.length,hcl]at e3
       lia
      | false =>
       intro ho;obtain⟨o,e1,e2,e3⟩:=IP (w:=w) (G:=λ_=>True) (d:=⟨t,z⟩) (hrc.keep (w':=w) (λ_ _=>trivial) (λc hc=>hR.gref c hc)) hst (ho.read (λ_ _=>trivial));rw[hp]at e1;cases e1;rw[ho.length,hcl]at e3
       lia
     obtain⟨rfl,hps⟩:=hpt;rcases hent.2 with ⟨_,_,h1,_⟩ | ⟨b',off',cap',cur,ty,fz,bss,h1,h2,h3,h4,h5,h6,h7,h8,h9⟩
     ·grind
     ·rw[h1]at hv;simp only[kK,iH,uV]at hv;obtain⟨⟨q1,q2,_⟩,_,q3⟩:=hv;subst q1 q2 q3;have hsz:i*A.t.size+A.t.size<=cap'*A.t.size:=by
       have:(i+1)*A.t.size<=cap'*A.t.size:=cV _ (by lia)
       lia
      obtain⟨w',cur',hs1,hs2,hs3,hs4,hs5⟩:=sE (P:=P) c w b' (off'+i*A.t.size+po) 0 cur ty fz h5 h6.1 (by lia) hrc.one;rw[iX]at hs3;refine⟨w',?_,?_,r,by rw[hx];rfl,hs4.mono λk hk=>by grind⟩
      ·unfold AC;rw[he,hvc];have hvs:(hZ t' c).cells.toList=c:=sA hrc;have hvz:(hZ t' c).cells.size=t'.size:=by grind
       simp only[n5,c8,dW,bL,storeVar,(TI.ty_ok (hT T) ht).size_run,hvz,hvs]
       lia
      ·refine hR.turn hA hb hs4 ⟨rfl,by simp,λl hl=>by lia⟩ (Z9 hent (hR.nodup r A hA) hi h1 hp hbf hrc hst h5 hs2 hs3 hs4) (λl hl=>by lia) λq hq=>?_;have hq:A.sm=some q:=hq;obtain⟨g1,g2⟩:=hR.small r A q hA hq;refine⟨g1,λe=>⟨(g2 e).1,?_⟩⟩;subst e;have hfl:t'.flat=true:=by grind [bD9]
       exact Z9 (g2 rfl).2 (hR.nodup r A hA) hi h1 hp (.inr hfl) (hrc.flat hfl) hst h5 hs2 hs3 hs4
    lia
   lia
  lia
 ·rename_i r o t' B hx hy;split at h
  ·rename_i t A ht hA;split at h
   ·rename_i ls l htt hls hl;obtain rfl:=of_decide_eq_true htt;cases h;obtain⟨A',ls',b,off,hA',hls',hv,he,hsz⟩:=hR.atom hx;rw[hA]at hA';cases hA';rw[hls]at hls';cases hls';obtain⟨c,hvc,ell,hcl,hrl,hvs⟩:=UU (hR.atom hy) hl;obtain⟨b1,off1,cs,e1,e3,e4,e5,e6⟩:=hR.boxs r A ls hA hls;rw[hv]at e1;cases e1;have hent:=hR.heap r A hA;have hb:=hent.block hv (aT _);rcases hent.2 with ⟨_,h1,_,_⟩ | ⟨b',off',cap',cur,ty,fz,bss,h1,h2,h3,h4,h5,h6,h7,h8,h9⟩
    ·lia
    ·rw[hv]at h1;simp only[kK,iH,uV]at h1;obtain⟨⟨q1,q2,_⟩,q4,q3⟩:=h1;subst q1 q2 q3;have hx0:A.xs=[]:=cF q4.symm;have hcsl:cs.length=A.t.size:=e3;obtain⟨w',cur',hs1,hs2,hs3,hs4,hs5⟩:=sE (P:=P) c w b (off+o) 0 cur ty fz h5 h6.1 (by lia) hrl.one;rw[iX]at hs3;have hcurl:cur.toList.length=cur.size:=eN;have hcurlen:cur'.size=cur.size:=by
      have:=congrArg aF hs3
      grind [nF]
     refine⟨w',?_,?_,r,by rw[hx];rfl,hs4.mono λk hk=>by grind⟩
     ·unfold AC;rw[he];have hvz:(a.eval y).cells.size=t'.size:=by grind
      simp only[n5,c8,dW,bL,storeVar,(TI.ty_ok (hT T) ht).size_run,hvz,hvs]
      lia
     ·have hE:iS w0 G w' ⟨A.t,A.xs,A.bor,some (F1 ls o l),A.sm⟩ (V r) (own r):=by
       refine⟨hent.1,.inr ⟨b,off,1,cur',ty,fz,bss,by lia,by lia,h3,by lia,hs2,by lia,h7,h8,λi y bi hy=>?_⟩⟩
       grind
      refine hR.turn hA hb hs4 ⟨rfl,rfl,λ_ _=>⟨_,rfl⟩⟩ hE (λls2 h2=>?_) (λq hq=>?_)
      ·cases h2;refine⟨b,off,fX cs o c,hv,by grind [nF],by grind [IE],λj v hj=>?_,SH e6 hrl⟩;have hjl:j<cs.length:=by
        grind [dQ,nF]
       simp only[gW, hs2];show cur'[off+j]? = some v;have hcs:cs=(cur.toList.drop off).take cs.length:=by
        apply xW;intro k;rw[kY];by_cases hk:k<cs.length
        ·rw[π hk,vX,aX hk];have:=e5 k _ (aX hk);simp only[gW, h5]at this;rw[eF];exact this.symm
        grind
       have hcg:∀j v,cs[j]? = some v->cur.toList[off+j]? = some v:=λj v hj=>by
        grind
       rw[<- eF,hs3,LI (by lia) (by lia) hcg];have hlen:(fX cs o c).length=cs.length:=nF (by lia);rw[fX,bZ,cO (by grind),b7 (by grind)]
       grind
      ·have hq:A.sm=some q:=hq;obtain⟨⟨b2,off2,g1⟩,_⟩:=hR.small r A q hA hq
       lia
   lia
  lia
 lia
end
section
variable {P:Program}
theorem aSC(n:Nat):aOd (n,n+1) n:=λj hj h=>by lia
theorem Bq{w : World}{T T2 ty e : TypeId}{i : TypeInfo}{d : TypeDesc}{t : Ty}(hT : P.underlying T = some (.slice e))(hT2 : P.underlying T2 = some d)(hd : ∀ k, d ≠ .int k)(hi : P.info? e = some i)(he : pW P e t)(hsz : 0 < t.size)
    {adr:Option Addr} {len cap m:Nat} {x:Value} {olds news:Γ Value} (hx : ∀w':World, w'.heap = w.heap->(eA t.size m x).run P w' = .ok news.toArray w') (hxl : ∀w', (rG x).run P w' = .ok m w')
    (ho : ∀w':World, w'.heap = w.heap->(eA t.size len (.slice adr len cap)).run P w' = .ok olds.toArray w') (hol:olds.length = len*t.size) (hnl:news.length = m*t.size) (h1 : ∀v ∈ news, v.oneCell' = true)
    (hbound:(len+m)*i.bytes<=140737488355328) (hml:len+m<=maxLen)
    (hadr:cap = 0 \/ ∃b o cur ct fz, adr = some ⟨b, o, none⟩ /\ w.heap[b]? = some (.cells cur ct fz) /\ H1 t.size fz cur.size /\ o+cap*t.size<=cur.size) :
    ∃v' w', (gN #[T, T2] ty #[.slice adr len cap, x]).run P w = .ok v' w' /\
      ((len + m <= cap /\ ((cap = 0 /\ v' = .slice adr 0 0 /\ w' = w /\ m = 0 /\ len = 0) \/
          cap ≠ 0 /\ ∃b o cur ct fz cur', adr = some ⟨b, o, none⟩ /\ w.heap[b]? = some (.cells cur ct fz) /\ H1 t.size fz cur.size /\ o+cap*t.size<=cur.size /\ v' = .slice (some ⟨b, o, none⟩) (len+m) cap /\ w'.heap[b]? = some (.cells cur' ct fz) /\ cur'.toList = fX cur.toList (o+len*t.size) news /\ cQ [b] w w')) \/
       (cap<len+m /\ ∃nc rest, v' = .slice (some ⟨w.heap.size, 0, none⟩) (len+m) nc /\ len+m<=nc /\ nc<=maxLen /\ w' = w.drew.alloc (.cells (olds ++ news ++ rest).toArray e) /\ (olds ++ news ++ rest).length = nc*t.size)):=by
  have hzero:(match d with | .int _=>true | _=>false) = false:=by
    simp
  have jY : ∀w, (sizeOf e).run P w = .ok t.size w:=he.size_run;by_cases hroom:len+m<=cap
  · by_cases hcap:cap = 0
    · subst hcap
      have e0:m = 0:=by lia
      have e1:len = 0:=by lia
      subst e0 e1;have en:news = []:=cF (by lia);subst en;refine⟨.slice adr 0 0, w, ?_, .inl ⟨hroom, .inl ⟨rfl, rfl, rfl, rfl, rfl⟩⟩⟩;unfold gN;simp only[run_underlying hT, run_underlying hT2, jY, hzero, hxl, hx w rfl, c8, bL];cases adr <;> simp[run_underlying hT, run_underlying hT2, jY, hzero, hxl, hx w rfl, storeCells]
    · obtain⟨b, o, cur, ct, fz, rfl, hb, hf, hfit⟩:=hadr.resolve_left hcap
      have hle:(len+m)*t.size<=cap*t.size:=cV _ hroom;rw[gE]at hle;obtain⟨w', cur', s1, s2, s3, s4, s5⟩:=sE (P:=P) news w b (o+len*t.size) 0 cur ct fz hb hf.1 (by lia) h1;refine⟨_, w', ?_, .inl ⟨hroom, .inr ⟨hcap, b, o, cur, ct, fz, cur', rfl, hb, hf, hfit, rfl, s2, by lia, s4⟩⟩⟩;unfold gN;simp[run_underlying hT, run_underlying hT2, jY, hzero, hxl, hx w rfl, hroom, gB, s1]
  · have hlt:cap<len+m:=by lia
    have hge:=grownCap_ge w (len+m) cap e;have hcm:=grownCap_le_maxLen w (len+m) cap e hml;have hdl:(fD t).length = t.size:=(jD default (Good default []) t).length;have hzl:=Bp t (grownCap w (len+m) cap e-(len+m)) (fD t).toArray (λ_=>rfl);refine⟨.slice (some ⟨w.heap.size, 0, none⟩) (len+m) (grownCap w (len+m) cap e), _, ?_, .inr ⟨hlt, grownCap w (len+m) cap e, (aQ (grownCap w (len+m) cap e-(len+m)) (fD t)).flatten, rfl, hge, hcm, rfl, ?_⟩⟩
    · have hfit:=growslice_fits hlt hbound
      have h2 : ¬(((len+m:Nat):Int) > 9223372036854775807):=by grind [maxLen]
      have h2' : ¬((9223372036854775807:Int)<(len:Int)+(m:Int)):=by lia
      have hzc:gT (hZ t (fD t)).cells (grownCap w (len+m) cap e-(len+m)) = (aQ (grownCap w (len+m) cap e-(len+m)) (fD t)).flatten.toArray:=by
        grind [Fb, gT, List.size_toArray]
      have hforced:(Question.appendCap (len+m) cap e).forced = false:=rfl;have hfit' : ¬(281474976710656<Builtin.nextslicecap (len+m) cap*i.bytes):=by lia
      have ho':=ho w.drew rfl;have hx':=hx w.drew rfl;have hgc:(Question.appendCap (len+m) cap e).cut (w.tape w.drawn (.appendCap (len+m) cap e)) = grownCap w (len+m) cap e:=rfl;have hdr:({ w with drawn:=w.drawn+1 } : World) = w.drew:=rfl;unfold gN;simp[run_underlying hT, run_underlying hT2, jY, hzero, hxl, hroom, typeInfo, hi, h2', hfit', hforced, hgc, hdr, ho', hx', he.zero_run, hzc, newRow]
    · simp only[aU, hol, hnl, List.length_flatten]
      simp[hdl];rw[<- gE, <- gE]
      grind
theorem oH{w:World}{sz m b o len cap:Nat}{cs:Γ Value}(hl:cs.length=m*sz)(hc:lD w b o cs):(eA sz m (.slice (some ⟨b,o,none⟩) len cap)).run P w = .ok cs.toArray w:=by
 have:=run_loadCells_list (P:=P) w ⟨b,o,none⟩ cs (λj v hj=>by rw[gB];exact hc j v hj)
 grind [eA]
end
theorem oE.row{w:World}{G:Nat->Prop}{α:Type}{R:α->Γ Value->Prop}{sz:Nat}{xs:Γ α}{v:Value}(h:oE w G R sz xs v) :
  ∃css bss,yZ (λy c b=>R y c/\b=[]) sz xs css bss/\bss.flatten=[]/\((∃ad,v = .slice ad 0 0/\xs=[])\/∃b off cap,v = .slice (some ⟨b,off,none⟩) xs.length cap/\G b/\lD w b off css.flatten):=by
 rcases h.2 with ⟨ad,rfl,rfl⟩ | ⟨b,off,cap,rfl,h1,h2,h3,h4⟩
 ·exact⟨[],[],⟨rfl,rfl⟩,rfl,.inl ⟨ad,rfl,rfl⟩⟩
 ·obtain⟨css,hr,hc⟩:=aHX (R:=λy c b=>R y c/\b=[]) (sz:=sz) (f:=λj=>w.cell? ⟨b,j,none⟩) xs (aQ xs.length []) off (by simp) (λi y bi hy hb=>by
   grind)
  exact⟨css,_,hr,by simp,.inr ⟨b,off,cap,rfl,h3,hc⟩⟩
theorem yE.row{w:World}{α:Type}{R:α->Γ Value->Γ Nat->Prop}{sz:Nat}{xs:Γ α}{v:Value}{bs:Γ Nat}(h:yE w R sz xs v bs) :
  ∃css bss,yZ R sz xs css bss/\((∃ad,v = .slice ad 0 0/\xs=[]/\bs=[])\/∃b off cap cur ty fz,v = .slice (some ⟨b,off,none⟩) xs.length cap/\xs.length<=cap/\cap<=maxLen/\off+cap*sz<=cur.size /\
   w.heap[b]? = some (.cells cur ty fz)/\H1 sz fz cur.size/\bs=b::bss.flatten/\∀j c,css.flatten[j]? = some c->cur[off+j]? = some c):=by
 rcases h.2 with ⟨ad,rfl,rfl,rfl⟩ | ⟨b,off,cap,cur,ty,fz,bss,rfl,h1,h2,h3,h4,h5,h6,h7,h8⟩
 ·exact⟨[],[],⟨rfl,rfl⟩,.inl ⟨ad,rfl,rfl,rfl⟩⟩
 ·obtain⟨css,hr,hc⟩:=aHX (R:=R) (sz:=sz) (f:=λj=>cur[j]?) xs bss off h6 (λi y bi hy hb=>h8 i y bi hy hb);exact⟨css,bss,hr,.inr ⟨b,off,cap,cur,ty,fz,rfl,h1,h2,h3,h4,h5,h7,hc⟩⟩
def bDA:(t:Ty)->Δ->Option (Γ t.den)
 | .int .u8,s=>some (b9 s)
 | _,_=>none
def bDB(tab:Γ TI)(L:bM)(T2:TypeId)(t:Ty):dE->Option (Γ t.den)
 | .val (.string s)=>match jP tab T2 with
  | .scal .str=>bDA t s
  | _=>none
 | A=>match jP tab T2 with
  | .slice _ _ _=>aOs L (.sl t) A
  | _=>none
def bDC(L:bM)(t:Ty):dE->Option (Γ t.den)
 | .sl t' xs=>if h:t'=t then some (q9 h xs)else none
 | .osl r rg=>match b5 L r with
  | some A=>match A.bor with
   | true=>if h:A.t=t then some (Ay rg (q9 h A.xs))else none
   | false=>none
  | none=>none
 | .val (.slice none _ _)=>some []
 | _=>none
def aX3(tab:Γ TI)(L:bM)(T2:TypeId)(t:Ty)(X:dE):Option (Γ t.den) :=
 match t.flat with
 | true=>bDB tab L T2 t X
 | false=>match jP tab T2 with
  | .slice _ _ _=>bDC L t X
  | _=>none
def aV5(A:iJ):Bool:=A.t.flat||(A.bor||A.xs.isEmpty)
def aX4(tab:Γ TI)(E:gK)(L:bM)(T T2:TypeId):PV->PV->Option (Γ Prop×PV×gK×bM)
 | .a S,.a X=>match jP tab T with
  | .slice _ t by'=>match pE 1 t.size&&pE 1 by',aX3 tab L T2 t X with
   | true,some ys=>match S with
    | .val (.slice none _ _)=>some ([ys.length*by'<=140737488355328],.a (.osl L.length none),E,L++[some ⟨t,ys, !t.flat,none,none⟩])
    | .osl r rg=>match b5 L r with
     | some A=>if h:t=A.t then(match aV5 A with
      | true=>some ([((Ay rg A.xs).length+ys.length)*by'<=140737488355328],.a (.osl r none),Nu r E,yF r (jY L r (some ⟨A.t,Ay rg A.xs++q9 h ys,A.bor || !A.t.flat,none,none⟩)))
      | false=>none)else none
     | none=>none
    | _=>none
   | _,_=>none
  | _=>none
 | _,_=>none
section
variable {P:Program} {n:Nat} {K:gU} {G:Nat->Prop} {w0 w:World} {a:Act} {E:gK} {L:bM} {V:Nat->Value} {own:Nat->Γ Nat}
theorem bQ.replace(hR:bQ n K w0 G w a E L V own){w':World}(hk:cQ K.O K.w0 w')(hsz:w.heap.size<=w'.heap.size){r:Nat}{A A':iJ}(hA:b5 L r=some A)(hold:∀c,c<w.heap.size->c ∉ own r->w'.heap[c]? = w.heap[c]?)
  {v':Value} {bs':Γ Nat} (hls:A'.ls=none) (hsm:A'.sm=none) (hE:iS w0 G w' A' v' bs') (hn:bs'.Nodup) (hg:∀b∈bs',Out K G b) (hd:∀s C,b5 L s=some C->s≠r->∀b∈own s,b ∉ bs') :
  bQ n K w0 G w' a (Nu r E) (yF r (jY L r (some A'))) (Em V r v') (Em own r bs'):=by
 have hkill:pJ r A'=A':=by grind [pJ]
 have hsplit:∀s C,b5 (yF r (jY L r (some A'))) s=some C->(s≠r/\∃D,b5 L s=some D/\C=pJ r D)\/(s=r/\C=A'):=by
  intro s C hs;rw[oU]at hs;by_cases hsr:s=r
  ·subst hsr;rw[kC hA]at hs;grind
  ·rw[dS (kT hsr)]at hs;cases hD:b5 L s with
   | none=>grind
   | some D=>grind
 have hag:∀s,s≠r->oD L V (yF r (jY L r (some A'))) (Em V r v') s:=λs hs=>by
  refine⟨dI _ _ hs,λB hB=>⟨pJ r B,?_,Nv r B,Pw r B,λls h=>⟨_,IK.1 ls h⟩⟩⟩;rw[oU,dS (kT hs),hB];rfl
 have hkeep:∀s D,b5 L s=some D->s≠r->∀b∈own s,w'.heap[b]? = w.heap[b]? := λs D hD hs b hb=>hold b (hR.own_lt hD b hb) (hR.apart s r D A hD hA hs b hb);have hGk:∀c,G c->w'.heap[c]? = w.heap[c]? := λc hc=>hold c (hR.glt c hc) λhm=>(hR.good r A hA c hm).2 hc;refine⟨hR.glob,hk,hR.size,hR.defers,λc hc=>cZ (hR.glt c hc) hsz,λc hc=>(hGk c hc).trans (hR.gref c hc),hR.gsub,hR.gold,hR.gup,?_,?_,?_,?_,?_,?_,λi=>?_⟩
 ·intro s C hs;rcases hsplit s C hs with ⟨e1,D,e2,rfl⟩ | ⟨rfl,rfl⟩
  ·rw[dI _ _ e1,dI _ _ e1];exact KX.2 ((hR.heap s D e2).keep (hkeep s D e2 e1))
  grind [fC]
 ·intro s C hs;rcases hsplit s C hs with ⟨e1,D,e2,rfl⟩ | ⟨rfl,rfl⟩
  ·rw[dI _ _ e1];exact hR.good s D e2
  grind [fC]
 ·intro s C hs;rcases hsplit s C hs with ⟨e1,D,e2,rfl⟩ | ⟨rfl,rfl⟩
  ·rw[dI _ _ e1];exact hR.nodup s D e2
  grind [fC]
 ·intro s u C D hs hu hsu;rcases hsplit s C hs with ⟨e1,C',e2,rfl⟩ | ⟨rfl,rfl⟩
  ·rcases hsplit u D hu with ⟨e3,D',e4,rfl⟩ | ⟨rfl,rfl⟩
   ·rw[dI _ _ e1,dI _ _ e3];exact hR.apart s u C' D' e2 e4 hsu
   grind [dI,fC]
  ·rcases hsplit u D hu with ⟨e3,D',e4,rfl⟩ | ⟨rfl,rfl⟩
   ·grind [fC,dI]
   lia
 ·intro s C ls hs hl;rcases hsplit s C hs with ⟨e1,D,e2,rfl⟩ | ⟨rfl,rfl⟩
  ·obtain⟨l0,h0,rfl⟩:=IK.2 ls hl;rw[dI _ _ e1,Nv];refine(((hR.boxs s D l0 e2 h0).keepB λd off hv=>?_).kill r).agree λu hu=>hag u λe=>?_
   ·exact hkeep s D e2 e1 d ((hR.heap s D e2).block hv (aT _))
   grind [IL]
  lia
 ·intro s C q hs hq;rcases hsplit s C hs with ⟨e1,D,e2,rfl⟩ | ⟨rfl,rfl⟩
  ·rw[aE4]at hq;obtain⟨g1,g2⟩:=hR.small s D q e2 hq;rw[dI _ _ e1,dI _ _ e1];exact⟨g1,λe=>⟨by grind [Z2],KX.2 ((g2 e).2.keep (hkeep s D e2 e1))⟩⟩
  lia
 ·rw[Pv];exact sC (ZZ r (hR.env i)) λs hs=>hag s λe=>U0.1 (e ▸ hs)
theorem K0{r:Nat}{A:iJ}{v:Value}{bs:Γ Nat}{G':Nat->Prop}{u u':World}{L:bM}{V:Nat->Value}(hA:b5 L r=some A)(hV:V r=v)(h:iS u G' u' A v bs):nQ w0 G L V (.osl r none) v:=by
 refine⟨A,hA,λ_=>hV.symm,?_⟩;rw[hV];refine⟨bG _,aT _,?_⟩;rcases h.2 with ⟨ad,h1,h2,_⟩ | ⟨b,off,cap,cur,ty,fz,bss,h1,h2,h3,h4,h5,h6,h7,h8,h9⟩
 ·grind
 ·exact .inr ⟨b,off,A.xs.length,cap,off,cap,h1,by rw[h1];rfl,by grind [Hn],.inl ⟨by simp[yT],by simp[yT]⟩⟩
theorem aED{w:World}{G G':Nat->Prop}{t:Ty}{x:t.den}{cs:Γ Value}(h:eK w G t x cs)(hf:t.flat=true)(bor:Bool)(u u':World):pH u G' u' t bor x cs []:=by
 cases bor with
 | true=>exact⟨h.flat hf,rfl⟩
 | false=>exact h.own hf
theorem IQ(sz:Nat)(ad:Option Addr)(w:World):(eA sz 0 (.slice ad 0 0)).run P w = .ok #[] w:=by
 cases ad with
 | none=>rfl
 | some ad =>
  have:=run_loadCells_list (P:=P) w ad [] (λj v hj=>by grind)
  grind [eA]
def oE.mapR{w:World}{G G':Nat->Prop}{α:Type}{R R':α->Γ Value->Prop}{sz:Nat}{xs:Γ α}{v:Value}(h:oE w G R sz xs v)(hG:∀b,G b->G' b)(hR:∀x cs,R x cs->R' x cs):oE w G' R' sz xs v :=
 oE.keep hR hG (λ_ _=>rfl) h
theorem aLV{w w0:World}{G G':Nat->Prop}{t e:Ty}(h:t=e){xs:Γ t.den}{v:Value}(hx:oE w G' (eK w0 G t) t.size xs v):oE w G' (eK w0 G e) e.size (q9 h xs) v:=by
 subst h;exact hx
theorem aLW{tab:Γ TI}(hT:kZ P tab)(hR:bQ n K w0 G w a E L V own){T2:TypeId}{t:Ty}{X:dE}{x:Operand}(hx:opnd E x = .a X){ys:Γ t.den}(h:aX3 tab L T2 t X=some ys) :
  ∃d css bss,P.underlying T2=some d/\(∀k,d ≠ .int k)/\bss.flatten=[]/\(∀w1 bor,(t.flat=true\/bor=true)->yZ (pH w0 G w1 t bor) t.size ys css bss)/\(∀w':World,w'.heap=w.heap->(eA t.size ys.length (a.eval x)).run P w' = .ok css.flatten.toArray w')/\∀w',(rG (a.eval x)).run P w' = .ok ys.length w':=by
 have slice:∀ {e:TypeId} {t':Ty} {b:Nat},jP tab T2 = .slice e t' b->oE w (λ_=>True) (eK w0 G t) t.size ys (a.eval x)->∃d css bss,P.underlying T2=some d/\(∀k,d ≠ .int k)/\bss.flatten=[]/\(∀w1 bor,(t.flat=true\/bor=true)->yZ (pH w0 G w1 t bor) t.size ys css bss) /\
   (∀w':World,w'.heap=w.heap->(eA t.size ys.length (a.eval x)).run P w' = .ok css.flatten.toArray w')/\∀w',(rG (a.eval x)).run P w' = .ok ys.length w':=by
  intro e t' b ht hr;have hS:=hT T2;rw[ht]at hS;obtain⟨css,bss,h1,h2,h3⟩:=oE.row hr;refine⟨_,css,bss,hS.2.1,(λk h=>by lia),h2,λw1 bor hfb=>h1.mono (λy c b hb hh=>?_),?_,?_⟩
  ·rw[hh.2];unfold pH;cases bor with
   | true=>lia
   | false=>exact hh.1.own (hfb.resolve_right (by lia))
  ·intro w' hw';rcases h3 with ⟨ad,e1,e2⟩ | ⟨b',off,cap,e1,e2,e3⟩
   ·have:css=[]:=by rw[e2]at h1;exact h1.1
    grind [IQ]
   ·rw[e1];exact oH h1.len.2.2 (e3.keep (by lia))
  ·intro w';rcases h3 with ⟨ad,e1,e2⟩ | ⟨b',off,cap,e1,e2,e3⟩
   ·rw[e1,e2];rfl
   ·rw[e1];rfl
 unfold aX3 at h;split at h
 ·rename_i hf;unfold bDB at h;split at h
  ·rename_i s;split at h
   ·rename_i ht;have hS:=hT T2;rw[ht]at hS;obtain⟨e1,e2⟩:=hR.valEq hx;unfold bDA at h;split at h
    ·cases h;have hrow:∀(l:Γ UInt8) (w1:World) (bor:Bool),yZ (pH w0 G w1 (.int .u8) bor) (Ty.int YJ).size (l.map λb=>(b.toNat:Int)) (l.map λb=>[.int .u8 (b.toNat:Int)]) (l.map λ_=>[]):=by
      intro l w1 bor
      induction l with
      | nil=>exact⟨rfl,rfl⟩
      | cons b l ih =>
       refine⟨_,_,_,_,rfl,rfl,rfl,?_,ih⟩;refine aED (w:=w1) (G:=λ_=>True) (t := .int .u8) (x:=(b.toNat:Int)) (cs:=[.int .u8 (b.toNat:Int)]) ⟨rfl,?_⟩ rfl bor _ _;have hb:=b.toNat_lt
       grind [bA,p7,p8,oJ,n7]
     refine⟨_,_,_,pW.str_und hS,(λk h=>by lia),by simp,λw1 bor _=>hrow s.data.toList w1 bor,λw' _=>?_,λw'=>?_⟩
     ·rw[e1];have hl:(b9 s).length=s.size:=by simp[b9]
      simp only[eA,hl,dW]
      congr 1
      have hs:s.extract 0 s.size=s:=by simp
      apply Array.toList_inj.1;simp
      induction s.data.toList with
      | nil=>rfl
      | cons b l ih=>grind
     ·rw[e1];simp[b9,rG]
    lia
   lia
  ·split at h
   ·rename_i e t' b ht;have hr:=UX hR (cQ.refl [] w) (G':=λ_=>True) (λ_ _=>trivial) (hR.atom hx) h (λ_ _ _ _=>trivial);exact slice ht (oE.mapR hr (λ_ h=>h) (λy c hh=>hh.flat hf))
   lia
 ·split at h
  ·rename_i e t' b ht;refine slice ht ?_;have hX:=hR.atom hx;unfold bDC at h;split at h
   ·rename_i t2 xs;split at h
    ·cases h;have h1:oE w (λ_=>True) (eK w0 G t2) t2.size xs (a.eval x):=oE.keep (λ_ _ h=>h) (λ_ _=>trivial) hR.gref hX
     grind [aLV]
    lia
   ·rename_i r rg;split at h
    ·rename_i A hA;split at h
     ·split at h
      ·rename_i he;cases h;subst he;obtain⟨B,hB,_,hs⟩:=hX;rw[hA]at hB;cases hB;have h1:oE w (λ_=>True) (eK w0 G A.t) A.t.size A.xs (V r):=yE.read (λy c bi _ hr=>by
        grind [pH]) (λ_ _=>trivial) (hR.heap r A hA)
       cases rg with
       | none=>exact h1.whole hs
       | some q=>exact h1.sub (nn:=0) hs
      lia
     lia
    lia
   ·cases h;obtain⟨e1,⟨e3,e4⟩⟩:=hX;subst e3 e4;rw[e1];exact⟨bG _,.inl ⟨_,rfl,rfl⟩⟩
   lia
  lia
theorem wY{r:Nat}{A A':iJ}(hA:b5 L r=some A)(hls:A'.ls=none):b5 (yF r (jY L r (some A'))) r=some A':=by
 grind [oU,kC,pJ]
theorem yZ.nilM{α:Type}{R R':α->Γ Value->Γ Nat->Prop}{sz:Nat}:∀ {ys:Γ α} {css:Γ (Γ Value)} {bss:Γ (Γ Nat)},(∀y c b,y∈ys->R y c b->R' y c [])->yZ R sz ys css bss->∃bss',yZ R' sz ys css bss'/\bss'.flatten=[]
 | [],css,_,_,h=>⟨[],⟨h.1,rfl⟩,rfl⟩
 | y::ys,_,_,hm,⟨c,cs,b,bs,h1,h2,h3,h4,h5⟩=>by
  obtain⟨bs',h6,h7⟩:=h5.nilM (λy c b hy=>hm y c b (aM _ hy));exact⟨[]::bs',⟨c,cs,[],bs',h1,rfl,h3,hm _ _ _ (aR ..) h4,h6⟩,by grind⟩
theorem Be(w:World):w.drew.heap.size=w.heap.size:=rfl
theorem append_nil{tab:Γ TI}(hT:kZ P tab)(hR:bQ n K w0 G w a E L V own){T T2 ty e:TypeId}{t:Ty}{i:TypeInfo}{d:TypeDesc}{by':Nat}{s x:Operand}{ys:Γ t.den}{css:Γ (Γ Value)}{bss:Γ (Γ Nat)}
  (hu:P.underlying T=some (.slice e)) (hd1:P.underlying T2=some d) (hd2:∀k,d ≠ .int k) (hi:P.info? e=some i) (hbi:i.bytes=by') (he:pW P e t) (hsz:1<=t.size) (hby1:1<=by') (hb0:bss.flatten=[])
  {bo:Bool} (hrow:∀w1,yZ (pH w0 G w1 t bo) t.size ys css bss) (hfc:∀w':World,w'.heap=w.heap->(eA t.size ys.length (a.eval x)).run P w' = .ok css.flatten.toArray w') (hlen:∀w',(rG (a.eval x)).run P w' = .ok ys.length w')
  (l3:css.flatten.length=ys.length*t.size) (hone:∀v∈css.flatten,v.oneCell'=true) (hc:ys.length*by'<=140737488355328) (e1:a.eval s = .slice none 0 0) :
  ∃v w' V' own',(gN #[T,T2] ty #[a.eval s,a.eval x]).run P w = .ok v w'/\aE8 n K w0 G w w' a E L (L++[some ⟨t,ys,bo,none,none⟩]) V V' own own'/\mS w0 G (L++[some ⟨t,ys,bo,none,none⟩]) V' (.a (.osl L.length none)) v:=by
 have hml:0+ys.length<=maxLen:=by
  have:ys.length<=ys.length*by':=wM _ hby1
  grind [maxLen]
 obtain⟨v',w',hrun,hcase⟩:=Bq (P:=P) (w:=w) (T:=T) (T2:=T2) (ty:=ty) (adr:=none) (len:=0) (cap:=0) (olds:=[]) hu hd1 hd2 hi he hsz hfc hlen (λw' _=>rfl) (by simp) l3 hone (by lia) hml (.inl rfl);rw[e1];rcases hcase with ⟨_,hcase⟩ | ⟨hlt,nc,rest,rfl,hnc1,hnc2,rfl,hlr⟩
 ·rcases hcase with ⟨_,rfl,rfl,hm,_⟩ | ⟨hh,_⟩
  ·have hys:ys=[]:=cF hm;subst hys;have hent:iS w0 G w' ⟨t,[],bo,none,none⟩ (.slice none 0 0) []:=⟨by lia,.inl ⟨_,rfl,rfl,rfl⟩⟩;exact⟨_,_,_,_,hrun,hR.freshN (cQ.refl _ _) hent (by simp) (by simp),uM (w0:=w0) (G:=G) (u:=w0) (G':=G) hent⟩
  lia
 ·simp only[dL,bX]at hrun hnc1 hlr hlt;have hent:=Ny (w:=w.drew) (sm:=none) (ty:=e) (cap:=nc) (hrow _) hb0 hnc1 hnc2 (by rw[hlr];lia);exact⟨_,_,_,_,hrun,hR.freshN ((cQ.refl [] w).drew.alloc _) hent (by simp) (by simp),uM (w0:=w0) (G:=G) (u:=w0) (G':=G) hent⟩
set_option maxHeartbeats 800000 in
theorem aIb{tab:Γ TI}(hT:kZ P tab)(hR:bQ n K w0 G w a E L V own){T T2 ty e:TypeId}{i:TypeInfo}{d:TypeDesc}{by':Nat}{s x:Operand}{r:Nat}{rg:Option (Nat×Nat)}{A:iJ}{ys:Γ A.t.den}{css:Γ (Γ Value)}{bss:Γ (Γ Nat)}
  (hu:P.underlying T=some (.slice e)) (hd1:P.underlying T2=some d) (hd2:∀k,d ≠ .int k) (hi:P.info? e=some i) (hbi:i.bytes=by') (he:pW P e A.t) {bo:Bool} (hbo:∀w1 y c b,y∈A.xs->pH w0 G w A.t A.bor y c b->pH w0 G w1 A.t bo y c []) (hsz:1<=A.t.size) (hby1:1<=by') (hb0:bss.flatten=[])
  (hrow:∀w1,yZ (pH w0 G w1 A.t bo) A.t.size ys css bss) (hfc:∀w':World,w'.heap=w.heap->(eA A.t.size ys.length (a.eval x)).run P w' = .ok css.flatten.toArray w') (hlen:∀w',(rG (a.eval x)).run P w' = .ok ys.length w')
  (l3:css.flatten.length=ys.length*A.t.size) (hone:∀v∈css.flatten,v.oneCell'=true) (hA:b5 L r=some A) (hs:opnd E s = .a (.osl r rg)) (hc:((Ay rg A.xs).length+ys.length)*by'<=140737488355328/\True) :
  ∃v w' V' own',(gN #[T,T2] ty #[a.eval s,a.eval x]).run P w = .ok v w'/\bQ n K w0 G w' a (Nu r E) (yF r (jY L r (some ⟨A.t,Ay rg A.xs++q9 rfl ys,bo,none,none⟩))) V' own'/\mS w0 G (yF r (jY L r (some ⟨A.t,Ay rg A.xs++q9 rfl ys,bo,none,none⟩))) V' (.a (.osl r none)) v:=by
 obtain⟨A',hA',hve,hs1,hs2,hs3⟩:=hR.atom hs;rw[hA]at hA';cases hA';have hent:=hR.heap r A hA;obtain⟨ocss,obss,horow,hocase⟩:=yE.row hent
 -- the base's own elements
 have hbrow:∀w1,∃ob,yZ (pH w0 G w1 A.t bo) A.t.size (Ay rg A.xs) (Ay rg ocss) ob/\ob.flatten=[]:=by
  intro w1;obtain⟨ob,h1,h2⟩:=horow.nilM (R':=pH w0 G w1 A.t bo) (λy c b hy hh=>hbo w1 y c b hy hh);cases rg with
  | none=>exact⟨ob,h1,h2⟩
  | some q =>
   obtain⟨lo,hi⟩:=q;refine⟨(ob.take hi).drop lo,(h1.take hi).drop lo,?_⟩;rw[wL]at h2 ⊢;exact λl hl=>h2 l (gY (List.mem_of_mem_drop hl))
 obtain⟨ob,hbrow1,hbflat⟩:=hbrow w;obtain⟨m1,m2,m3⟩:=hbrow1.len;have hlenrg:(Ay rg A.xs).length=Hn A.xs.length rg-yT rg:=by
  cases rg with
  | none=>simp[Ay,Hn,yT]
  | some q =>
   obtain⟨lo,hi⟩:=q;simp only[Ay,Hn,yT,List.length_drop,bW]at hs2 ⊢;omega
 have hml:(Ay rg A.xs).length+ys.length<=maxLen:=by
  have:(Ay rg A.xs).length+ys.length<=((Ay rg A.xs).length+ys.length)*by':=wM _ hby1
  have:=hc.1;unfold maxLen;omega
 have hcast:∀(w1:World),∃nb,yZ (pH w0 G w1 A.t bo) A.t.size (Ay rg A.xs++q9 rfl ys) (Ay rg ocss++css) nb/\nb.flatten=[]:=by
  intro w1;obtain⟨ob,h1,h2⟩:=hbrow w1;exact⟨ob++bss,h1.append (hrow w1),by simp[h2,hb0]⟩
 have hbnot:∀s C,b5 L s=some C->s≠r->∀b∈own s,b ∉ own r:=λs C hs' hsr=>hR.apart s r C A hs' hA hsr;have hbg:=hR.good r A hA;have nothing:∀adr:Option Addr,a.eval s = .slice adr 0 0->Hn A.xs.length rg-yT rg=0 ->
   ∃v w' V' own',(gN #[T,T2] ty #[a.eval s,a.eval x]).run P w = .ok v w'/\bQ n K w0 G w' a (Nu r E) (yF r (jY L r (some ⟨A.t,Ay rg A.xs++q9 rfl ys,bo,none,none⟩))) V' own'/\mS w0 G (yF r (jY L r (some ⟨A.t,Ay rg A.xs++q9 rfl ys,bo,none,none⟩))) V' (.a (.osl r none)) v:=by
  intro adr hv e0;have eo:Ay rg A.xs=[]:=cF (by omega);obtain⟨v',w',hrun,hcase⟩:=Bq (P:=P) (w:=w) (T:=T) (T2:=T2) (ty:=ty) (adr:=adr) (len:=0) (cap:=0) (olds:=[]) hu hd1 hd2 hi he hsz hfc hlen (λw' _=>IQ _ _ _) (by simp) l3 hone
   (by rw[hbi];have:=hc.1;rw[eo]at this;simpa using this) (by rw[eo]at hml;simpa using hml) (.inl rfl)
  rw[hv];simp only[eo,dL]at *;rcases hcase with ⟨_,hcase⟩ | ⟨hlt,nc,rest,rfl,hnc1,hnc2,rfl,hlr⟩
  ·rcases hcase with ⟨_,rfl,rfl,hm,_⟩ | ⟨hh,_⟩
   ·have hys:ys=[]:=cF hm;subst hys;have hent':iS w0 G w' ⟨A.t,q9 rfl [],bo,none,none⟩ (.slice adr 0 0) []:=⟨by simp[q9],.inl ⟨_,rfl,rfl,rfl⟩⟩;exact⟨_,_,_,_,hrun,hR.replace hR.kept (aT _) hA (λ_ _ _=>rfl) rfl rfl hent' (by simp) (by simp) (by simp),K0 (w0:=w0) (G:=G) (wY hA rfl) (fC _ _ _) hent'⟩
   ·exact absurd rfl hh
  ·simp only[dL,bX]at hrun hnc1 hlr hlt;have hent':=Ny (w:=w.drew) (sm:=none) (ty:=e) (cap:=nc) (hrow _) hb0 hnc1 hnc2 (by rw[hlr];exact aT _);refine⟨_,_,_,_,hrun,hR.replace (hR.kept.drew.alloc _) (by simp[aGU,Be]) hA (λc hc _=>?_) rfl rfl hent' (by simp) (by rw[Be];intro b hb;simp at hb;subst hb;exact hR.out_new (aT _)) (λs C hs' _ b hb=>?_),K0 (w0:=w0) (G:=G) (wY hA rfl) (fC _ _ _) hent'⟩
   ·exact n4 _ _ _ hc
   ·have:=hR.own_lt hs' b hb;rw[Be];simp;omega
 rcases hs3 with ⟨ad,ad',hV,hv,hz⟩ | ⟨b0,off0,m0,cap0,o,c,hV,hv,hle,hcase⟩
 ·exact nothing ad' hv (by omega)
 by_cases hc00:c=0
 ·subst hc00;have e0:Hn A.xs.length rg-yT rg=0:=by omega
  exact nothing _ (by rw[hv,e0]) e0
 ·rcases hocase with ⟨_,h1,_,_⟩ | ⟨b1,off1,cap1,cur,ct,fz,h1,h2,h3,h4,h5,h6,h7,h8⟩
  ·rw[h1]at hV;cases hV;have:=(hcase.resolve_right (λh=>hc00 h.1)).2;omega
  ·rw[h1]at hV;cases hV;have hoc:o+c*A.t.size<=cur.size:=by
    rcases hcase with ⟨ho,hcap⟩ | ⟨hc0,ho⟩
    ·have:(yT rg+c)*A.t.size<=cap0*A.t.size:=cV _ hcap;rw[gE]at this;omega
    ·rw[hc0,aCw];omega
   have hold:∀j v,(Ay rg ocss).flatten[j]? = some v->cur[o+j]? = some v:=by
    intro j v hj;have hjl:j<(Ay rg A.xs).length*A.t.size:=by rw[<- m3];exact(dQ.1 hj).1
    have hne:c≠0:=by
     intro hc0;rw[hlenrg]at hjl;have:Hn A.xs.length rg-yT rg=0:=by omega
     rw[this,aCw]at hjl;omega
    obtain⟨ho,hcap⟩:=hcase.resolve_right (λh=>hne h.1);cases rg with
    | none =>
     have:=h8 j v hj;rw[ho];simpa [yT] using this
    | some q =>
     obtain⟨lo,hi'⟩:=q;have hl:=horow.lens;have hpre:(ocss.take lo).flatten.length=lo*A.t.size:=by
      have:=(horow.take lo).len.2.2;rw[this,bW]
      congr 1
      simp only[yT,Hn]at hs1 hs2;omega
     have hfl:ocss.flatten[lo*A.t.size+j]? = some v:=by
      have hsplit:ocss=(ocss.take lo++(ocss.take hi').drop lo)++ocss.drop hi':=by
       have e1:ocss.take lo=(ocss.take hi').take lo:=by
        rw[YI];congr 1;simp only[yT,Hn]at hs1;omega
       rw[e1,fH,fH]
      rw[hsplit,uH,uH,bZ,cO (by omega),hpre,lV];have hj':((ocss.take hi').drop lo).flatten[j]? = some v:=hj;rw[b7 (dQ.1 hj').1];exact hj'
     have:=h8 _ v hfl;rw[ho];simp only[yT]
     rwa [<- fY]at this
   have hblt:b0<w.heap.size:=hR.own_lt hA b0 (by rw[h7];exact aR ..);have hbown:b0∈own r:=by rw[h7];exact aR ..
   have hcells:∀w':World,w'.heap=w.heap->lD w' b0 o (Ay rg ocss).flatten:=λw' hw' j v hj=>by
    simp only[gW, hw',h5];exact hold j v hj
   obtain⟨v',w',hrun,hcase'⟩:=Bq (P:=P) (w:=w) (T:=T) (T2:=T2) (ty:=ty) (adr:=some ⟨b0,o,none⟩) (len:=(Ay rg A.xs).length) (cap:=c) (olds:=(Ay rg ocss).flatten) hu hd1 hd2 hi he hsz hfc hlen
    (λw' hw'=>oH m3 (hcells w' hw')) m3 l3 hone (by rw[hbi];exact hc.1) hml (.inr ⟨b0,o,cur,ct,fz,rfl,h5,h6,hoc⟩)
   rw[hv, <- hlenrg];rcases hcase' with ⟨hroom,hcase'⟩ | ⟨hlt,nc,rest,rfl,hnc1,hnc2,rfl,hlr⟩
   ·rcases hcase' with ⟨hh,_⟩ | ⟨_,b2,o2,cur2,ct2,fz2,cur',hh,g1,g2,g3,rfl,g4,g5,g6⟩
    ·exact absurd hh hc00
    ·cases hh;rw[h5]at g1;cases g1;replace g5:cur'.toList=fX cur.toList (o+(Ay rg A.xs).length*A.t.size) css.flatten:=g5;obtain⟨nb,hnrow,hnflat⟩:=hcast w';have hnl:(Ay rg ocss).flatten.length+css.flatten.length<=c*A.t.size:=by
      rw[m3,l3, <- gE];exact cV _ hroom
     have hcs:cur'.size=cur.size:=by
      have hsl:=nF (cs:=cur.toList) (c:=css.flatten) (o:=o+(Ay rg A.xs).length*A.t.size) (by have hcl:cur.toList.length=cur.size:=eN;omega);have:=congrArg aF g5;rw[hsl]at this;simpa using this
     have hget':∀j v,(Ay rg ocss++css).flatten[j]? = some v->cur'[o+j]? = some v:=by
      intro j v hj;rw[<- eF,g5,fX];rw[uH]at hj;by_cases hjl:j<(Ay rg ocss).flatten.length
      ·rw[b7 hjl]at hj;rw[bZ,b7 (by simp only[bW,eN];omega),kY,π (by omega),eF];exact hold j v hj
      ·rw[cO (by omega)]at hj;have hj2:=(dQ.1 hj).1;rw[bZ,cO (by simp only[bW,eN];omega)];have e9:o+j-(cur.toList.take (o+(Ay rg A.xs).length*A.t.size)).length=j-(Ay rg ocss).flatten.length:=by
        simp only[bW,eN];omega
       rw[e9,b7 hj2];exact hj
     have hnlen:(Ay rg A.xs++q9 rfl ys).length=(Ay rg A.xs).length+ys.length:=by rw[aU];rfl
     have hent':=tD hnrow (b:=b0) (off:=o) (cap:=c) (cur:=cur') (ty:=ct) (fz:=fz) (by rw[hnlen];exact hml) (by rw[hnlen];exact hroom) (by
      rcases hcase with ⟨ho,hcap⟩ | ⟨hc0,ho⟩
      ·omega
      ·omega) (by rw[hcs];exact hoc) g4 (by rw[hcs];exact h6) hget'
     rw[hnflat,hnlen]at hent';have hent'':iS w0 G w' ⟨A.t,Ay rg A.xs++q9 rfl ys,bo,none,none⟩ (.slice (some ⟨b0,o,none⟩) ((Ay rg A.xs).length+ys.length) c) [b0]:=hent';refine⟨_,_,_,_,hrun,hR.replace ?_ g6.size hA (λc hc hco=>g6.block c hc ?_) rfl rfl hent'' (by simp) (by simp;exact hbg b0 hbown) (λs C hs' hsr b hb=>?_),K0 (w0:=w0) (G:=G) (wY hA rfl) (fC _ _ _) hent''⟩
     ·refine⟨g6.os.trans hR.kept.os,g6.tape.trans hR.kept.tape,g6.output.trans hR.kept.output,dV hR.kept.size g6.size,λk hk hkO=>?_⟩;rw[g6.block k (cZ hk hR.kept.size) (by simp;exact λe=>(hbg b0 hbown).1 (e ▸ ⟨hk,hkO⟩))];exact hR.kept.block k hk hkO
     ·simp;exact λe=>hco (e ▸ hbown)
     ·simp;exact λe=>hbnot s C hs' hsr b hb (e ▸ hbown)
   ·obtain⟨nb,hnrow,hnflat⟩:=hcast (w.drew.alloc (.cells ((Ay rg ocss++css).flatten++rest).toArray e));rw[<- uH]at hrun hlr;have hnlen:(Ay rg A.xs++q9 rfl ys).length=(Ay rg A.xs).length+ys.length:=by rw[aU];rfl
    have hent':=Ny (w:=w.drew) (sm:=none) (ty:=e) (cap:=nc) hnrow hnflat (by rw[hnlen];exact hnc1) hnc2 (by rw[hlr];exact aT _);rw[hnlen]at hent';refine⟨_,_,_,_,hrun,hR.replace (hR.kept.drew.alloc _) (by simp[aGU,Be]) hA (λc hc _=>?_) rfl rfl hent' (by simp) (by rw[Be];intro b hb;simp at hb;subst hb;exact hR.out_new (aT _)) (λs C hs' _ b hb=>?_),K0 (w0:=w0) (G:=G) (wY hA rfl) (fC _ _ _) hent'⟩
    ·exact n4 _ _ _ hc
    ·have:=hR.own_lt hs' b hb;rw[Be];simp;omega
theorem aEE{tab:Γ TI}(hT:kZ P tab)(hR:bQ n K w0 G w a E L V own){T T2 ty:TypeId}{s x:Operand}{cs:Γ Prop}{pv:PV}{E':gK}{L':bM}(h:aX4 tab E L T T2 (opnd E s) (opnd E x)=some (cs,pv,E',L'))(hc:iD cs) :
  ∃v w' V' own',(gN #[T,T2] ty #[a.eval s,a.eval x]).run P w = .ok v w'/\bQ n K w0 G w' a E' L' V' own'/\mS w0 G L' V' pv v:=by
 unfold aX4 at h;split at h
 ·rename_i S X hs hx;split at h
  ·rename_i e t by' ht
   split at h
   ·rename_i ys hck hsrc;simp at hck;obtain⟨hsz,hby1⟩:=hck;have hS:=hT T;rw[ht]at hS;obtain⟨_,hu,he,hby⟩:=hS;obtain⟨i,hi,hbi⟩:∃i,P.info? e=some i/\i.bytes=by':=by
     simp_all
    obtain⟨d,css,bss,hd1,hd2,hb0,hrow,hfc,hlen⟩:=aLW hT hR hx hsrc;obtain⟨l1,l2,l3⟩:=(hrow w true (.inr rfl)).len;have hone:=(hrow w true (.inr rfl)).one (λy c b h=>aOw h);split at h
    ·cases h;obtain⟨e1,e2⟩:=hR.valEq hs;obtain⟨e3,e4⟩:=e2;subst e3 e4;obtain⟨v,w',V',own',g1,g2,g3⟩:=append_nil hT hR hu hd1 hd2 hi hbi he hsz hby1 hb0 (bo := !t.flat) (λw1=>hrow w1 _ (by lia)) hfc hlen l3 hone hc.1 e1;exact⟨v,w',V',own',g1,g2.1,g3⟩
    ·split at h
     ·rename_i A hA;split at h
      ·rename_i hte;subst hte;split at h
       ·rename_i hok;cases h;refine aIb hT hR hu hd1 hd2 hi hbi he (bo:=A.bor || !A.t.flat) (λw1 y c b hy hh=>?_) hsz hby1 hb0 (λw1=>hrow w1 _ (by lia)) hfc hlen l3 hone hA hs hc;cases hf:A.t.flat with
        | true=>grind [aLT]
        | false =>
         unfold aV5 at hok;rw[hf]at hok;simp at hok;rcases hok with hb | he
         ·rw[hb]at hh ⊢;exact⟨hh.1,rfl⟩
         grind
       lia
      lia
     lia
    lia
   lia
  lia
 lia
end
section
variable {P:Program} {n:Nat} {K:gU} {G:Nat->Prop} {w0 w:World} {a:Act} {E:gK} {L:bM} {V:Nat->Value} {own:Nat->Γ Nat}
end
end Go.Am
