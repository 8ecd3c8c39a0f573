/- The functions that this law reaches, and their laws. -/
import Derived.Test.YtgfpjekjhnkbfaaGreatDoorZ3C
import Derived.Lib.TrimByte
set_option linter.unusedVariables false
set_option linter.unusedSimpArgs false
set_option linter.defProp false
open Array renaming length_toList->eN,mk->aHt,size_push->Av,toList->cE
open Bool renaming false_eq_true->fU,not_true->u0
open ByteArray renaming data->bO,empty->aC,extract->aN,mk->aA,size->aG,size_append->bD,toList->aB
open False renaming elim->aH
open Go.Am renaming Good->fW
open Go.Am.dE renaming ptr->rD,st->nD
open Go.Am.aS renaming mk->aJ
open Go.Am.cQ renaming of_below->iO,refl->dD
open Go.Am.PV renaming fn->o9,tup->gI
open Go.Am.Ty renaming int->mJ,size->kS,str->kM
open Go.Builtin renaming append_->gN,firstCells->eA
open Go.Instr renaming alloc->Ju,loadAt->tL,storeAt->AC,sureAddr->n5
open Go.Lib renaming BuilderAtF->KM,IsBuilderF->x7,cell_of_heap->tU,decDigits->bN,extract_mk->pU,itoa->Cd,joinTail->iY,strCells->gM,strCells_length->uI,trimRightB->fE
open Go.Op renaming bytesLess->bK
open Go.Proofs.Tryz renaming func11->aHn,func118->aDQ,func186->aDA,func187->aDF,func190->aDL,func191->aDM,func198->aDR,func202->aDO,func204->aDP,func205->aDN,func252->HF,func291->aD2,func292->aD4,func294->aD9,func295->aDD,func296->aDB,func297->aDE,func298->aDG,func302->aDK,func316->aDS,func317->aDT,func335->qY,func363->aDy,func364->aDz,func365->aD0,func370->aD1,func373->aD3,func377->aD5,func379->aD8,func382->HL,func41->aHv,func412->HJ,func42->aHu,func424->aD6,func427->aDC,func433->aDJ,func434->aDI,func436->aDH,func457->aD7,func460->HO,func461->HM,func5->aKa,func6->aKb,func81->aHo,func82->aHp,func83->aHq,func85->aHr,func86->aHs,ntmps382->Lk,prog->aL,underlying25->oS
open Go.Result renaming andThen_ok->bL
open Go.Sem renaming run_bind->c8,run_pure->dW
open Go.Value renaming oneCell'->Y3,ownBlock->KI,string->hJ
open Go.World renaming cell?->gW,cell?_alloc_new->Hr,cell?_of_block->fM,setCell->uW
open Int renaming le_refl->dO,le_trans->B7,tdiv->aP,tmod->cP,tmod_eq_emod_of_nonneg->gR,toNat->aE,toNat_natCast->aI
open List renaming append_assoc->bZ,append_nil->cK,drop->aY,drop_eq_nil_of_le->bT,drop_of_length_le->gC,foldl_cons->fR,getD->aD,getD_eq_getElem?_getD->bC,getElem?_append_left->b7,getElem?_append_right->cO,getElem?_eq_getElem->aX,getElem?_eq_none->iG,getElem?_eq_some_iff->dQ,getElem?_map->jH,getElem?_set->D4,length->aF,length_append->aU,length_cons->cL,length_map->cM,length_reverse->LD,length_set->iR,length_singleton->bP,length_take->bW,map->A5,map_cons->dG,map_nil->tQ,map_toArray->FX,mem_append->cY,mem_append_left->dA,mem_append_right->dC,mem_cons->aW,mem_cons_of_mem->aM,mem_cons_self->aR,mem_map->dK,mem_nil_iff->dH,mem_singleton->dU,not_any_eq_all_not->pV,replicate->aQ,set->fF,size_toArray->eH,take->aZ,take_add_one->eG,take_length->jT,take_of_length_le->cW,toArray->qT,zipWith->tS
open Nat renaming le_refl->aT,le_trans->dV,lt_of_lt_of_le->cZ,lt_or_ge->kJ,mul_one->Jv,pow_le_pow_right->lO,pow_succ->BY,sub_self->BT,zero_add->bX,zero_le->bG
open UInt8 renaming ofNat->jU,toNat->cR,toNat_inj->jL,toNat_ofNat'->qZ
set_option maxRecDepth 100000
namespace Go.Proofs.YtgfpjekjhnkbfaaGreatDoor
open Go Go.Am Go.Proofs
noncomputable section
def M2(x0:Int×Int×Int×Int×Unit)(x1:Bool):Int:=if !Bw x0 then 1 else if !x1 then 2 else 0
def bFY:KK:=mB Tryz.func356 [.v YA3,.v (.bool)] [.int .i64] [aXI] nP (M2,()) λ_=>bS<|fP pr<|fP pr pr
def aTq(x0:Int×Int×Int×Int×Unit)(x1:Int):Prop:=if M2 x0 (JB x1) != 0 then True else bA .i64 (1000*x0.2.2.2.1)/\x1≠0/\bA .i64 (aP (1000*x0.2.2.2.1) x1)/\True
def Qf(x0:Int×Int×Int×Int×Unit)(x1:Int):Int:=if M2 x0 (JB x1) != 0 then 0 else aP (1000*x0.2.2.2.1) x1
def Vp(x0:Int×Int×Int×Int×Unit)(x1:Int):Int:=if M2 x0 (JB x1) != 0 then M2 x0 (JB x1)else 0
def bFZ:KK:=mB Tryz.func287 [.v YA3,.v (.int .i64)] [.int .i64,.int .i64] [bFX,bFY] aTq (Qf,Vp,()) λ_=>bS<|bS<|dP pr<|aO<|eE pr
def Qg(x0:Int):Bool:=bH x0 (-1000000) 1000000
def bGa:KK:=mB Tryz.func359 [.v (.int .i64)] [.bool] [lH] nP (Qg,()) λ_=>bS pr
def Ad(x0:c7)(x1:Bool):Int:=if !yK x0 then 1 else if !x1 then 2 else 0
def bGb:KK:=mB Tryz.func358 [.v dX,.v (.bool)] [.int .i64] [aXJ] nP (Ad,()) λ_=>bS<|fP pr<|fP pr pr
def bGc(x0:Int)(x1:Int):Prop:=((bA .i64 (x0+x1))/\((bA .i64 (x0+x1-1))/\((x1≠0)/\(bA .i64 (aP (x0+x1-1) x1))/\True)))
def aBy(x0:Int)(x1:Int):Int:=aP (x0+x1-1) x1
def bGd:KK:=mB Tryz.func415 [.v (.int .i64),.v (.int .i64)] [.int .i64] [] bGc (aBy,()) λ_=>aO<|aO<|eE pr
def aPx(x0:c7)(x1:Int)(x2:Int):Prop:=((bA .i64 (x1*x2))/\((bA .i64 (aP (x1*x2) 1000))/\(if decide (aP (x1*x2) 1000>0)=true then((bA .i64 (1000*aP (x1*x2) 1000))/\((bA .i64 (1000-x0.2.2.1))/\((bGc (1000*aP (x1*x2) 1000) (1000-x0.2.2.1))/\True)))else((bA .i64 (0-aP (x1*x2) 1000))/\((bA .i64 (1000-x0.2.2.1))/\((bA .i64 ((0-aP (x1*x2) 1000)*(1000-x0.2.2.1)))/\((bA .i64 (aP ((0-aP (x1*x2) 1000)*(1000-x0.2.2.1)) 1000))/\((bA .i64 (0-aP ((0-aP (x1*x2) 1000)*(1000-x0.2.2.1)) 1000))/\True))))))))
def M3(x0:c7)(x1:Int)(x2:Int):Int:=if decide (aP (x1*x2) 1000>0)then aBy (1000*aP (x1*x2) 1000) (1000-x0.2.2.1)else 0-aP ((0-aP (x1*x2) 1000)*(1000-x0.2.2.1)) 1000
def aWk:KK:=mB Tryz.func361 [.v dX,.v (.int .i64),.v (.int .i64)] [.int .i64] [bGd] aPx (M3,()) λ_=>aO<|pw 1000<|aO<|tH (aO<|aO<|aO pr)<|aO<|aO<|aO<|pw 1000<|aO<|aO pr
def aTr(x0:c7)(x1:Int)(x2:Int):Prop:=if decide (x1<=x0.2.1)then aPx x0 x1 x2/\True else True
def Dt(x0:c7)(x1:Int)(x2:Int):Bool:=if decide (x1<=x0.2.1)then decide (M3 x0 x1 x2<=x0.1)else false
def bGe:KK:=mB Tryz.func360 [.v dX,.v (.int .i64),.v (.int .i64)] [.bool] [aWk] aTr (Dt,()) λ_=>tH (aO pr) pr
def aTs(x0:c7)(x1:Int)(x2:Int):Prop:=if Qg x1 then(if Ad x0 (Fp x2) != 0 then True else aTr x0 x1 x2/\if !Dt x0 x1 x2 then True else aPx x0 x1 x2/\True)else if Ad x0 false != 0 then True else aTr x0 x1 x2/\if !Dt x0 x1 x2 then True else aPx x0 x1 x2/\True
def Qh(x0:c7)(x1:Int)(x2:Int):Int:=if Qg x1 then(if Ad x0 (Fp x2) != 0 then 0 else if !Dt x0 x1 x2 then 0 else M3 x0 x1 x2)else if Ad x0 false != 0 then 0 else if !Dt x0 x1 x2 then 0 else M3 x0 x1 x2
def Vq(x0:c7)(x1:Int)(x2:Int):Int:=if Qg x1 then(if Ad x0 (Fp x2) != 0 then Ad x0 (Fp x2)else if !Dt x0 x1 x2 then 6 else 0)else if Ad x0 false != 0 then Ad x0 false else if !Dt x0 x1 x2 then 6 else 0
def bGf:KK:=mB Tryz.func288 [.v dX,.v (.int .i64),.v (.int .i64)] [.int .i64,.int .i64] [bGa,aVH,bGb,bGe,aWk] aTs (Qh,Vq,()) λ_=>bS<|dP (bS<|bS<|dP pr<|aO<|dP pr<|aO pr)<|bS<|dP pr<|aO<|dP pr<|aO pr
def aPy(x0:Int):Bool:=bH x0 (-1000000000) 1000000000
def bGg:KK:=mB Tryz.func417 [.v (.int .i64)] [.bool] [lH] nP (aPy,()) λ_=>bS pr
def JC(x0:Int):Bool := !aPy x0
def aWl:KK:=mB Tryz.func416 [.v (.int .i64)] [.bool] [bGg] nP (JC,()) λ_=>bS pr
def Vr:jB:=D0 qY [.v (.sl Jy),.fn 416 []] [.int .i64] [aWl]
def aIO(ds:Γ aS)(K:gU)(q:Nat->Value):∀n,(∀ {x0},RI0 JC 0 n x0 ds->St Vr (x0,(),()) ds [] K q)/\(∀ {v8 x0},RI JC 0 n v8 x0 ds->Cu Vr 2 ([eL 0 (.int .i64) x0,(1,o9 416 []),eI 7 (x0.length:Int),eI 8 v8],[]) ds [] K q):=nI ⟨aH,aH⟩ λn ⟨i,i2⟩=>⟨cX i2,
  bU (eE<|bS<|bU dR<|aO<|cX i2) dR⟩
def M4(x0:Γ (Int)):Int:=idx (x0.findIdx? JC)
def aML:KK:=mL Vr (DO qY) nP (M4,()) (λ⟨x0,_⟩ h hwf K q =>
 (aIO _ K q _).1 (VJ hwf.1.1))
theorem Vs(x0:Γ (Int)):decide (M4 x0>=0)=x0.any JC:=VK
def GD(x0:Γ Int):Bool:=decide (M4 x0>=0)
def aMM:KK:=mB HF [.v (.sl Jy),.fn 416 []] [.bool] [aML,aWl] nP (GD,()) λ_=>bS pr
def JD(x0:Γ Int)(x1:Int):Bool:=if decide ((x0.length:Int)>=x1)then(if decide ((x0.length:Int)<=32)then !GD x0 else false)else false
def bGh:KK:=mB Tryz.func362 [.v (.sl Jy),.v (.int .i64)] [.bool] [aMM] nP (JD,()) λ_=>fP (fP (bS pr) pr)<|dN pr
def aTt:jB:=D0 aDy [.v (.sl Jy),.v (.int .i64)] [.sl Jy] [aWj]
mutual
def aZg:Nat->Γ Int->Int->Γ aS->Prop
 | 0,_,_,_=>False
 | n+1,x0,x1,ds=>M5 n 0 ([]) x0 x1 ds
def M5:Nat->Int->Γ Int->Γ Int->Int->Γ aS->Prop
 | 0,_,_,_,_,_=>False
 | n+1,v13,h0,x0,x1,ds=>if decide (v13<(x0.length:Int))then 0<=v13/\v13<(x0.length:Int)/\M6 n 0 0 x0 x1 v13 h0 ds else ds=[aJ (.sl Jy) h0]
def M6:Nat->Int->Int->Γ Int->Int->Int->Γ Int->Γ aS->Prop
 | 0,_,_,_,_,_,_,_=>False
 | n+1,v8,v19,x0,x1,v13,h0,ds=>if decide (v19<(x0.length:Int))then 0<=v19/\v19<(x0.length:Int)/\bA .i64 (aD x0 (aE v13) 0-aD x0 (aE v19) 0)/\T1 (aD x0 (aE v13) 0-aD x0 (aE v19) 0)/\if decide (mX (aD x0 (aE v13) 0-aD x0 (aE v19) 0)<=x1)then bA .i64 (v8+1)/\bA .i64 (v19+1)/\M6 n (v8+1) (v19+1) x0 x1 v13 h0 ds else bA .i64 (v19+1)/\M6 n v8 (v19+1) x0 x1 v13 h0 ds else(aF h0+1)*8<=140737488355328/\bA .i64 (v13+1)/\M5 n (v13+1) (h0++[v8]) x0 x1 ds
end
def aZh(ds:Γ aS)(K:gU)(q:Nat->Value):∀n,(∀ {x0 x1},aZg n x0 x1 ds->St aTt (x0,x1,()) ds [] K q)/\(∀ {v13 h0 x0 x1},M5 n v13 h0 x0 x1 ds->Cu aTt 3 ([eL 0 (.int .i64) x0,eI 1 x1,eW 5 0,eL 11 (.int .i64) x0,eI 12 (x0.length:Int),eI 13 v13],[cN (.int .i64) h0]) ds [] K q)/\(∀ {v8 v19 x0 x1 v13 h0},M6 n v8 v19 x0 x1 v13 h0 ds->Cu aTt 7 ([eL 0 (.int .i64) x0,eI 1 x1,eW 5 0,eI 7 (aD x0 (aE v13) 0),eI 8 v8,eL 11 (.int .i64) x0,eI 12 (x0.length:Int),eI 13 v13,eL 17 (.int .i64) x0,eI 18 (x0.length:Int),eI 19 v19],[cN (.int .i64) h0]) ds [] K q):=nI ⟨aH,aH,aH⟩ λn ⟨i,i3,i7⟩=>⟨Dl [(5,.int .i64)] i3,
  bU (eE<|cX i7) dR,
  bU (eE<|aO<|aO<|bU (aO<|aO<|cX i7)<|aO<|cX i7)<|aO<|aO<|Dl [(5,.int .i64)] i3⟩
def Ae(a x1:Int)(l:Γ Int):Nat:=(l.filter λb=>decide (mX (a-b)<=x1)).length
def kE(x0:Γ Int)(x1:Int):Γ Int:=x0.map λa=>(Ae a x1 x0:Int)
def aPz(x0:Γ Int)(x1:Int):Prop:=x0.length<=1000000/\∀x∈x0, -1000000000<=x/\x<=1000000000
def aZi{x:Int}(h1 : -9000000000<=x)(h2:x<=9000000000):T1 x:=by
 unfold T1;split
 ·exact⟨by grind [aK],trivial⟩
 lia
def aP0(x0:Γ Int)(x1:Int)(h:aPz x0 x1)(v13:Nat)(hv:v13<x0.length)(h0:Γ Int)(ds:Γ aS)(n:Nat):∀(k j:Nat) (c:Nat),j+k=x0.length->c<=j->(M5 n ((v13:Int)+1) (h0++[((c+Ae (x0.getD v13 0) x1 (x0.drop j):Nat):Int)]) x0 x1 ds)->h0.length<=1000000->M6 (n+k+1) (c:Int) (j:Int) x0 x1 (v13:Int) h0 ds:=by
 obtain⟨hl,hb⟩:=h;have ha:=hb _ (bY x0 v13 0 hv);intro k
 induction k with
 | zero =>
  intro j c hj hc hr hh;rw[bT (by lia)]at hr;rw[M6,ν (by lia)];exact⟨by lia,by grind [aK],hr⟩
 | succ k ih =>
  intro j c hj hc hr hh;have hlt:j<x0.length:=by lia
  have hx:=hb _ (bY x0 j 0 hlt);have e3:(j:Int)+1=((j+1:Nat):Int):=by lia
  have e4:(c:Int)+1=((c+1:Nat):Int):=by lia
  rw[eD x0 j 0 hlt]at hr;rw[M6,π (by lia),aI,aI];refine⟨by lia,by lia,by grind [aK],aZi (by lia) (by lia),?_⟩;unfold Ae at hr ih;rw[List.filter_cons]at hr;by_cases d:decide (mX (x0.getD v13 0-x0.getD j 0)<=x1)=true
  ·rw[π d,cL]at hr;exact(π d).mpr ⟨by grind [aK],by grind [aK],ih (j+1) (c+1) (by lia) (by lia) (by lia) hh⟩
  ·rw[ν d]at hr;exact(ν d).mpr ⟨by grind [aK],ih (j+1) c (by lia) (by lia) hr hh⟩
def aP1(x0:Γ Int)(x1:Int)(h:aPz x0 x1):∀(k i:Nat) (h0:Γ Int),i+k=x0.length->h0.length=i->∃n,M5 n (i:Int) h0 x0 x1 [⟨.sl Jy,h0++(x0.drop i).map λa=>(Ae a x1 x0:Int)⟩]:=by
 intro k
 induction k with
 | zero =>
  intro i h0 hi hh;refine⟨1,?_⟩;rw[M5,ν (by lia),bT (by lia),tQ,cK]
 | succ k ih =>
  intro i h0 hi hh;have hlt:i<x0.length:=by lia
  have hl:=h.1;obtain⟨n,hn⟩:=ih (i+1) (h0++[((0+Ae (x0.getD i 0) x1 (x0.drop 0):Nat):Int)]) (by lia) (by grind);refine⟨n+x0.length+1+1,?_⟩;rw[M5,eD x0 i 0 hlt];have:=aP0 x0 x1 h i hlt h0 [⟨.sl Jy,h0++(x0.getD i 0::x0.drop (i+1)).map λa=>(Ae a x1 x0:Int)⟩] n x0.length 0 0 (by lia) (aT _) (by
   grind) (by lia)
  lia
def aZj(x0:Γ Int)(x1:Int)(h:aPz x0 x1):∃n,aZg n x0 x1 [⟨.sl Jy,kE x0 x1⟩]:=by
 obtain⟨n,hn⟩:=aP1 x0 x1 h x0.length 0 [] (by omega) rfl;exact⟨n+1,by rw[aZg];exact hn⟩
def bGi:KK:=mL aTt (DO aDy) aPz (kE,()) (λ⟨x0,x1,_⟩ h hwf K q =>
 let ⟨n,hn⟩:=aZj x0 x1 h
 (aZh _ K q n).1 hn)
def aZk:jB:=D0 aDz [.v (.sl Jy)] [.int .i64] []
mutual
def aZl:Nat->Γ Int->Γ aS->Prop
 | 0,_,_=>False
 | n+1,x0,ds=>decide ((x0.length:Int)<1)=false/\0<(x0.length:Int)/\Qi n (aD x0 0 0) 1 x0 ds
def Qi:Nat->Int->Int->Γ Int->Γ aS->Prop
 | 0,_,_,_,_=>False
 | n+1,v3,v4,x0,ds=>if decide (v4<(x0.length:Int))then 0<=v4/\v4<(x0.length:Int)/\bA .i64 (v4+1)/\Qi n (if v3<aD x0 (aE v4) 0 then aD x0 (aE v4) 0 else v3) (v4+1) x0 ds else ds=[aJ (.int .i64) v3]
end
def aZm(ds:Γ aS)(K:gU)(q:Nat->Value):∀n,(∀ {x0},aZl n x0 ds->St aZk (x0,()) ds [] K q)/\(∀ {v3 v4 x0},Qi n v3 v4 x0 ds->Cu aZk 5 ([eL 0 (.int .i64) x0,eI 3 v3,eI 4 v4],[]) ds [] K q):=nI ⟨aH,aH⟩ λn ⟨i,i5⟩=>⟨pcF<|pq 0<|aO<|cX i5,
  bU (eE<|aO<|cX i5) dR⟩
def aAb(s y:Int):Int:=if s<y then y else s
def vN(x0:Γ Int):Int:=(x0.drop 1).foldl aAb (x0.getD 0 0)
def bGj(x0:Γ Int):Prop:=1<=x0.length
def aZn(x0:Γ Int)(hm:x0.length<=maxLen):∀(k i:Nat) (s:Int),i+k=x0.length->Qi (k+1) s (i:Int) x0 [⟨.int .i64,(x0.drop i).foldl aAb s⟩]:=by
 intro k
 induction k with
 | zero =>
  intro i s hi;rw[Qi,ν (by simp only[ε];omega),bT (by omega)];rfl
 | succ k ih =>
  intro i s hi;have hlt:i<x0.length:=by omega
  have hu:=jZ hm hlt;have e3:(i:Int)+1=((i+1:Nat):Int):=by omega
  rw[e3]at hu;rw[Qi,π (by simp only[ε];omega),eD x0 i 0 hlt,fR,e3,aI];exact⟨by omega,by omega,hu,ih (i+1) _ (by omega)⟩
def aZo(x0:Γ Int)(hm:x0.length<=maxLen)(h:1<=x0.length):aZl (x0.length-1+1+1) x0 [⟨.int .i64,vN x0⟩]:=by
 rw[aZl];exact⟨by simp only[decide_eq_false_iff_not];omega,by omega,aZn x0 hm (x0.length-1) 1 (x0.getD 0 0) (by omega)⟩
def bGk:KK:=mL aZk (DO aDz) bGj (vN,()) (λ⟨x0,_⟩ h hwf K q =>
 (aZm _ K q _).1 (aZo x0 hwf.1.1 h))
def aZp:jB:=D0 aD0 [.v (.sl Jy),.v (.int .i64)] [.int .i64] []
mutual
def aZq:Nat->Γ Int->Int->Γ aS->Prop
 | 0,_,_,_=>False
 | n+1,x0,x1,ds=>M7 n 0 x0 x1 ds
def M7:Nat->Int->Γ Int->Int->Γ aS->Prop
 | 0,_,_,_,_=>False
 | n+1,v8,x0,x1,ds=>if decide (v8<(x0.length:Int))then 0<=v8/\v8<(x0.length:Int)/\if x1==aD x0 (aE v8) 0 then ds=[aJ (.int .i64) v8] else bA .i64 (v8+1)/\M7 n (v8+1) x0 x1 ds else ds=[aJ (.int .i64) (-1)]
end
def aZr(ds:Γ aS)(K:gU)(q:Nat->Value):∀n,(∀ {x0 x1},aZq n x0 x1 ds->St aZp (x0,x1,()) ds [] K q)/\(∀ {v8 x0 x1},M7 n v8 x0 x1 ds->Cu aZp 2 ([eL 0 (.int .i64) x0,eI 1 x1,eI 7 (x0.length:Int),eI 8 v8],[]) ds [] K q):=nI ⟨aH,aH⟩ λn ⟨i,i2⟩=>⟨cX i2,
  bU (eE<|bU dR<|aO<|cX i2) dR⟩
def Sd(x1:Int)(y:Int):Bool:=x1==y
def GE(x0:Γ Int)(x1:Int):Int:=idx (x0.findIdx? (Sd x1))
def aZs(x0:Γ Int)(x1:Int)(hm:x0.length<=maxLen):aZq (x0.length+1+1) x0 x1 [⟨.int .i64,GE x0 x1⟩]:=by
 rw[aZq];have key:=Er x0 0 (Sd x1) [(⟨.int .i64, -1⟩:aS)] (λk=>[⟨.int .i64,k⟩]) (λn i ds=>M7 n i x0 x1 ds) (λn=>?_) (λn i hi hok ds hr=>?_) (λn i hi hok=>?_)
 ·unfold GE;cases h:x0.findIdx? (Sd x1) <;> rw[h]at key <;> exact key
 ·rw[M7,ν (by simp)]
 ·rw[M7,π (by simp;omega)];simp only[aI];refine⟨by omega,by omega,?_⟩;unfold Sd at hok;rw[ν (by rw[hok];simp)];exact⟨jZ hm hi,hr⟩
 ·rw[M7,π (by simp;omega)];simp only[aI];refine⟨by omega,by omega,?_⟩;unfold Sd at hok;rw[π hok] <;> trivial
def bGl:KK:=mL aZp (DO aD0) nP (GE,()) (λ⟨x0,x1,_⟩ h hwf K q =>
 (aZr _ K q _).1 (aZs x0 x1 hwf.1.1))
def aZt(x0:Γ Int)(x1:Int):Prop:=if !JD x0 3 then True else if !bH x1 0 1000000 then True else aPz x0 x1/\bGj (kE x0 x1)/\bA .i64 (2*vN (kE x0 x1))/\if decide (2*vN (kE x0 x1)<=(x0.length:Int))then True else 0<=GE (kE x0 x1) (vN (kE x0 x1))/\GE (kE x0 x1) (vN (kE x0 x1))<(x0.length:Int)/\True
def GF(x0:Γ Int)(x1:Int):Int:=if !JD x0 3 then 0 else if !bH x1 0 1000000 then 0 else if decide (2*vN (kE x0 x1)<=(x0.length:Int))then 0 else aD x0 (aE (GE (kE x0 x1) (vN (kE x0 x1)))) 0
def JE(x0:Γ Int)(x1:Int):Int:=if !JD x0 3 then 2 else if !bH x1 0 1000000 then 2 else if decide (2*vN (kE x0 x1)<=(x0.length:Int))then 3 else 0
def bGm:KK:=mB Tryz.func289 [.v (.sl Jy),.v (.int .i64)] [.int .i64,.int .i64] [bGh,lH,bGi,bGk,bGl] aZt (GF,JE,()) λ_=>bS<|dP (j0 pr)<|bS<|dP pr<|aO<|aO<|aO<|dP pr<|bS<|eE pr
def aBz(x0:Int):Bool:=bH x0 0 100000
def aWm:KK:=mB Tryz.func420 [.v (.int .i64)] [.bool] [lH] nP (aBz,()) λ_=>bS pr
def GG(x0:Int):Bool := !aBz x0
def aWn:KK:=mB Tryz.func419 [.v (.int .i64)] [.bool] [aWm] nP (GG,()) λ_=>bS pr
def Vt:jB:=D0 qY [.v (.sl Jy),.fn 419 []] [.int .i64] [aWn]
def aIP(ds:Γ aS)(K:gU)(q:Nat->Value):∀n,(∀ {x0},RI0 GG 0 n x0 ds->St Vt (x0,(),()) ds [] K q)/\(∀ {v8 x0},RI GG 0 n v8 x0 ds->Cu Vt 2 ([eL 0 (.int .i64) x0,(1,o9 419 []),eI 7 (x0.length:Int),eI 8 v8],[]) ds [] K q):=nI ⟨aH,aH⟩ λn ⟨i,i2⟩=>⟨cX i2,
  bU (eE<|bS<|bU dR<|aO<|cX i2) dR⟩
def M8(x0:Γ (Int)):Int:=idx (x0.findIdx? GG)
def aMN:KK:=mL Vt (DO qY) nP (M8,()) (λ⟨x0,_⟩ h hwf K q =>
 (aIP _ K q _).1 (VJ hwf.1.1))
theorem Vu(x0:Γ (Int)):decide (M8 x0>=0)=x0.any GG:=VK
def GH(x0:Γ Int):Bool:=decide (M8 x0>=0)
def aMO:KK:=mB HF [.v (.sl Jy),.fn 419 []] [.bool] [aMN,aWn] nP (GH,()) λ_=>bS pr
def JF(x0:Int)(x1:Int)(x2:Γ Int):Bool:=if !GH x2 then(if aBz x0 then bH x1 1 900 else false)else false
def bGn:KK:=mB Tryz.func367 [.v (.int .i64),.v (.int .i64),.v (.sl Jy)] [.bool] [aWm,lH,aMO] nP (JF,()) λ_=>bS<|fP (bS<|fP (bS pr) pr)<|dN pr
def M9(x0:Int):Bool:=bH x0 0 1000000
def bGo:KK:=mB Tryz.func368 [.v (.int .i64)] [.bool] [lH] nP (M9,()) λ_=>bS pr
def zI(x0:Int×Int×Int×Int×Unit)(x1:Bool):Int:=if !xH x0 then 1 else if !x1 then 2 else 0
def bGp:KK:=mB Tryz.func366 [.v YA3,.v (.bool)] [.int .i64] [aXL] nP (zI,()) λ_=>bS<|fP pr<|fP pr pr
def bGq(x0:Int)(x1:Int)(x2:Int)(x3:Int):Prop:=((bA .i64 (x0-x1))/\((bA .i64 (x0-x1-x2))/\((bA .i64 ((x0-x1-x2)*x3))/\((bA .i64 ((x0-x1-x2)*x3*981))/\((Qe ((x0-x1-x2)*x3*981) 100000)/\True)))))
def aIQ(x0:Int)(x1:Int)(x2:Int)(x3:Int):Int:=o6 ((x0-x1-x2)*x3*981) 100000
def bGr:KK:=mB Tryz.func422 [.v (.int .i64),.v (.int .i64),.v (.int .i64),.v (.int .i64)] [.int .i64] [aPv] bGq (aIQ,()) λ_=>aO<|aO<|aO<|aO<|aO pr
def aTu(x0:Int)(x1:Int)(x2:Int)(x3:Int)(x4:Int)(x5:Int):Prop:=((bA .i64 (x1+x0))/\((bGq (x1+x0) x2 x3 x4)/\True))
def Du(x0:Int)(x1:Int)(x2:Int)(x3:Int)(x4:Int)(x5:Int):Bool:=decide (aIQ (x1+x0) x2 x3 x4>=x5)
def bGs:KK:=mB Tryz.func421 [.v (.int .i64),.p (.int .i64),.p (.int .i64),.p (.int .i64),.p (.int .i64),.p (.int .i64)] [.bool] [bGr] aTu (Du,()) λ_=>aO<|aO pr
def Vv:jB:=D0 HJ [.v (.int .i64),.v (.int .i64),.fn 421 [(true,(.int .i64)),(true,(.int .i64)),(true,(.int .i64)),(true,(.int .i64)),(true,(.int .i64))]] [.int .i64] [bGs]
mutual
def Vw:Nat->Int->Int->Int->Int->Int->Int->Int->Γ aS->Prop
 | 0,_,_,_,_,_,_,_,_=>False
 | n+1,x0,x1,x2,x2c,x2cc,x2ccc,x2cccc,ds=>bA .i64 (x1+1)/\sN n (x1+1) x0 x2 x2c x2cc x2ccc x2cccc ds
def sN:Nat->Int->Int->Int->Int->Int->Int->Int->Γ aS->Prop
 | 0,_,_,_,_,_,_,_,_=>False
 | n+1,v7,x0,x2,x2c,x2cc,x2ccc,x2cccc,ds=>if decide (x0<v7)then bA .i64 (x0+v7)/\bA .i64 (aP (x0+v7) 2)/\aTu (aP (x0+v7) 2) x2 x2c x2cc x2ccc x2cccc/\if Du (aP (x0+v7) 2) x2 x2c x2cc x2ccc x2cccc then sN n (aP (x0+v7) 2) x0 x2 x2c x2cc x2ccc x2cccc ds else bA .i64 (aP (x0+v7) 2+1)/\sN n v7 (aP (x0+v7) 2+1) x2 x2c x2cc x2ccc x2cccc ds else ds=[aJ (.int .i64) x0]
end
def aIR(ds:Γ aS)(K:gU)(q:Nat->Value):∀n,(∀ {x0 x1 x2 x2c x2cc x2ccc x2cccc},Vw n x0 x1 x2 x2c x2cc x2ccc x2cccc ds->St Vv (x0,x1,(x2,x2c,x2cc,x2ccc,x2cccc,()),()) ds [] K q)/\(∀ {v7 x0 x2 x2c x2cc x2ccc x2cccc},sN n v7 x0 x2 x2c x2cc x2ccc x2cccc ds->Cu Vv 2 ([eI 0 x0,(2,o9 421 [rD (.int .i64) x2,rD (.int .i64) x2c,rD (.int .i64) x2cc,rD (.int .i64) x2ccc,rD (.int .i64) x2cccc]),eI 7 v7],[]) ds [] K q):=nI ⟨aH,aH⟩ λn ⟨i,i2⟩=>⟨aO<|cX i2,
  bU (aO<|pw 2<|aO<|aO<|bU (cX i2)<|aO<|cX i2) dR⟩
def GI(x0 x1:Int)(y0:Int)(y1:Int)(y2:Int)(y3:Int)(y4:Int):Int:=Nm (λx=>Du x y0 y1 y2 y3 y4) (x1+1-x0).toNat x0 (x1+1)
def Vx(x0 x1:Int)(y0:Int)(y1:Int)(y2:Int)(y3:Int)(y4:Int):Prop:=(0<=x0/\x0<=x1+1/\x1<=1000000000)/\∀v,0<=v->v<=x1->aTu v y0 y1 y2 y3 y4
def aIS(y0:Int)(y1:Int)(y2:Int)(y3:Int)(y4:Int)(e9:Int)(he:e9<=1000000000)(hp:∀v,0<=v->v<=e9->aTu v y0 y1 y2 y3 y4):∀(k:Nat) (lo e:Int),0<=lo->lo<=e->e<=e9+1->e-lo<=(k:Int)->sN (k+1) e lo y0 y1 y2 y3 y4 [⟨.int .i64,Nm (λx=>Du x y0 y1 y2 y3 y4) k lo e⟩]:=by
 intro k
 induction k with
 | zero =>
  intro lo e h0 h1 h2 h3;rw[sN,ν (by simp only[ε];omega)];rfl
 | succ k ih =>
  intro lo e h0 h1 h2 h3;unfold Nm;by_cases hlt:lo<e
  ·obtain⟨m1,m2⟩:=To h0 hlt;rw[sN,π (by simpa using hlt),π hlt];refine⟨by rw[aK];omega,by rw[aK];omega,hp _ (by omega) (by omega),?_⟩;split
   ·exact ih lo _ h0 m1 (by omega) (by omega)
   ·exact⟨by rw[aK];omega,ih _ e (by omega) (by omega) h2 (by omega)⟩
  ·rw[sN,ν (by simpa using hlt),ν hlt]
def aIT(x0 x1:Int)(y0:Int)(y1:Int)(y2:Int)(y3:Int)(y4:Int)(h:Vx x0 x1 y0 y1 y2 y3 y4):Vw ((x1+1-x0).toNat+1+1) x0 x1 y0 y1 y2 y3 y4 [⟨.int .i64,GI x0 x1 y0 y1 y2 y3 y4⟩]:=by
 obtain⟨⟨h1,h2,h3⟩,hp⟩:=h;rw[Vw];exact⟨by rw[aK];omega,aIS y0 y1 y2 y3 y4 x1 h3 hp _ _ _ h1 h2 (by omega) (by omega)⟩
def aMP:KK:=mL Vv (DO HJ) Vx (GI,()) (λ⟨x0,x1,⟨y0,y1,y2,y3,y4,_⟩,_⟩ h hwf K q =>
 (aIR _ K q _).1 (aIT x0 x1 y0 y1 y2 y3 y4 h))
def aTv(x0:Int×Int×Int×Int×Unit)(x1:Int)(x2:Int)(x3:Int)(x4:Int)(x5:Int):Prop:=((Vx 0 x0.1 x1 x2 x3 x4 x5)/\True)
def Af(x0:Int×Int×Int×Int×Unit)(x1:Int)(x2:Int)(x3:Int)(x4:Int)(x5:Int):Int:=GI 0 x0.1 x1 x2 x3 x4 x5
def Qj(x0:Int×Int×Int×Int×Unit)(x1:Int)(x2:Int)(x3:Int)(x4:Int)(x5:Int):Bool:=decide (GI 0 x0.1 x1 x2 x3 x4 x5<=x0.1)
def bGt:KK:=mB Tryz.func369 [.v YA3,.v (.int .i64),.v (.int .i64),.v (.int .i64),.v (.int .i64),.v (.int .i64)] [.int .i64,.bool] [aMP] aTv (Af,Qj,()) λ_=>aO pr
def aTw(x0:Int×Int×Int×Int×Unit)(x1:Int)(x2:Int)(x3:Int)(x4:Int)(x5:Int):Prop:=if JF x3 x4 [x1,x2] then(if zI x0 (M9 x5) != 0 then True else aTv x0 x1 x2 x3 x4 x5/\True)else if zI x0 false != 0 then True else aTv x0 x1 x2 x3 x4 x5/\True
def Qk(x0:Int×Int×Int×Int×Unit)(x1:Int)(x2:Int)(x3:Int)(x4:Int)(x5:Int):Int:=if JF x3 x4 [x1,x2] then(if zI x0 (M9 x5) != 0 then 0 else if !Qj x0 x1 x2 x3 x4 x5 then 0 else Af x0 x1 x2 x3 x4 x5)else if zI x0 false != 0 then 0 else if !Qj x0 x1 x2 x3 x4 x5 then 0 else Af x0 x1 x2 x3 x4 x5
def Vy(x0:Int×Int×Int×Int×Unit)(x1:Int)(x2:Int)(x3:Int)(x4:Int)(x5:Int):Int:=if JF x3 x4 [x1,x2] then(if zI x0 (M9 x5) != 0 then zI x0 (M9 x5)else if !Qj x0 x1 x2 x3 x4 x5 then 3 else 0)else if zI x0 false != 0 then zI x0 false else if !Qj x0 x1 x2 x3 x4 x5 then 3 else 0
def bGu:KK:=mB Tryz.func290 [.v YA3,.v (.int .i64),.v (.int .i64),.v (.int .i64),.v (.int .i64),.v (.int .i64)] [.int .i64,.int .i64] [bGn,bGo,bGp,bGt] aTw (Qk,Vy,()) λ_=>bS<|dP (bS<|bS<|dP pr<|aO<|vD pr pr)<|bS<|dP pr<|aO<|vD pr pr
def aIU(x0:bV)(x1:Δ×Δ×Γ Int×Γ Int×Unit):Prop:=if aB x1.1==aB (aA #[115,108,111,119,101,115,116])then 0<(x1.2.2.1.length:Int)/\aPw x0.1 (aD x1.2.2.1 0 0)/\True else if aB x1.1==aB (aA #[114,101,115,101,114,118,101])then 0<(x1.2.2.1.length:Int)/\aTq x0.2.1 (aD x1.2.2.1 0 0)/\True else if aB x1.1==aB (aA #[112,111,119,101,114])then 0<(x1.2.2.1.length:Int)/\1<(x1.2.2.1.length:Int)/\aTs x0.2.2.2.2.1 (aD x1.2.2.1 0 0) (aD x1.2.2.1 1 0)/\True else if aB x1.1==aB (aA #[118,111,116,101])then 0<(x1.2.2.1.length:Int)/\aZt x1.2.2.2.1 (aD x1.2.2.1 0 0)/\True else 0<(x1.2.2.1.length:Int)/\1<(x1.2.2.1.length:Int)/\2<(x1.2.2.1.length:Int)/\3<(x1.2.2.1.length:Int)/\4<(x1.2.2.1.length:Int)/\aTw x0.2.2.2.2.2.2.2.1 (aD x1.2.2.1 0 0) (aD x1.2.2.1 1 0) (aD x1.2.2.1 2 0) (aD x1.2.2.1 3 0) (aD x1.2.2.1 4 0)/\True
def sO(x0:bV)(x1:Δ×Δ×Γ Int×Γ Int×Unit):Int:=if aB x1.1==aB (aA #[115,108,111,119,101,115,116])then GC x0.1 (aD x1.2.2.1 0 0)else if aB x1.1==aB (aA #[114,101,115,101,114,118,101])then Qf x0.2.1 (aD x1.2.2.1 0 0)else if aB x1.1==aB (aA #[112,111,119,101,114])then Qh x0.2.2.2.2.1 (aD x1.2.2.1 0 0) (aD x1.2.2.1 1 0)else if aB x1.1==aB (aA #[118,111,116,101])then GF x1.2.2.2.1 (aD x1.2.2.1 0 0)else Qk x0.2.2.2.2.2.2.2.1 (aD x1.2.2.1 0 0) (aD x1.2.2.1 1 0) (aD x1.2.2.1 2 0) (aD x1.2.2.1 3 0) (aD x1.2.2.1 4 0)
def CJ(x0:bV)(x1:Δ×Δ×Γ Int×Γ Int×Unit):Int:=if aB x1.1==aB (aA #[115,108,111,119,101,115,116])then M1 x0.1 (aD x1.2.2.1 0 0)else if aB x1.1==aB (aA #[114,101,115,101,114,118,101])then Vp x0.2.1 (aD x1.2.2.1 0 0)else if aB x1.1==aB (aA #[112,111,119,101,114])then Vq x0.2.2.2.2.1 (aD x1.2.2.1 0 0) (aD x1.2.2.1 1 0)else if aB x1.1==aB (aA #[118,111,116,101])then JE x1.2.2.2.1 (aD x1.2.2.1 0 0)else Vy x0.2.2.2.2.2.2.2.1 (aD x1.2.2.1 0 0) (aD x1.2.2.1 1 0) (aD x1.2.2.1 2 0) (aD x1.2.2.1 3 0) (aD x1.2.2.1 4 0)
def bGv:KK:=mB Tryz.func185 [.p iU,.v K4] [.int .i64,.int .i64] [bFW,bFZ,bGf,bGm,bGu] aIU (sO,CJ,()) λ_=>dP (pq 0<|aO<|aO pr)<|dP (pq 0<|aO<|aO pr)<|dP (pq 0<|aO<|pq 1<|aO<|aO pr)<|dP (pq 0<|aO<|aO pr)<|pq 0<|aO<|pq 1<|aO<|pq 2<|aO<|pq 3<|aO<|pq 4<|aO<|aO pr
def Vz(x0:c7)(x1:Int):Bool:=if x1==1 then(if decide (x0.1>0)then decide (x0.2.1>10)else false)else if x1==2 then(if decide (x0.1>0)then decide (x0.2.1<=10)else false)else if x1==3 then decide (x0.2.2.1>150)else decide (x0.2.1 < -100)
def bGw:KK:=mB Tryz.func455 [.v dX,.v (.int .i64)] [.bool] [] nP (Vz,()) λ_=>fP (fP pr pr)<|fP (fP pr pr)<|fP pr pr
def aP2(x0:c7)(x1:c7):Prop:=if x0.1==3 then True else if x0.1==4 then bA .i64 (0-x1.2.1)/\True else True
def WA(x0:c7)(x1:c7):Bool:=if x0.1==3 then(if Vz x1 x0.1 then decide (x1.2.2.1>x0.2.1)else false)else if x0.1==4 then(if Vz x1 x0.1 then decide (0-x1.2.1>x0.2.1)else false)else if Vz x1 x0.1 then decide (x1.1>x0.2.1)else false
def bGx:KK:=mB Tryz.func423 [.v dX,.v dX] [.bool] [bGw] aP2 (WA,()) λ_=>tH (bS<|fP pr pr)<|tH (aO<|bS<|fP pr pr)<|bS<|fP pr pr
def aZu:jB:=D0 aD1 [.v (.sl dX),.v dX,.v (.int .i64)] [.int .i64] [bGx]
mutual
def bGy:Nat->Γ c7->Int×Int×Int×Unit->Int->Γ aS->Prop
 | 0,_,_,_,_=>False
 | n+1,x0,x1,x2,ds=>Ma n 0 x2 x0 x1 ds
def Ma:Nat->Int->Int->Γ c7->Int×Int×Int×Unit->Γ aS->Prop
 | 0,_,_,_,_,_=>False
 | n+1,v11,x2,x0,x1,ds=>if decide (v11<(x0.length:Int))then 0<=v11/\v11<(x0.length:Int)/\aP2 (aD x0 (aE v11) (0,0,0,())) x1/\if WA (aD x0 (aE v11) (0,0,0,())) x1 then bA .i64 (v11+1)/\Ma n (v11+1) (if(aD x0 (aE v11) (0,0,0,())).2.2.1<x2 then(aD x0 (aE v11) (0,0,0,())).2.2.1 else x2) x0 x1 ds else bA .i64 (v11+1)/\Ma n (v11+1) x2 x0 x1 ds else ds=[aJ (.int .i64) x2]
end
def aZv(ds:Γ aS)(K:gU)(q:Nat->Value):∀n,(∀ {x0 x1 x2},bGy n x0 x1 x2 ds->St aZu (x0,x1,x2,()) ds [] K q)/\(∀ {v11 x2 x0 x1},Ma n v11 x2 x0 x1 ds->Cu aZu 2 ([eI 2 x2,eO 4 0 0 [],eL 9 dX x0,eI 10 (x0.length:Int),eI 11 v11],[some (iJ.mk dX [x1] true none (some false))]) ds [] K q):=nI ⟨aH,aH⟩ λn ⟨i,i2⟩=>⟨cX i2,
  bU (eE<|aO<|bU (aO<|cX i2)<|aO<|cX i2) dR⟩
abbrev Se:=Int×Int×Int×Unit
def aAc(x1:Se)(s:Int)(l:Se):Int:=if WA l x1=true then(if l.2.2.1<s then l.2.2.1 else s)else s
def Mb(x0:Γ Se)(x1:Se)(x2:Int):Int:=x0.foldl (aAc x1) x2
def aTx(x0:Γ Se)(x1:Se)(x2:Int):Prop:=∀l∈x0,aP2 l x1
def aZw(x0:Γ Se)(x1:Se)(hm:x0.length<=maxLen)(hp:∀l∈x0,aP2 l x1):∀(k i:Nat) (s:Int),i+k=x0.length->Ma (k+1) (i:Int) s x0 x1 [⟨.int .i64,(x0.drop i).foldl (aAc x1) s⟩]:=by
 intro k
 induction k with
 | zero =>
  intro i s hi;rw[Ma,ν (by simp only[ε];omega),bT (by omega)]<;>rfl
 | succ k ih =>
  intro i s hi;have hlt:i<x0.length:=by omega
  have hu:=jZ hm hlt;have e3:(i:Int)+1=((i+1:Nat):Int):=by omega
  have hx:=hp _ (bY x0 i (0,0,0,()) hlt);rw[e3]at hu;rw[Ma,π (by simp only[ε];omega),eD x0 i (0,0,0,()) hlt,fR,e3,aI];generalize x0.getD i (0,0,0,())=l at *;refine⟨by omega,by omega,hx,?_⟩;unfold aAc;by_cases c:WA l x1=true
  ·refine(π c).mpr ⟨hu,?_⟩;rw[π c];exact ih (i+1) _ (by omega)
  ·refine(ν c).mpr ⟨hu,?_⟩;rw[ν c];exact ih (i+1) _ (by omega)
def bGz:KK:=mL aZu (DO aD1) aTx (Mb,()) (λ⟨x0,x1,x2,_⟩ h hwf K q =>
 (aZv _ K q ((x0.length+2))).1 (by rw[bGy];exact aZw x0 x1 hwf.1.1 h x0.length 0 x2 (by omega)))
def aZx:jB:=D0 aD2 [.v (.sl dX),.v (.sl dX)] [.sl Jy,.int .i64] [bDV,bDT,bGz]
mutual
def aP3:Nat->Γ c7->Γ c7->Γ aS->Prop
 | 0,_,_,_=>False
 | n+1,x0,x1,ds=>if !xG x0 then ds=[aJ (.sl Jy) [],aJ (.int .i64) 1] else if !BA x1 then ds=[aJ (.sl Jy) [],aJ (.int .i64) 1] else Mc n 0 ([]) x0 x1 ds
def Mc:Nat->Int->Γ Int->Γ c7->Γ c7->Γ aS->Prop
 | 0,_,_,_,_,_=>False
 | n+1,v19,h0,x0,x1,ds=>if decide (v19<(x1.length:Int))then 0<=v19/\v19<(x1.length:Int)/\aTx x0 (aD x1 (aE v19) (0,0,0,())) 1/\if decide (Mb x0 (aD x1 (aE v19) (0,0,0,())) 1>0)then(aF h0+1)*8<=140737488355328/\bA .i64 (v19+1)/\Mc n (v19+1) (h0++[v19]) x0 x1 ds else bA .i64 (v19+1)/\Mc n (v19+1) h0 x0 x1 ds else ds=[aJ (.sl Jy) h0,aJ (.int .i64) 0]
end
def aZy(ds:Γ aS)(K:gU)(q:Nat->Value):∀n,(∀ {x0 x1},aP3 n x0 x1 ds->St aZx (x0,x1,()) ds [] K q)/\(∀ {v19 h0 x0 x1},Mc n v19 h0 x0 x1 ds->Cu aZx 5 ([eL 0 dX x0,eW 6 0,eL 17 dX x1,eI 18 (x1.length:Int),eI 19 v19],[cN (.int .i64) h0]) ds [] K q):=nI ⟨aH,aH⟩ λn ⟨i,i5⟩=>⟨bS<|bU (j0 dR)<|bS<|bU dR<|Dl [(6,.int .i64)] i5,
  bU (eE<|aO<|bU (aO<|aO<|Dl [(6,.int .i64)] i5)<|aO<|Dl [(6,.int .i64)] i5) dR⟩
def u5(x0:Γ Se):Γ Se->Nat->Γ Int
 | [],_=>[]
 | h::r,i=>if decide (Mb x0 h 1>0)=true then(i:Int)::u5 x0 r (i+1)else u5 x0 r (i+1)
def H5(x0 x1:Γ Se):Bool:=xG x0&&BA x1
def Dv(x0 x1:Γ Se):Γ Int:=if H5 x0 x1 then u5 x0 x1 0 else []
def JG(x0 x1:Γ Se):Int:=if H5 x0 x1 then 0 else 1
def aTy(x0 x1:Γ Se):Prop:=H5 x0 x1=true->x1.length<=1000000/\∀h∈x1,aTx x0 h 1
def aZz(x0 x1:Γ Se)(hl:x1.length<=1000000)(hp:∀h∈x1,aTx x0 h 1):∀(k i:Nat) (h0:Γ Int),i+k=x1.length->h0.length<=i->Mc (k+1) (i:Int) h0 x0 x1 [⟨.sl Jy,h0++u5 x0 (x1.drop i) i⟩,⟨.int .i64,0⟩]:=by
 intro k
 induction k with
 | zero =>
  intro i h0 hi hh;rw[Mc,ν (by lia),bT (by lia),u5,cK]
 | succ k ih =>
  intro i h0 hi hh;have hlt:i<x1.length:=by lia
  have e3:(i:Int)+1=((i+1:Nat):Int):=by lia
  have hx:=hp _ (bY x1 i (0,0,0,()) hlt);rw[Mc,π (by lia),eD x1 i (0,0,0,()) hlt,u5,aI];generalize x1.getD i (0,0,0,())=l at *;refine⟨by lia,by lia,hx,?_⟩;by_cases c:decide (Mb x0 l 1>0)=true
  ·have:=ih (i+1) (h0++[(i:Int)]) (by lia) (by grind);refine(π c).mpr ⟨by lia,by grind [aK],?_⟩
   grind
  ·refine(ν c).mpr ⟨by grind [aK],?_⟩
   grind
def aZ0(x0 x1:Γ Se)(h:aTy x0 x1):∃n,aP3 n x0 x1 [⟨.sl Jy,Dv x0 x1⟩,⟨.int .i64,JG x0 x1⟩]:=by
 unfold Dv JG;by_cases c1:xG x0=true
 ·by_cases c2:BA x1=true
  ·have e:H5 x0 x1=true:=by unfold H5;rw[c1,c2]<;>rfl
   obtain⟨p1,p2⟩:=h e;refine⟨x1.length+1+1,?_⟩;rw[aP3,ν (by rw[c1];decide),ν (by rw[c2];decide),π e,π e];exact aZz x0 x1 p1 p2 x1.length 0 [] (by omega) (bG _)
  ·have e:¬H5 x0 x1=true:=by unfold H5;rw[Dm c2,Bool.and_false];decide
   exact⟨1,by rw[aP3,ν (by rw[c1];decide),π (by rw[Dm c2]<;>rfl),ν e,ν e]⟩
 ·have e:¬H5 x0 x1=true:=by unfold H5;rw[Dm c1,Bool.false_and];decide
  exact⟨1,by rw[aP3,π (by rw[Dm c1]<;>rfl),ν e,ν e]⟩
def bG0:KK:=mL aZx (DO aD2) aTy (Dv,JG,()) (λ⟨x0,x1,_⟩ h hwf K q =>
 let ⟨n,hn⟩:=aZ0 x0 x1 h
 (aZy _ K q n).1 hn)
def Ag(x0:Int)(x1:Int):Bool:=if Aa x0 then(if Aa x1 then decide (x0<=x1)else false)else false
def bG1:KK:=mB Tryz.func372 [.v (.int .i64),.v (.int .i64)] [.bool] [aVL] nP (Ag,()) λ_=>bS<|fP (bS<|fP pr pr)<|dN pr
def Ah(x0:Γ b6)(x1:Bool):Int:=if !uQ x0 then 1 else if !x1 then 2 else 0
def bG2:KK:=mB Tryz.func371 [.v (.sl eC),.v (.bool)] [.int .i64] [bDY] nP (Ah,()) λ_=>bS<|fP pr<|fP pr pr
end
def wE(m:Int):Nat->Γ b6->Γ Int
 | _,[]=>[]
 | i,x::l=>if x.2.1<=m/\m<x.2.2.1 then(i:Int)::wE m (i+1) l else wE m (i+1) l
def rL(x0:Γ b6)(k:Nat):b6:=x0.getD k (aC,(0:Int),(0:Int),())
theorem DM{m:Int}:∀ {l:Γ b6} {i:Nat} {v:Int},v∈wE m i l↔∃k:Nat,k<l.length/\v=((i+k:Nat):Int)/\(rL l k).2.1<=m/\m<(rL l k).2.2.1
 | [],i,v=>by simp[wE]
 | x::l,i,v=>by
  have key:v∈wE m (i+1) l↔∃k:Nat,k+1<(x::l).length/\v=((i+(k+1):Nat):Int)/\(rL (x::l) (k+1)).2.1<=m/\m<(rL (x::l) (k+1)).2.2.1:=by
   rw[DM];constructor
   ·rintro⟨k,h1,h2,h3⟩;exact⟨k,by simpa using h1,by omega,by exact h3⟩
   ·rintro⟨k,h1,h2,h3⟩;exact⟨k,by simpa using h1,by omega,by exact h3⟩
  unfold wE;by_cases hx:x.2.1<=m/\m<x.2.2.1
  ·rw[π hx,aW,key];constructor
   ·rintro(rfl | ⟨k,h⟩)
    ·exact⟨0,by simp,rfl,hx⟩
    grind
   ·rintro⟨k,h1,h2,h3⟩;cases k with
    | zero=>lia
    | succ k=>grind
  ·constructor
   ·grind
   ·rintro⟨k,h1,h2,h3⟩;cases k with
    | zero=>exact absurd h3 hx
    | succ k=>grind
theorem aB0(m:Int):∀(l:Γ b6) (i:Nat),(wE m i l).length<=l.length
 | [],i=>aT _
 | x::l,i=>by
  unfold wE;have:=aB0 m l (i+1);split
  ·simp;omega
  ·simp;omega
def kU(x0:Γ b6)(b:Int)(l:Γ Int):Int:=l.foldl (λb k=>if b<0\/(rL x0 b.toNat).2.2.1<(rL x0 k.toNat).2.2.1 then k else b) b
theorem aB1(x0:Γ b6):∀(l:Γ Int) (b:Int),(∀k∈l,0<=k)->0<=b->(kU x0 b l=b\/kU x0 b l∈l)/\(rL x0 b.toNat).2.2.1<=(rL x0 (kU x0 b l).toNat).2.2.1/\∀k∈l,(rL x0 k.toNat).2.2.1<=(rL x0 (kU x0 b l).toNat).2.2.1
 | [],b,_,hb=>⟨.inl rfl,dO _,λk hk=>by grind⟩
 | k::l,b,h,hb=>by
  have hk:0<=k:=h k (aR ..);have hl:∀k∈l,0<=k:=λk hk=>h k (aM _ hk);by_cases hc:b<0\/(rL x0 b.toNat).2.2.1<(rL x0 k.toNat).2.2.1
  ·have e:kU x0 b (k::l)=kU x0 k l:=by
    unfold kU
    grind
   obtain⟨h1,h2,h3⟩:=aB1 x0 l k hl hk
   grind
  ·have e:kU x0 b (k::l)=kU x0 b l:=by
    unfold kU
    grind
   rw[e];obtain⟨h1,h2,h3⟩:=aB1 x0 l b hl hb
   grind
def WB(x0:Γ b6)(l:Γ Int)(h:∀k∈l,0<=k):(l=[]/\kU x0 (-1) l = -1)\/(kU x0 (-1) l∈l/\∀k∈l,(rL x0 k.toNat).2.2.1<=(rL x0 (kU x0 (-1) l).toNat).2.2.1):=by
 cases l with
 | nil=>exact .inl ⟨rfl,rfl⟩
 | cons k l =>
  have e:kU x0 (-1) (k::l)=kU x0 k l:=by
   rfl
  obtain⟨h1,h2,h3⟩:=aB1 x0 l k (λk hk=>h k (aM _ hk)) (h k (aR ..))
  grind
def BN(x0:Γ b6)(e:Int):Nat->Int->Option (Γ Int)
 | 0,_=>some []
 | n+1,m=>if m<e then(if kU x0 (-1) (wE m 0 x0)<0 then none else(BN x0 e n (rL x0 (kU x0 (-1) (wE m 0 x0)).toNat).2.2.1).map (kU x0 (-1) (wE m 0 x0) :: ·))else some []
def aB2(x0:Γ b6)(m:Int)(h:¬kU x0 (-1) (wE m 0 x0)<0):∃b:Nat,kU x0 (-1) (wE m 0 x0)=(b:Int)/\b<x0.length/\(rL x0 b).2.1<=m/\m<(rL x0 b).2.2.1/\∀k:Nat,k<x0.length->(rL x0 k).2.1<=m->(rL x0 k).2.2.1<=(rL x0 b).2.2.1:=by
 have hn:∀k∈wE m 0 x0,0<=k:=λk hk=>by
  obtain⟨j,_,rfl,_⟩:=DM.1 hk
  lia
 rcases WB x0 _ hn with ⟨_,h2⟩ | ⟨h1,h2⟩
 ·lia
 ·grind [aI,DM]
noncomputable section
def aZ1:jB:=D0 aD3 [.v (.sl eC),.v (.int .i64)] [.sl Jy] []
mutual
def aZ2:Nat->Γ b6->Int->Γ aS->Prop
 | 0,_,_,_=>False
 | n+1,x0,x1,ds=>JH n 0 ([]) x1 x0 ds
def JH:Nat->Int->Γ Int->Int->Γ b6->Γ aS->Prop
 | 0,_,_,_,_,_=>False
 | n+1,v10,h0,x1,x0,ds=>if decide (v10<(x0.length:Int))then 0<=v10/\v10<(x0.length:Int)/\if decide ((aD x0 (aE v10) (aC,0,0,())).2.1<=x1)then(if decide (x1<(aD x0 (aE v10) (aC,0,0,())).2.2.1)then(aF h0+1)*8<=140737488355328/\bA .i64 (v10+1)/\JH n (v10+1) (h0++[v10]) x1 x0 ds else bA .i64 (v10+1)/\JH n (v10+1) h0 x1 x0 ds)else bA .i64 (v10+1)/\JH n (v10+1) h0 x1 x0 ds else ds=[aJ (.sl Jy) h0]
end
def aZ3(ds:Γ aS)(K:gU)(q:Nat->Value):∀n,(∀ {x0 x1},aZ2 n x0 x1 ds->St aZ1 (x0,x1,()) ds [] K q)/\(∀ {v10 h0 x1 x0},JH n v10 h0 x1 x0 ds->Cu aZ1 3 ([eI 1 x1,eW 5 0,eL 8 eC x0,eI 9 (x0.length:Int),eI 10 v10],[cN (.int .i64) h0]) ds [] K q):=nI ⟨aH,aH⟩ λn ⟨i,i3⟩=>⟨Dl [(5,.int .i64)] i3,
  bU (eE<|bU (bU (aO<|aO<|Dl [(5,.int .i64)] i3)<|aO<|Dl [(5,.int .i64)] i3)<|dN<|aO<|Dl [(5,.int .i64)] i3) dR⟩
def zJ(x0:Γ b6)(x1:Int):Γ Int:=wE x1 0 x0
def bG3(x0:Γ b6)(x1:Int):Prop:=x0.length<=1000
def aTz(x0:Γ b6)(x1:Int)(hl:x0.length<=1000):∀(k i:Nat) (h:Γ Int),i+k=x0.length->h.length<=i->JH (k+1) (i:Int) h x1 x0 [⟨.sl Jy,h++wE x1 i (x0.drop i)⟩]:=by
 intro k
 induction k with
 | zero =>
  intro i h hi hh;rw[JH,ν (by simp only[ε];omega),bT (by omega)];simp[wE]
 | succ k ih =>
  intro i h hi hh;have hlt:i<x0.length:=by omega
  have ii:bA .i64 ((i:Int)+1):=by rw[aK];omega
  have hn:((i:Int)+1)=((i+1:Nat):Int):=by omega
  rw[JH,π (by simp only[ε];omega)];refine⟨by omega,by omega,?_⟩;simp only[aI,jX x0 i _ hlt];rw[List.drop_eq_getElem_cons hlt];unfold wE;by_cases h1:x0[i].2.1<=x1
  ·rw[π (by simpa using h1)];by_cases h2:x1<x0[i].2.2.1
   ·rw[π (by simpa using h2),π ⟨h1,h2⟩];refine⟨by omega,ii,?_⟩;have:=ih (i+1) (h++[(i:Int)]) (by omega) (by simp;omega);rw[hn];simpa using this
   ·rw[ν (by simpa using h2),ν (λhh=>h2 hh.2)];refine⟨ii,?_⟩;rw[hn];exact ih (i+1) h (by omega) (by omega)
  ·rw[ν (by simpa using h1),ν (λhh=>h1 hh.1)];refine⟨ii,?_⟩;rw[hn];exact ih (i+1) h (by omega) (by omega)
def aZ4(x0:Γ b6)(x1:Int)(hl:x0.length<=1000):aZ2 (x0.length+1+1) x0 x1 [⟨.sl Jy,zJ x0 x1⟩]:=by
 rw[aZ2];exact aTz x0 x1 hl x0.length 0 [] (by omega) (by simp)
def bG4:KK:=mL aZ1 (DO aD3) bG3 (zJ,()) (λ⟨x0,x1,_⟩ h hwf K q =>
 (aZ3 _ K q _).1 (aZ4 x0 x1 h))
end
def aP4{x:Int}(h:Aa x=true):0<=x/\x<=1440:=by
 unfold Aa bH at h
 lia
def aKA{a b:Int}(h:Ag a b=true):0<=a/\a<=1440/\0<=b/\b<=1440/\a<=b:=by
 unfold Ag at h;split at h
 ·rename_i h1;split at h
  ·rename_i h2;obtain⟨a1,a2⟩:=aP4 h1;obtain⟨a3,a4⟩:=aP4 h2
   lia
  lia
 lia
def WC{x0:Γ b6}{b:Bool}(h:Ah x0 b=0):uQ x0=true/\b=true:=by
 unfold Ah at h
 lia
noncomputable section
def aT0:jB:=D0 aD4 [.v (.sl eC),.v (.int .i64),.v (.int .i64)] [.sl Jy,.int .i64] [bG1,bG2,bG4]
mutual
def aT1:Nat->Γ b6->Int->Int->Γ aS->Prop
 | 0,_,_,_,_=>False
 | n+1,x0,x1,x2,ds=>if Ah x0 (Ag x1 x2) != 0 then ds=[aJ (.sl Jy) [],aJ (.int .i64) (Ah x0 (Ag x1 x2))] else Md n ([]) x0 x2 x1 ds
def Md:Nat->Γ Int->Γ b6->Int->Int->Γ aS->Prop
 | 0,_,_,_,_,_=>False
 | n+1,h0,x0,x2,x1,ds=>if decide (x1<x2)then bG3 x0 x1/\zK n (-1) 0 x0 x2 x1 h0 ds else ds=[aJ (.sl Jy) h0,aJ (.int .i64) 0]
def zK:Nat->Int->Int->Γ b6->Int->Int->Γ Int->Γ aS->Prop
 | 0,_,_,_,_,_,_,_=>False
 | n+1,v11,v30,x0,x2,x1,h0,ds=>if decide (v30<(↑(aF (zJ x0 x1)):Int))then 0<=v30/\v30<(↑(aF (zJ x0 x1)):Int)/\if decide (v11<0)then bA .i64 (v30+1)/\zK n (aD (zJ x0 x1) (aE v30) 0) (v30+1) x0 x2 x1 h0 ds else 0<=aD (zJ x0 x1) (aE v30) 0/\aD (zJ x0 x1) (aE v30) 0<(x0.length:Int)/\0<=v11/\v11<(x0.length:Int)/\if decide ((aD x0 (aE (aD (zJ x0 x1) (aE v30) 0)) (aC,0,0,())).2.2.1>(aD x0 (aE v11) (aC,0,0,())).2.2.1)then bA .i64 (v30+1)/\zK n (aD (zJ x0 x1) (aE v30) 0) (v30+1) x0 x2 x1 h0 ds else bA .i64 (v30+1)/\zK n v11 (v30+1) x0 x2 x1 h0 ds else if decide (v11<0)then ds=[aJ (.sl Jy) [],aJ (.int .i64) 3] else(aF h0+1)*8<=140737488355328/\0<=v11/\v11<(x0.length:Int)/\Md n (h0++[v11]) x0 x2 (aD x0 (aE v11) (aC,0,0,())).2.2.1 ds
end
def aZ5(ds:Γ aS)(K:gU)(q:Nat->Value):∀n,(∀ {x0 x1 x2},aT1 n x0 x1 x2 ds->St aT0 (x0,x1,x2,()) ds [] K q)/\(∀ {h0 x0 x2 x1},Md n h0 x0 x2 x1 ds->Cu aT0 6 ([eL 0 eC x0,eI 2 x2,eW 9 0,eI 10 x1],[cN (.int .i64) h0]) ds [] K q)/\(∀ {v11 v30 x0 x2 x1 h0},zK n v11 v30 x0 x2 x1 h0 ds->Cu aT0 9 ([eL 0 eC x0,eI 2 x2,eW 9 0,eI 11 v11,eW 28 1,eI 29 (↑(aF (zJ x0 x1)):Int),eI 30 v30],[cN (.int .i64) h0,cN (.int .i64) (zJ x0 x1)]) ds [] K q):=nI ⟨aH,aH,aH⟩ λn ⟨i,i6,i9⟩=>⟨bS<|bS<|bU dR<|Dl [(9,.int .i64)] i6,
  bU (aO<|cX i9) dR,
  bU (eE<|bU (j0<|aO<|cX i9)<|eE<|eE<|bU (aO<|cX i9)<|aO<|cX i9)<|bU dR<|aO<|eE<|Dl [(9,.int .i64)] i6⟩
def Me(x0:Γ b6)(x1 x2:Int):Int:=if Ah x0 (Ag x1 x2)≠0 then Ah x0 (Ag x1 x2)else(match BN x0 x2 (x2-x1).toNat x1 with | some _=>0 | none=>3)
def Dw(x0:Γ b6)(x1 x2:Int):Γ Int:=if Ah x0 (Ag x1 x2)≠0 then [] else(BN x0 x2 (x2-x1).toNat x1).getD []
def bG5(x0:Γ b6)(x1 x2:Int):Prop:=x0.length<=1000
def aP5(x0:Γ b6)(x2 x1:Int)(h0:Γ Int)(hl:x0.length<=1000)(ds:Γ aS)(hN:∃N,zK N (kU x0 (-1) (wE x1 0 x0)) ((wE x1 0 x0).length:Int) x0 x2 x1 h0 ds) :
  ∀(k i:Nat) (v:Int),i+k=(wE x1 0 x0).length->(v = -1\/(0<=v/\v<(x0.length:Int)))->v=kU x0 (-1) ((wE x1 0 x0).take i)->∃n,zK n v (i:Int) x0 x2 x1 h0 ds:=by
 have hll:=aB0 x1 x0 0;have hall:∀j∈wE x1 0 x0,0<=j/\j<(x0.length:Int):=λj hj=>by
  obtain⟨q,h1,rfl,_⟩:=DM.1 hj;omega
 intro k
 induction k with
 | zero =>
  intro i v hi hv hb;obtain rfl:i=(wE x1 0 x0).length:=by omega
  rw[jT]at hb;rw[hb];exact hN
 | succ k ih =>
  intro i v hi hv hb;have hlt:i<(wE x1 0 x0).length:=by omega
  have en:(i:Int)+1=((i+1:Nat):Int):=by omega
  have ii:bA .i64 ((i:Int)+1):=by rw[aK];omega
  have hj:=hall _ (List.getElem_mem hlt);have et:kU x0 (-1) ((wE x1 0 x0).take (i+1))=if v<0\/(rL x0 v.toNat).2.2.1<(rL x0 ((wE x1 0 x0)[i]).toNat).2.2.1 then(wE x1 0 x0)[i] else v:=by
   rw[eG,aX hlt];unfold kU;rw[List.foldl_append];show (if(kU x0 (-1) ((wE x1 0 x0).take i))<0\/(rL x0 (kU x0 (-1) ((wE x1 0 x0).take i)).toNat).2.2.1<_ then _ else(kU x0 (-1) ((wE x1 0 x0).take i)))=_;rw[<- hb]
  have eg:zJ x0 x1=wE x1 0 x0:=rfl;by_cases hv0:v<0
  ·obtain⟨n,hn⟩:=ih (i+1) ((wE x1 0 x0)[i]) (by omega) (.inr hj) (by rw[et,π (.inl hv0)]);refine⟨n+1,?_⟩;rw[zK,eg,π (by simp only[ε];omega)];refine⟨by omega,by omega,?_⟩;simp only[aI,jX (wE x1 0 x0) i _ hlt];rw[π (by simpa using hv0)];refine⟨ii,?_⟩;rw[en];exact hn
  ·by_cases hc:(rL x0 v.toNat).2.2.1<(rL x0 ((wE x1 0 x0)[i]).toNat).2.2.1
   ·obtain⟨n,hn⟩:=ih (i+1) ((wE x1 0 x0)[i]) (by omega) (.inr hj) (by rw[et,π (.inr hc)]);refine⟨n+1,?_⟩;rw[zK,eg,π (by simp only[ε];omega)];refine⟨by omega,by omega,?_⟩;simp only[aI,jX (wE x1 0 x0) i _ hlt];rw[ν (by simpa using hv0)];refine⟨hj.1,hj.2,by omega,by omega,?_⟩;refine Eq.mpr (π (show _=true from decide_eq_true hc)) ⟨ii,?_⟩;rw[en];exact hn
   ·obtain⟨n,hn⟩:=ih (i+1) v (by omega) hv (by rw[et,ν (by rintro(h | h) <;> contradiction)]);refine⟨n+1,?_⟩;rw[zK,eg,π (by simp only[ε];omega)];refine⟨by omega,by omega,?_⟩;simp only[aI,jX (wE x1 0 x0) i _ hlt];rw[ν (by simpa using hv0)];refine⟨hj.1,hj.2,by omega,by omega,?_⟩;refine Eq.mpr (ν (λh=>hc (of_decide_eq_true h))) ⟨ii,?_⟩;rw[en];exact hn
def Dx(h0:Γ Int):Option (Γ Int)->Γ aS
 | some l=>[⟨.sl Jy,h0++l⟩,⟨.int .i64,(0:Int)⟩]
 | none=>[⟨.sl Jy,([]:Γ Int)⟩,⟨.int .i64,(3:Int)⟩]
def aP6(x0:Γ b6)(x2:Int)(hl:x0.length<=1000):∀(k:Nat) (x1:Int) (h0:Γ Int),x2-x1<=(k:Int)->h0.length+k<=2000 ->
  ∃n,Md n h0 x0 x2 x1 (Dx h0 (BN x0 x2 k x1)):=by
 intro k
 induction k with
 | zero =>
  intro x1 h0 hk hh;refine⟨1,?_⟩;rw[Md,ν (by simp only[ε];omega)];show [(⟨.sl Jy,h0++([]:Γ Int)⟩:aS),⟨.int .i64,(0:Int)⟩]=_;rw[cK]
 | succ k ih =>
  intro x1 h0 hk hh;by_cases hm:x1<x2
  case neg =>
   refine⟨1,?_⟩;rw[Md,ν (by simpa using hm)];unfold BN;rw[ν hm];show [(⟨.sl Jy,h0++([]:Γ Int)⟩:aS),⟨.int .i64,(0:Int)⟩]=_;rw[cK]
  case pos =>
   have eg:zJ x0 x1=wE x1 0 x0:=rfl;have key:∃N,zK N (kU x0 (-1) (wE x1 0 x0)) ((wE x1 0 x0).length:Int) x0 x2 x1 h0 (Dx h0 (BN x0 x2 (k+1) x1)):=by
    by_cases hb:kU x0 (-1) (wE x1 0 x0)<0
    ·refine⟨1,?_⟩;rw[zK,eg,ν (by simp only[ε];omega),π (by simpa using hb)];unfold BN;rw[π hm,π hb]<;>rfl
    ·obtain⟨b,h1,h2,h3,h4,h5⟩:=aB2 x0 x1 hb;obtain⟨n,hn⟩:=ih (rL x0 b).2.2.1 (h0++[(b:Int)]) (by omega) (by rw[aU,bP];omega);refine⟨n+1,?_⟩;rw[zK,eg,ν (by simp only[ε];omega),ν (by simpa using hb)];unfold BN;rw[π hm,ν hb,h1];simp only[aI];refine⟨by omega,by omega,by omega,?_⟩;have e:Dx (h0++[(b:Int)]) (BN x0 x2 k (rL x0 b).2.2.1)=Dx h0 ((BN x0 x2 k (rL x0 b).2.2.1).map ((b:Int) :: ·)):=by
      cases BN x0 x2 k (rL x0 b).2.2.1 with
      | none=>rfl
      | some l=>simp[Dx]
     rw[<- e];exact hn
   obtain⟨n,hn⟩:=aP5 x0 x2 x1 h0 hl _ key (wE x1 0 x0).length 0 (-1) (by omega) (.inl rfl) rfl;refine⟨n+1,?_⟩;rw[Md,π (by simpa using hm)];exact⟨hl,hn⟩
def aZ6(x0:Γ b6)(x1 x2:Int)(hl:x0.length<=1000):∃n,aT1 n x0 x1 x2 [⟨.sl Jy,Dw x0 x1 x2⟩,⟨.int .i64,Me x0 x1 x2⟩]:=by
 unfold Dw Me;by_cases h:Ah x0 (Ag x1 x2)=0
 ·rw[ν (λhh=>hh h),ν (λhh=>hh h)];have hs:x2-x1<=1440:=by
   have:=aKA (WC h).2;omega
  obtain⟨n,hn⟩:=aP6 x0 x2 hl (x2-x1).toNat x1 [] (by omega) (by simp;omega);refine⟨n+1,?_⟩;rw[aT1,ν (by rw[h];decide)];cases hf:BN x0 x2 (x2-x1).toNat x1 with
  | none=>rw[hf]at hn;exact hn
  | some l=>rw[hf]at hn;exact hn
 ·rw[π h,π h];refine⟨1,?_⟩;rw[aT1,π (by simpa using h)]
def bG6:KK:=mL aT0 (DO aD4) bG5 (Dw,Me,()) (λ⟨x0,x1,x2,_⟩ h hwf K q =>
 let ⟨n,hn⟩:=aZ6 x0 x1 x2 h
 (aZ5 _ K q n).1 hn)
def Mf(x0:Int):Bool:=bH x0 1 60
def bG7:KK:=mB Tryz.func375 [.v (.int .i64)] [.bool] [lH] nP (Mf,()) λ_=>bS pr
def JI(x0:Int):Bool:=bH x0 1 1000
def bG8:KK:=mB Tryz.func376 [.v (.int .i64)] [.bool] [lH] nP (JI,()) λ_=>bS pr
def sP(x0:Γ Int)(x1:Bool):Int:=if !pM x0 then 1 else if !x1 then 2 else 0
def bG9:KK:=mB Tryz.func374 [.v (.sl Jy),.v (.bool)] [.int .i64] [aPf] nP (sP,()) λ_=>bS<|fP pr<|fP pr pr
def aZ7:jB:=D0 aD5 [.v (.sl Jy),.v (.int .i64),.v (.int .i64),.v (.int .i64)] [.sl Jy] []
mutual
def bGA:Nat->Γ Int->Int->Int->Int->Γ aS->Prop
 | 0,_,_,_,_,_=>False
 | n+1,x0,x1,x2,x3,ds=>Dy n 0 0 ([]) x1 x2 x3 x0 ds
def Dy:Nat->Int->Int->Γ Int->Int->Int->Int->Γ Int->Γ aS->Prop
 | 0,_,_,_,_,_,_,_,_=>False
 | n+1,v10,v16,h0,x1,x2,x3,x0,ds=>if decide (v16<(x0.length:Int))then 0<=v16/\v16<(x0.length:Int)/\bA .i64 (v16+1)/\bA .i64 (v10+aD x0 (aE v16) 0)/\x1≠0/\bA .i64 (cP (v16+1) x1)/\if cP (v16+1) x1==0 then bA .i64 (v10+aD x0 (aE v16) 0-if x2<v10+aD x0 (aE v16) 0 then x2 else v10+aD x0 (aE v16) 0)/\if v16+1==x3 then bA .i64 ((v10+aD x0 (aE v16) 0-if x2<v10+aD x0 (aE v16) 0 then x2 else v10+aD x0 (aE v16) 0)-if x2<v10+aD x0 (aE v16) 0-if x2<v10+aD x0 (aE v16) 0 then x2 else v10+aD x0 (aE v16) 0 then x2 else v10+aD x0 (aE v16) 0-if x2<v10+aD x0 (aE v16) 0 then x2 else v10+aD x0 (aE v16) 0)/\(aF h0+1)*8<=140737488355328/\bA .i64 (v16+1)/\Dy n ((v10+aD x0 (aE v16) 0-if x2<v10+aD x0 (aE v16) 0 then x2 else v10+aD x0 (aE v16) 0)-if x2<v10+aD x0 (aE v16) 0-if x2<v10+aD x0 (aE v16) 0 then x2 else v10+aD x0 (aE v16) 0 then x2 else v10+aD x0 (aE v16) 0-if x2<v10+aD x0 (aE v16) 0 then x2 else v10+aD x0 (aE v16) 0) (v16+1) (h0++[(v10+aD x0 (aE v16) 0-if x2<v10+aD x0 (aE v16) 0 then x2 else v10+aD x0 (aE v16) 0)-if x2<v10+aD x0 (aE v16) 0-if x2<v10+aD x0 (aE v16) 0 then x2 else v10+aD x0 (aE v16) 0 then x2 else v10+aD x0 (aE v16) 0-if x2<v10+aD x0 (aE v16) 0 then x2 else v10+aD x0 (aE v16) 0]) x1 x2 x3 x0 ds else(aF h0+1)*8<=140737488355328/\bA .i64 (v16+1)/\Dy n (v10+aD x0 (aE v16) 0-if x2<v10+aD x0 (aE v16) 0 then x2 else v10+aD x0 (aE v16) 0) (v16+1) (h0++[v10+aD x0 (aE v16) 0-if x2<v10+aD x0 (aE v16) 0 then x2 else v10+aD x0 (aE v16) 0]) x1 x2 x3 x0 ds else if v16+1==x3 then bA .i64 (v10+aD x0 (aE v16) 0-if x2<v10+aD x0 (aE v16) 0 then x2 else v10+aD x0 (aE v16) 0)/\(aF h0+1)*8<=140737488355328/\bA .i64 (v16+1)/\Dy n (v10+aD x0 (aE v16) 0-if x2<v10+aD x0 (aE v16) 0 then x2 else v10+aD x0 (aE v16) 0) (v16+1) (h0++[v10+aD x0 (aE v16) 0-if x2<v10+aD x0 (aE v16) 0 then x2 else v10+aD x0 (aE v16) 0]) x1 x2 x3 x0 ds else(aF h0+1)*8<=140737488355328/\bA .i64 (v16+1)/\Dy n (v10+aD x0 (aE v16) 0) (v16+1) (h0++[v10+aD x0 (aE v16) 0]) x1 x2 x3 x0 ds else ds=[aJ (.sl Jy) h0]
end
def aZ8(ds:Γ aS)(K:gU)(q:Nat->Value):∀n,(∀ {x0 x1 x2 x3},bGA n x0 x1 x2 x3 ds->St aZ7 (x0,x1,x2,x3,()) ds [] K q)/\(∀ {v10 v16 h0 x1 x2 x3 x0},Dy n v10 v16 h0 x1 x2 x3 x0 ds->Cu aZ7 4 ([eI 1 x1,eI 2 x2,eI 3 x3,eW 9 0,eI 10 v10,eL 14 (.int .i64) x0,eI 15 (x0.length:Int),eI 16 v16],[cN (.int .i64) h0]) ds [] K q):=nI ⟨aH,aH⟩ λn ⟨i,i4⟩=>⟨Dl [(9,.int .i64)] i4,
  bU (eE<|aO<|aO<|eE<|bU (aO<|bU (aO<|aO<|aO<|Dl [(9,.int .i64)] i4)<|aO<|aO<|Dl [(9,.int .i64)] i4)<|bU (aO<|aO<|aO<|Dl [(9,.int .i64)] i4)<|aO<|aO<|Dl [(9,.int .i64)] i4) dR⟩
def tW(x2 w:Int):Int:=w-if x2<w then x2 else w
def DN(x1 x2 x3:Int)(i:Nat)(w x:Int):Int:=if(cP ((i:Int)+1) x1==0)=true then(if((i:Int)+1==x3)=true then tW x2 (tW x2 (w+x))else tW x2 (w+x))else if((i:Int)+1==x3)=true then tW x2 (w+x)else w+x
def xT(x1 x2 x3:Int):Γ Int->Nat->Int->Γ Int
 | [],_,_=>[]
 | x::r,i,w=>DN x1 x2 x3 i w x::xT x1 x2 x3 r (i+1) (DN x1 x2 x3 i w x)
def Ql(x0:Γ Int)(x1 x2 x3:Int):Γ Int:=xT x1 x2 x3 x0 0 0
def aMQ(x0:Γ Int)(x1 x2 x3:Int):Prop:=(1<=x1/\x1<=1000000)/\0<=x2/\x0.length<=1000/\∀x∈x0,0<=x/\x<=1000
def JJ{x2 w:Int}(h:0<=x2)(hw:0<=w):0<=tW x2 w/\tW x2 w<=w:=by
 unfold tW;split <;> omega
def aZ9(x0:Γ Int)(x1 x2 x3:Int)(h:aMQ x0 x1 x2 x3):∀(k i:Nat) (w:Int) (h0:Γ Int),i+k=x0.length->0<=w->w<=1000*(i:Int)->h0.length<=i->Dy (k+1) w (i:Int) h0 x1 x2 x3 x0 [⟨.sl Jy,h0++xT x1 x2 x3 (x0.drop i) i w⟩]:=by
 obtain⟨⟨p1,p1'⟩,p2,p3,p4⟩:=h;intro k
 induction k with
 | zero =>
  intro i w h0 hi h1 h2 hl;rw[Dy,ν (by simp only[ε];omega),bT (by omega),xT,cK]
 | succ k ih =>
  intro i w h0 hi h1 h2 hl;have hlt:i<x0.length:=by omega
  have e3:(i:Int)+1=((i+1:Nat):Int):=by omega
  have hx:=p4 _ (bY x0 i 0 hlt);have t1:=Int.tmod_nonneg (a:=(i:Int)+1) x1 (by omega);have t2:=Int.tmod_lt_of_pos ((i:Int)+1) (show 0<x1 by omega);rw[eD x0 i 0 hlt,xT,Dy,π (by simp only[ε];omega),aI];generalize x0.getD i 0=x at *;obtain⟨d1,d2⟩:=JJ p2 (show 0<=w+x by omega);obtain⟨d3,d4⟩:=JJ p2 d1;have step:∀w',DN x1 x2 x3 i w x=w'->0<=w'->w'<=w+x->(h0.length+1)*8<=140737488355328/\bA .i64 ((i:Int)+1)/\Dy (k+1) w' ((i:Int)+1) (h0++[w']) x1 x2 x3 x0 [⟨.sl Jy,h0++DN x1 x2 x3 i w x::xT x1 x2 x3 (x0.drop (i+1)) (i+1) (DN x1 x2 x3 i w x)⟩]:=λw' e a b=>by
   have:=ih (i+1) w' (h0++[w']) (by omega) a (by omega) (by rw[aU,bP];omega);rw[bZ]at this;rw[e,e3];exact⟨by omega,by rw[aK];omega,this⟩
  have hn:DN x1 x2 x3 i w x=if(cP ((i:Int)+1) x1==0)=true then(if((i:Int)+1==x3)=true then tW x2 (tW x2 (w+x))else tW x2 (w+x))else if((i:Int)+1==x3)=true then tW x2 (w+x)else w+x:=rfl
  refine⟨by omega,by omega,by rw[aK];omega,by rw[aK];omega,by omega,by rw[aK];omega,?_⟩;by_cases c:(cP ((i:Int)+1) x1==0)=true
  ·rw[π c]at hn;refine(π c).mpr ⟨show bA .i64 (tW x2 (w+x))by rw[aK];omega,?_⟩;by_cases d:((i:Int)+1==x3)=true
   ·rw[π d]at hn;exact(π d).mpr ⟨show bA .i64 (tW x2 (tW x2 (w+x)))by rw[aK];omega,step _ hn d3 (by omega)⟩
   ·rw[ν d]at hn;exact(ν d).mpr (step _ hn d1 d2)
  ·rw[ν c]at hn;refine(ν c).mpr ?_;by_cases d:((i:Int)+1==x3)=true
   ·rw[π d]at hn;exact(π d).mpr ⟨show bA .i64 (tW x2 (w+x))by rw[aK];omega,step _ hn d1 d2⟩
   ·rw[ν d]at hn;exact(ν d).mpr (step _ hn (by omega) (dO _))
def bGB:KK:=mL aZ7 (DO aD5) aMQ (Ql,()) (λ⟨x0,x1,x2,x3,_⟩ h hwf K q =>
 (aZ8 _ K q ((x0.length+2))).1 (by rw[bGA];exact aZ9 x0 x1 x2 x3 h x0.length 0 0 [] (by omega) (dO _) (by omega) (bG _)))
def aMR(x0:Γ Int)(x1:Int)(x2:Int):Prop:=if Mf x1 then(if sP x0 (JI x2) != 0 then True else aMQ x0 x1 x2 0/\True)else if sP x0 false != 0 then True else aMQ x0 x1 x2 0/\True
def JK(x0:Γ Int)(x1:Int)(x2:Int):Γ Int:=if Mf x1 then(if sP x0 (JI x2) != 0 then [] else Ql x0 x1 x2 0)else if sP x0 false != 0 then [] else Ql x0 x1 x2 0
def Qm(x0:Γ Int)(x1:Int)(x2:Int):Int:=if Mf x1 then(if sP x0 (JI x2) != 0 then sP x0 (JI x2)else 0)else if sP x0 false != 0 then sP x0 false else 0
def bGC:KK:=mB Tryz.func293 [.v (.sl Jy),.v (.int .i64),.v (.int .i64)] [.sl Jy,.int .i64] [bG7,bG8,bG9,bGB] aMR (JK,Qm,()) λ_=>bS<|dP (bS<|bS<|dP pr<|aO pr)<|bS<|dP pr<|aO pr
def Qn(x0:Γ b6)(x1:Γ b6):Int:=if !xJ x0 then 1 else if !xL x1 then 1 else 0
def bGD:KK:=mB Tryz.func378 [.v (.sl eC),.v (.sl eC)] [.int .i64] [bEd,bEf] nP (Qn,()) λ_=>bS<|fP (j0 pr)<|bS<|fP pr pr
def qQ(x0:b6)(x1:b6):Bool:=if IntKind.wrap IntKind.i64 (↑(BitVec.toNat (BitVec.ofInt 64 x1.2.1 &&& ~~~BitVec.ofInt 64 x0.2.1)):Int)==0 then decide (x0.2.2.1<=x1.2.2.1)else false
def bGE:KK:=mB Tryz.func456 [.v eC,.v eC] [.bool] [] nP (qQ,()) λ_=>fP pr pr
def aZA:jB:=D0 aD6 [.v (.sl eC),.v eC] [.sl Jy] [bGE]
mutual
def bGF:Nat->Γ b6->Δ×Int×Int×Unit->Γ aS->Prop
 | 0,_,_,_=>False
 | n+1,x0,x1,ds=>Mg n 0 ([]) x0 x1 ds
def Mg:Nat->Int->Γ Int->Γ b6->Δ×Int×Int×Unit->Γ aS->Prop
 | 0,_,_,_,_,_=>False
 | n+1,v10,h1,x0,x1,ds=>if decide (v10<(x0.length:Int))then 0<=v10/\v10<(x0.length:Int)/\if qQ (aD x0 (aE v10) (aC,0,0,())) x1 then(aF h1+1)*8<=140737488355328/\bA .i64 (v10+1)/\Mg n (v10+1) (h1++[v10]) x0 x1 ds else bA .i64 (v10+1)/\Mg n (v10+1) h1 x0 x1 ds else ds=[aJ (.sl Jy) h1]
end
def aZB(ds:Γ aS)(K:gU)(q:Nat->Value):∀n,(∀ {x0 x1},bGF n x0 x1 ds->St aZA (x0,x1,()) ds [] K q)/\(∀ {v10 h1 x0 x1},Mg n v10 h1 x0 x1 ds->Cu aZA 3 ([eO 3 0 0 [],eW 5 1,eL 8 eC x0,eI 9 (x0.length:Int),eI 10 v10],[some (iJ.mk eC [x1] true none (some false)),cN (.int .i64) h1]) ds [] K q):=nI ⟨aH,aH⟩ λn ⟨i,i3⟩=>⟨Dl [(5,.int .i64)] i3,
  bU (eE<|bS<|bU (aO<|aO<|Dl [(5,.int .i64)] i3)<|aO<|Dl [(5,.int .i64)] i3) dR⟩
abbrev Sg:=Δ×Int×Int×Unit
def pA(x1:Sg):Γ Sg->Nat->Γ Int
 | [],_=>[]
 | h::r,i=>if qQ h x1=true then(i:Int)::pA x1 r (i+1)else pA x1 r (i+1)
def sQ(x0:Γ Sg)(x1:Sg):Γ Int:=pA x1 x0 0
def bGG(x0:Γ Sg)(x1:Sg):Prop:=x0.length<=1000000
def aZC(x0:Γ Sg)(x1:Sg)(hl:x0.length<=1000000):∀(k i:Nat) (h1:Γ Int),i+k=x0.length->h1.length<=i->Mg (k+1) (i:Int) h1 x0 x1 [⟨.sl Jy,h1++pA x1 (x0.drop i) i⟩]:=by
 intro k
 induction k with
 | zero =>
  intro i h1 hi hh;rw[Mg,ν (by simp only[ε];omega),bT (by omega),pA,cK]
 | succ k ih =>
  intro i h1 hi hh;have hlt:i<x0.length:=by omega
  have e3:(i:Int)+1=((i+1:Nat):Int):=by omega
  rw[Mg,π (by simp only[ε];omega),eD x0 i (aC,0,0,()) hlt,pA,e3,aI];generalize x0.getD i (aC,0,0,())=l at *;refine⟨by omega,by omega,?_⟩;by_cases c:qQ l x1=true
  ·have:=ih (i+1) (h1++[(i:Int)]) (by omega) (by rw[aU,bP];omega);refine(π c).mpr ⟨by omega,by rw[aK];omega,?_⟩;rw[π c];rw[bZ]at this;exact this
  ·refine(ν c).mpr ⟨by rw[aK];omega,?_⟩;rw[ν c];exact ih (i+1) h1 (by omega) (by omega)
def aWo:KK:=mL aZA (DO aD6) bGG (sQ,()) (λ⟨x0,x1,_⟩ h hwf K q =>
 (aZB _ K q ((x0.length+2))).1 (by rw[bGF];exact aZC x0 x1 h x0.length 0 [] (by omega) (bG _)))
def aZD:jB:=D0 aD7 [.v (.sl Jy),.v (.int .i64)] [.int .i64] []
mutual
def aZE:Nat->Γ Int->Int->Γ aS->Prop
 | 0,_,_,_=>False
 | n+1,x0,x1,ds=>Mh n 0 x0 x1 ds
def Mh:Nat->Int->Γ Int->Int->Γ aS->Prop
 | 0,_,_,_,_=>False
 | n+1,v8,x0,x1,ds=>if decide (v8<(x0.length:Int))then 0<=v8/\v8<(x0.length:Int)/\if x1==aD x0 (aE v8) 0 then ds=[aJ (.int .i64) v8] else bA .i64 (v8+1)/\Mh n (v8+1) x0 x1 ds else ds=[aJ (.int .i64) (-1)]
end
def aZF(ds:Γ aS)(K:gU)(q:Nat->Value):∀n,(∀ {x0 x1},aZE n x0 x1 ds->St aZD (x0,x1,()) ds [] K q)/\(∀ {v8 x0 x1},Mh n v8 x0 x1 ds->Cu aZD 2 ([eL 0 (.int .i64) x0,eI 1 x1,eI 7 (x0.length:Int),eI 8 v8],[]) ds [] K q):=nI ⟨aH,aH⟩ λn ⟨i,i2⟩=>⟨cX i2,
  bU (eE<|bU dR<|aO<|cX i2) dR⟩
def aZG(x0:Γ Int)(x1:Int)(hm:x0.length<=maxLen):aZE (x0.length+1+1) x0 x1 [⟨.int .i64,GE x0 x1⟩]:=by
 rw[aZE];have key:=Er x0 0 (Sd x1) [(⟨.int .i64, -1⟩:aS)] (λk=>[⟨.int .i64,k⟩]) (λn i ds=>Mh n i x0 x1 ds) (λn=>?_) (λn i hi hok ds hr=>?_) (λn i hi hok=>?_)
 ·unfold GE;cases h:x0.findIdx? (Sd x1) <;> rw[h]at key <;> exact key
 ·rw[Mh,ν (by simp)]
 ·rw[Mh,π (by simp;omega)];simp only[aI];refine⟨by omega,by omega,?_⟩;unfold Sd at hok;rw[ν (by rw[hok];simp)];exact⟨jZ hm hi,hr⟩
 ·rw[Mh,π (by simp;omega)];simp only[aI];refine⟨by omega,by omega,?_⟩;unfold Sd at hok;rw[π hok] <;> trivial
def aZH(x0:Γ Int)(x1:Int):decide (GE x0 x1>=0)=x0.any (Sd x1):=by
 have:=DG (Sd x1) x0;unfold GE;cases h:x0.any (Sd x1)with
 | true=>rw[h]at this;simpa using this
 | false=>rw[h]at this;simpa using this
def bGH:KK:=mL aZD (DO aD7) nP (GE,()) (λ⟨x0,x1,_⟩ h hwf K q =>
 (aZF _ K q _).1 (aZG x0 x1 hwf.1.1))
def zL(x0:Γ Int)(x1:Int):Bool:=decide (GE x0 x1>=0)
def aWp:KK:=mB Tryz.func425 [.v (.sl Jy),.v (.int .i64)] [.bool] [bGH] nP (zL,()) λ_=>bS pr
end
def aZI:Γ AT:=[AT.v (Ty.sl (mJ .i64))]
def Qp(x0:Γ (Int)):Γ (Int):=x0
def bGI(x0:Γ (Int)):Prop:=x0.length<=1048576
def bGJ:Am.Spec:={ sig:=aZI,pre:=λ⟨x0,_⟩=>bGI x0,res:=λ⟨x0,_⟩=>[⟨Ty.sl (mJ .i64),Qp x0⟩] }
def aZJ:S0 426 bGJ:=AJ Tryz.func426<|qN (xE 66) rfl rfl (by decide) (by decide) xN.2.2.2.2.2.2.2.2 tI.2.2.2.2.2.2.2.2
noncomputable section
def zM(fl:Γ Int->Option (Γ Int))(x2:Γ Int):Γ Int->Option (Γ Int)
 | []=>none
 | k::r=>if zL x2 k=true then zM fl x2 r else match fl (x2++[k])with
  | some y=>some y
  | none=>zM fl x2 r
def fL(x0 x1:Γ Sg):Nat->Γ Int->Option (Γ Int)
 | 0,x2=>some x2
 | m+1,x2=>zM (fL x0 x1 m) x2 (sQ x0 (x1.getD x2.length (aC,0,0,())))
def GJ(x0 x1:Γ Sg)(x2:Γ Int):Γ Int:=(fL x0 x1 (x1.length-x2.length) x2).getD []
def Dz(x0 x1:Γ Sg)(x2:Γ Int):Bool:=(fL x0 x1 (x1.length-x2.length) x2).isSome
def aFF(k:Nat)(x0 x1:Γ Sg)(x2:Γ Int):Prop:=x2.length<=x1.length/\x1.length+1-x2.length<=k/\x1.length<=1000/\x0.length<=1000
def aAd(k:Nat):Am.Spec:={ sig:=[AT.v (.sl eC),AT.v (.sl eC),AT.v (.sl Jy)],pre:=λ⟨x0,x1,x2,_⟩=>aFF k x0 x1 x2,res:=λ⟨x0,x1,x2,_⟩=>[⟨.sl Jy,GJ x0 x1 x2⟩,⟨.bool,Dz x0 x1 x2⟩],kds:=[.frz,.own] }
def aP7(kk:Nat):A7:=[(424,aWo.S),(425,aWp.S),(426,bGJ),(379,aAd kk)]
def aP8(kk:Nat)(ih:Con aL 379 (aAd kk)):q8 aL (aP7 kk):=⟨aWo.h,aWp.h,aZJ,ih,trivial⟩
def aZK:Γ AT:=[AT.v (.sl eC),AT.v (.sl eC),AT.v (.sl Jy)]
def aZL(kk:Nat):jB:=⟨379,Tryz.f379,aZK,[.sl Jy,.bool],[.frz,.own],aP7 kk,false,[]⟩
def bLL(kk:Nat)(ih:Con aL 379 (aAd kk)):Fok aL tab (aZL kk):=⟨aD8,xE,(aP8 kk ih),mixed⟩
def aZM(v26:Int)(x0:Γ b6)(x1:Γ b6)(x2:Γ Int):gK×bM:=([eL 0 eC x0,eL 1 eC x1,eL 2 (.int .i64) x2,eW 24 0,eI 25 (↑(aF (sQ x0 (aD x1 (aE (x2.length:Int)) (aC,0,0,())))):Int),eI 26 v26],[cN (.int .i64) (sQ x0 (aD x1 (aE (x2.length:Int)) (aC,0,0,())))])
mutual
def aT2(kk:Nat):Nat->Γ b6->Γ b6->Γ Int->Γ aS->Prop
 | 0,_,_,_,_=>False
 | n+1,x0,x1,x2,ds=>(if((x2.length:Int)==(x1.length:Int))=true then(ds=[aJ (.sl Jy) x2,aJ .bool true])else((0<=(x2.length:Int))/\((x2.length:Int)<(x1.length:Int))/\((bGG x0 (aD x1 (aE (x2.length:Int)) (aC,0,0,())))/\(Mi kk n (0) (x0) (x1) (x2) ds))))
def Mi(kk:Nat):Nat->Int->Γ b6->Γ b6->Γ Int->Γ aS->Prop
 | 0,_,_,_,_,_=>False
 | n+1,v26,x0,x1,x2,ds=>(if decide (v26<(↑(aF (sQ x0 (aD x1 (aE (x2.length:Int)) (aC,0,0,())))):Int))=true then((0<=v26)/\(v26<(↑(aF (sQ x0 (aD x1 (aE (x2.length:Int)) (aC,0,0,())))):Int))/\(if zL x2 (aD (sQ x0 (aD x1 (aE (x2.length:Int)) (aC,0,0,()))) (aE v26) 0)=true then((bA .i64 (v26+1))/\(Mi kk n (v26+1) (x0) (x1) (x2) ds))else((bGI x2)/\(((aF (Qp x2)+1)*8<=140737488355328)/\(((aAd kk).2 (x0,x1,Qp x2++[aD (sQ x0 (aD x1 (aE (x2.length:Int)) (aC,0,0,()))) (aE v26) 0],()))/\(if Dz x0 x1 (Qp x2++[aD (sQ x0 (aD x1 (aE (x2.length:Int)) (aC,0,0,()))) (aE v26) 0])=true then(ds=[aJ (.sl Jy) (GJ x0 x1 (Qp x2++[aD (sQ x0 (aD x1 (aE (x2.length:Int)) (aC,0,0,()))) (aE v26) 0])),aJ .bool true])else((bA .i64 (v26+1))/\(Mi kk n (v26+1) (x0) (x1) (x2) ds))))))))else(ds=[aJ (.sl Jy) [],aJ .bool false]))
end
def aZN(kk:Nat)(ds:Γ aS)(K:gU)(q:Nat->Value):∀n,(∀ {x0 x1 x2},aT2 kk n x0 x1 x2 ds->St (aZL kk) (x0,x1,x2,()) ds [] K q)/\(∀ {v26 x0 x1 x2},Mi kk n v26 x0 x1 x2 ds->Cu (aZL kk) 4 (aZM v26 x0 x1 x2) ds [] K q):=by
 intro n
 induction n with
 | zero=>exact⟨λh=>h.elim,λh=>h.elim⟩
 | succ n ih =>
 obtain⟨i,i4⟩:=ih;exact⟨λh=>bR h (λh=>rh h) λh=>c2 h λh=>c1 h λh=>jp (i4 h),
  λh=>bR h (λh=>c2 h λh=>tv<|bR h (λh=>c1 h λh=>jp (i4 h)) λh=>c1 h λh=>c1 h λh=>c1 h λh=>bR h (λh=>rh h) λh=>c1 h λh=>jp (i4 h)) λh=>rh h⟩
def aT3(kk:Nat)(x0 x1:Γ Sg)(x2:Γ Int)(h:aFF (kk+1) x0 x1 x2)(hlt:x2.length<x1.length)(M:Nat)(hM:M+1=x1.length-x2.length)(hks:(sQ x0 (x1.getD x2.length (aC,0,0,()))).length<=9000000000):∀(k i:Nat),i+k=(sQ x0 (x1.getD x2.length (aC,0,0,()))).length ->
  Mi kk (k+1) (i:Int) x0 x1 x2 [⟨.sl Jy,(zM (fL x0 x1 M) x2 ((sQ x0 (x1.getD x2.length (aC,0,0,()))).drop i)).getD []⟩,⟨.bool,(zM (fL x0 x1 M) x2 ((sQ x0 (x1.getD x2.length (aC,0,0,()))).drop i)).isSome⟩]:=by
 obtain⟨h1,h2,h3,h4⟩:=h;have e0:aE (x2.length:Int)=x2.length:=aI _;intro k
 induction k with
 | zero =>
  intro i hi;rw[Mi,e0,ν (by simp only[ε];omega),bT (by omega)]<;>rfl
 | succ k ih =>
  intro i hi;have e3:(i:Int)+1=((i+1:Nat):Int):=by omega
  have ih:=ih (i+1) (by omega);rw[Mi,e0,e3,aI,π (by simp only[ε];omega),eD _ i 0 (by omega)];generalize sQ x0 (x1.getD x2.length (aC,0,0,()))=ks at *;generalize ks.getD i 0=y at *;refine⟨by omega,by omega,?_⟩;rw[zM];by_cases c:zL x2 y=true
  ·simp only[π c];exact⟨by rw[aK];omega,ih⟩
  ·simp only[ν c];refine⟨show x2.length<=1048576 by omega,show (x2.length+1)*8<=140737488355328 by omega,?_,?_⟩
   ·show (x2++[y]).length<=x1.length/\x1.length+1-(x2++[y]).length<=kk/\x1.length<=1000/\x0.length<=1000;rw[aU,bP];exact⟨by omega,by omega,h3,h4⟩
   ·have eM:x1.length-(x2++[y]).length=M:=by
     rw[aU,bP];omega
    have g0:GJ x0 x1 (x2++[y])=(fL x0 x1 M (x2++[y])).getD []:=by unfold GJ;rw[eM]
    have g1:Dz x0 x1 (x2++[y])=(fL x0 x1 M (x2++[y])).isSome:=by unfold Dz;rw[eM]
    have gc:Qp x2=x2:=rfl;rw[gc,g0,g1];cases hf:fL x0 x1 M (x2++[y])with
    | none =>
     rw[ν (by simp)];exact⟨by rw[aK];omega,ih⟩
    | some z=>exact(π rfl).mpr rfl
def aZO(kk:Nat)(x0 x1:Γ Sg)(x2:Γ Int)(h:aFF (kk+1) x0 x1 x2)(hks:∀x,(sQ x0 x).length<=9000000000):∃n,aT2 kk n x0 x1 x2 [⟨.sl Jy,GJ x0 x1 x2⟩,⟨.bool,Dz x0 x1 x2⟩]:=by
 have hh:=h;obtain⟨h1,h2,h3,h4⟩:=h;have e0:aE (x2.length:Int)=x2.length:=aI _;by_cases c:x2.length=x1.length
 ·refine⟨1,?_⟩;unfold GJ Dz;rw[aT2,π (show ((x2.length:Int)==(x1.length:Int))=true by rw[beq_iff_eq];omega),show x1.length-x2.length=0 by omega]<;>rfl
 ·obtain⟨M,hM⟩:∃M,M+1=x1.length-x2.length:=⟨x1.length-x2.length-1,by omega⟩;have:=aT3 kk x0 x1 x2 hh (by omega) M hM (hks _) _ 0 (by rw[bX]);refine⟨(sQ x0 (x1.getD x2.length (aC,0,0,()))).length+1+1,?_⟩;unfold GJ Dz;rw[aT2,ν (show ¬((x2.length:Int)==(x1.length:Int))=true by rw[beq_iff_eq];omega), <- hM,fL,e0];exact⟨by omega,by omega,show x0.length<=1000000 by omega,this⟩
theorem aKB(x1:Sg):∀(l:Γ Sg) (i:Nat),(pA x1 l i).length<=l.length
 | [],_=>aT _
 | a::l,i=>by
  unfold pA;have:=aKB x1 l (i+1);split
  ·simp only[cL];omega
  ·simp only[cL];omega
theorem aKC:∀k,Con aL 379 (aAd k)
 | 0=>AJ aD8 λw G G0 ⟨x0,x1,x2,_⟩ vs bss _ _ _ hp=>by
  obtain⟨h1,h2,_⟩:aFF 0 x0 x1 x2:=hp;omega
 | k+1=>mkC (bLL k (aKC k)) λ⟨x0,x1,x2,_⟩ h hwf K q=>by
  have h':aFF (k+1) x0 x1 x2:=h;obtain⟨n,hn⟩:=aZO k x0 x1 x2 h' (λx=>by
   have:=aKB x x0 0;have:=h'.2.2.2;show (pA x x0 0).length<=_;omega)
  have hs:=λds=>aZN k ds K q n;exact(hs _).1 hn
def aZP:Am.Spec:=aAd 2000
def aZQ:S0 379 aZP:=aKC 2000
def bGK:KK:=⟨379,aZP,aZQ⟩
def aZR(x0:Γ b6)(x1:Γ b6):Prop:=if Qn x0 x1 != 0 then True else aZP.2 (x0,x1,[],())/\True
def JL(x0:Γ b6)(x1:Γ b6):Γ Int:=if Qn x0 x1 != 0 then [] else if !Dz x0 x1 [] then [] else GJ x0 x1 []
def Qq(x0:Γ b6)(x1:Γ b6):Int:=if Qn x0 x1 != 0 then Qn x0 x1 else if !Dz x0 x1 [] then 3 else 0
def bGL:KK:=mA (D aD9 [.v (.sl eC),.v (.sl eC)] [.sl Jy,.int .i64] [.frz,.own] [bGD,bGK] false []) (DO aD9) aZR (JL,Qq,()) λ_=>bS<|dP pr<|aO<|vD pr pr
def aMS(x0:bV)(x1:Δ×Δ×Γ Int×Γ Int×Unit):Prop:=if aB x1.1==aB (aA #[114,117,110,110,105,110,103])then aTy x0.2.2.2.1 x0.2.2.1/\True else if aB x1.1==aB (aA #[99,111,118,101,114])then 0<(x1.2.2.1.length:Int)/\1<(x1.2.2.1.length:Int)/\bG5 x0.2.2.2.2.2.2.1 (aD x1.2.2.1 0 0) (aD x1.2.2.1 1 0)/\True else if aB x1.1==aB (aA #[113,117,101,117,101])then 0<(x1.2.2.1.length:Int)/\1<(x1.2.2.1.length:Int)/\aMR x1.2.2.2.1 (aD x1.2.2.1 0 0) (aD x1.2.2.1 1 0)/\True else aZR x0.2.2.2.2.2.2.2.2.2.2.1 x0.2.2.2.2.2.2.2.2.2.2.2.1/\True
def EA(x0:bV)(x1:Δ×Δ×Γ Int×Γ Int×Unit):Γ Int:=if aB x1.1==aB (aA #[114,117,110,110,105,110,103])then Dv x0.2.2.2.1 x0.2.2.1 else if aB x1.1==aB (aA #[99,111,118,101,114])then Dw x0.2.2.2.2.2.2.1 (aD x1.2.2.1 0 0) (aD x1.2.2.1 1 0)else if aB x1.1==aB (aA #[113,117,101,117,101])then JK x1.2.2.2.1 (aD x1.2.2.1 0 0) (aD x1.2.2.1 1 0)else JL x0.2.2.2.2.2.2.2.2.2.2.1 x0.2.2.2.2.2.2.2.2.2.2.2.1
def GL(x0:bV)(x1:Δ×Δ×Γ Int×Γ Int×Unit):Int:=if aB x1.1==aB (aA #[114,117,110,110,105,110,103])then JG x0.2.2.2.1 x0.2.2.1 else if aB x1.1==aB (aA #[99,111,118,101,114])then Me x0.2.2.2.2.2.2.1 (aD x1.2.2.1 0 0) (aD x1.2.2.1 1 0)else if aB x1.1==aB (aA #[113,117,101,117,101])then Qm x1.2.2.2.1 (aD x1.2.2.1 0 0) (aD x1.2.2.1 1 0)else Qq x0.2.2.2.2.2.2.2.2.2.2.1 x0.2.2.2.2.2.2.2.2.2.2.2.1
def bGM:KK:=mA (D aDA [.p iU,.v K4] [.sl Jy,.int .i64] [.frz,.own] [bG0,bG6,bGC,bGL] false []) (DO aDA) aMS (EA,GL,()) λ_=>dP (aO pr)<|dP (pq 0<|aO<|pq 1<|aO<|aO pr)<|dP (pq 0<|aO<|pq 1<|aO<|aO pr)<|aO pr
def aZS:jB:=D0 aDB [.v (.sl Jy)] [.bool] [aK3]
mutual
def aZT:Nat->Γ Int->Γ aS->Prop
 | 0,_,_=>False
 | n+1,x0,ds=>GM n 0 x0 ds
def GM:Nat->Int->Γ Int->Γ aS->Prop
 | 0,_,_,_=>False
 | n+1,v7,x0,ds=>if decide (v7<(x0.length:Int))then 0<=v7/\v7<(x0.length:Int)/\if !pK (aD x0 (aE v7) 0)then ds=[aJ .bool false] else if decide (v7>0)then bA .i64 (v7-1)/\0<=v7-1/\v7-1<(x0.length:Int)/\if decide (aD x0 (aE v7) 0<aD x0 (aE (v7-1)) 0)then ds=[aJ .bool false] else bA .i64 (v7+1)/\GM n (v7+1) x0 ds else bA .i64 (v7+1)/\GM n (v7+1) x0 ds else ds=[aJ .bool (decide ((x0.length:Int)<=40))]
end
def aZU(ds:Γ aS)(K:gU)(q:Nat->Value):∀n,(∀ {x0},aZT n x0 ds->St aZS (x0,()) ds [] K q)/\(∀ {v7 x0},GM n v7 x0 ds->Cu aZS 2 ([eL 0 (.int .i64) x0,eL 5 (.int .i64) x0,eI 6 (x0.length:Int),eI 7 v7],[]) ds [] K q):=nI ⟨aH,aH⟩ λn ⟨i,i2⟩=>⟨cX i2,
  bU (eE<|bS<|bU (j0 dR)<|bU (aO<|eE<|bU dR<|aO<|cX i2)<|dN<|aO<|cX i2) dR⟩
def CK(x0:Γ Int)(i:Nat)(x:Int):Bool:=pK x&&(i==0 || !decide (x<x0.getD (i-1) 0))
def jE(x0:Γ Int):Bool:=nL (CK x0) 0 x0&&decide ((x0.length:Int)<=40)
def aKD(n i:Nat)(x0:Γ Int)(hm:x0.length<=maxLen)(hi:i<x0.length)(ds:Γ aS)
  (h:if CK x0 i (x0.getD i 0)=true then GM n ((i:Int)+1) x0 ds else ds=[⟨.bool,false⟩]):GM (n+1) (i:Int) x0 ds:=by
 have hu:=jZ hm hi;have hmx:maxLen<=9223372036854775807:=by decide
 rw[GM,π (by simp only[ε];omega),aI];refine⟨by omega,by omega,?_⟩;unfold CK at h;by_cases h1:pK (x0.getD i 0)=true
 case neg =>
  rw[Dm h1]at h;exact(π (by rw[Dm h1];rfl)).mpr (by simpa using h)
 refine(ν (by rw[h1];decide)).mpr ?_;rw[h1]at h;by_cases h0:(i:Int)>0
 case neg =>
  have hi0:(i==0)=true:=by simp;omega
  rw[hi0]at h;exact(ν (by simpa using h0)).mpr ⟨hu,by simpa using h⟩
 have hi0:(i==0)=false:=by simp;omega
 have e:((i:Int)-1).toNat=i-1:=by omega
 rw[hi0]at h;refine(π (by simpa using h0)).mpr ⟨by rw[aK];omega,by omega,by omega,?_⟩;rw[e];by_cases h3:x0.getD i 0<x0.getD (i-1) 0
 ·rw[decide_eq_true h3]at h;exact(π (decide_eq_true h3)).mpr (by simpa using h)
 ·rw[decide_eq_false h3]at h;exact(ν (by simpa using h3)).mpr ⟨hu,by simpa using h⟩
def aZV(x0:Γ Int)(hw:x0.length<=maxLen):aZT (x0.length+1+1) x0 [⟨.bool,jE x0⟩]:=by
 rw[aZT];have key:=y8 x0 0 (CK x0) [(⟨.bool,false⟩:aS)] [⟨.bool,decide ((x0.length:Int)<=40)⟩] (λn i ds=>GM n i x0 ds) (λn=>?_) (λn i hi hok ds hr=>?_) (λn i hi hok=>?_)
 ·unfold jE;cases h:nL (CK x0) 0 x0 with
  | true=>rw[π h]at key;simpa using key
  | false=>rw[ν (by rw[h];simp)]at key;simpa using key
 ·rw[GM,ν (by simp)]
 ·exact aKD n i x0 hw hi ds (by rw[π hok];exact hr)
 ·exact aKD n i x0 hw hi _ (by rw[ν (by rw[hok];simp)])
def bGN:KK:=mL aZS (DO aDB) nP (jE,()) (λ⟨x0,_⟩ h hwf K q =>
 (aZU _ K q _).1 (aZV x0 hwf.1.1))
def WD(x0:eR)(x1:Δ):Bool:=aB x0.1==aB x1
def bGO:KK:=mB Tryz.func428 [.v fQ,.p .str] [.bool] [] nP (WD,()) λ_=>pr
def WE:jB:=D0 aDC [.v (.sl fQ),.fn 428 [(true,.str)]] [.int .i64] [bGO]
mutual
def WF:Nat->Γ eR->Δ->Γ aS->Prop
 | 0,_,_,_=>False
 | n+1,x0,x1,ds=>vO n 0 x0 x1 ds
def vO:Nat->Int->Γ eR->Δ->Γ aS->Prop
 | 0,_,_,_,_=>False
 | n+1,v8,x0,x1,ds=>if decide (v8<(x0.length:Int))then 0<=v8/\v8<(x0.length:Int)/\if WD (aD x0 (aE v8) (aC,0,0,0,())) x1 then ds=[aJ (.int .i64) v8] else bA .i64 (v8+1)/\vO n (v8+1) x0 x1 ds else ds=[aJ (.int .i64) (-1)]
end
def aIV(ds:Γ aS)(K:gU)(q:Nat->Value):∀n,(∀ {x0 x1},WF n x0 x1 ds->St WE (x0,(x1,()),()) ds [] K q)/\(∀ {v8 x0 x1},vO n v8 x0 x1 ds->Cu WE 2 ([eL 0 fQ x0,(1,o9 428 [rD .str x1]),eI 7 (x0.length:Int),eI 8 v8],[]) ds [] K q):=nI ⟨aH,aH⟩ λn ⟨i,i2⟩=>⟨cX i2,
  bU (eE<|bS<|bU dR<|aO<|cX i2) dR⟩
def qR(x0:Γ eR)(y0:Δ):Int:=idx (x0.findIdx? (λx=>WD x y0))
def aIW(x0:Γ eR)(y0:Δ)(hm:x0.length<=maxLen):WF (x0.length+1+1) x0 y0 [⟨.int .i64,qR x0 y0⟩]:=by
 rw[WF];have key:=Er x0 (aC,(0:Int),(0:Int),(0:Int),()) (λx=>WD x y0) [(⟨.int .i64, -1⟩:aS)] (λk=>[⟨.int .i64,k⟩]) (λn i ds=>vO n i x0 y0 ds) (λn=>?_) (λn i hi hok ds hr=>?_) (λn i hi hok=>?_)
 ·unfold qR;cases h:x0.findIdx? (λx=>WD x y0) <;> rw[h]at key <;> exact key
 ·rw[vO,ν (by simp)]
 ·rw[vO,π (by simp;omega)];simp only[aI];refine⟨by omega,by omega,?_⟩;rw[ν (by rw[hok];simp)];exact⟨jZ hm hi,hr⟩
 ·rw[vO,π (by simp;omega)];simp only[aI];refine⟨by omega,by omega,?_⟩;rw[π hok] <;> trivial
def aMT:KK:=mL WE (DO aDC) nP (qR,()) (λ⟨x0,⟨y0,_⟩,_⟩ h hwf K q =>
 (aIV _ K q _).1 (aIW x0 y0 hwf.1.1))
def aZW(x0:Γ eR)(x1:Δ):Prop:=if decide (qR x0 x1<0)then True else 0<=qR x0 x1/\qR x0 x1<(x0.length:Int)/\True
def aZX(x0:Γ eR)(x1:Δ):eR:=if decide (qR x0 x1<0)then(aC,0,0,0,())else aD x0 (aE (qR x0 x1)) (aC,0,0,0,())
def WG(x0:Γ eR)(x1:Δ):Bool:=if decide (qR x0 x1<0)then false else true
def bGP:KK:=mB Tryz.func380 [.v (.sl fQ),.v (.str)] [.cons .str dX,.bool] [aMT] aZW (aZX,WG,()) λ_=>bS<|dP pr<|eE pr
def aZY:jB:=D0 aDD [.v (.sl fQ),.v (.bool),.v (.sl .str)] [.int .i64] [bEb,bGP]
mutual
def aZZ:Nat->Γ eR->Bool->Γ Δ->Γ aS->Prop
 | 0,_,_,_,_=>False
 | n+1,x0,x1,x2,ds=>if !rB x0 then ds=[aJ (.int .i64) 1] else if !x1 then ds=[aJ (.int .i64) 2] else Mj n 0 x0 x2 ds
def Mj:Nat->Int->Γ eR->Γ Δ->Γ aS->Prop
 | 0,_,_,_,_=>False
 | n+1,v20,x0,x2,ds=>if decide (v20<(x2.length:Int))then 0<=v20/\v20<(x2.length:Int)/\aZW x0 (aD x2 (aE v20) aC)/\if !WG x0 (aD x2 (aE v20) aC)then ds=[aJ (.int .i64) 3] else bA .i64 (v20+1)/\Mj n (v20+1) x0 x2 ds else ds=[aJ (.int .i64) 0]
end
def bAa(ds:Γ aS)(K:gU)(q:Nat->Value):∀n,(∀ {x0 x1 x2},aZZ n x0 x1 x2 ds->St aZY (x0,x1,x2,()) ds [] K q)/\(∀ {v20 x0 x2},Mj n v20 x0 x2 ds->Cu aZY 6 ([eL 0 fQ x0,eL 18 .str x2,eI 19 (x2.length:Int),eI 20 v20],[]) ds [] K q):=nI ⟨aH,aH⟩ λn ⟨i,i6⟩=>⟨bS<|bU dR<|bU dR<|cX i6,
  bU (eE<|aO<|bU dR<|aO<|cX i6) dR⟩
def lL(x0:Γ eR)(x1:Bool)(x2:Γ Δ):Int:=if !rB x0 then 1 else if !x1 then 2 else if x2.all λy=>WG x0 y then 0 else 3
def aT4(x0:Γ eR)(x1:Bool)(x2:Γ Δ):Prop:=∀y∈x2,aZW x0 y
def bAb(x0:Γ eR)(x1:Bool)(x2:Γ Δ)(h:aT4 x0 x1 x2)(hm:x2.length<=maxLen):aZZ (x2.length+1+1) x0 x1 x2 [⟨.int .i64,lL x0 x1 x2⟩]:=by
 rw[aZZ];unfold lL;by_cases h1:(!rB x0)=true
 ·rw[π h1,π h1]
 rw[ν h1,ν h1];by_cases h2:(!x1)=true
 ·rw[π h2,π h2]
 rw[ν h2,ν h2];have key:=tG x2 aC (λy=>WG x0 y) [(⟨.int .i64,3⟩:aS)] [⟨.int .i64,0⟩] (λn i ds=>Mj n i x0 x2 ds) (λn=>?_) (λn i hi hok ds hr=>?_) (λn i hi hok=>?_)
 ·cases hh:x2.all (λy=>WG x0 y) <;> rw[hh]at key <;> simpa using key
 ·rw[Mj,ν (by simp)]
 ·rw[Mj,π (by simp;omega)];simp only[aI];refine⟨by omega,by omega,h _ (bY x2 i aC hi),?_⟩;rw[ν (by rw[hok];simp)];exact⟨jZ hm hi,hr⟩
 ·rw[Mj,π (by simp;omega)];simp only[aI];refine⟨by omega,by omega,h _ (bY x2 i aC hi),?_⟩;rw[π (by rw[hok];rfl)] <;> trivial
def bGQ:KK:=mL aZY (DO aDD) aT4 (lL,()) (λ⟨x0,x1,x2,_⟩ h hwf K q =>
 (bAa _ K q _).1 (bAb x0 x1 x2 h hwf.2.2.1.1))
def aP9(x0:Γ Int):Int:=(x0.length:Int)
def bGR:KK:=mB Tryz.func381 [.v (.sl Jy)] [.int .i64] [] nP (aP9,()) λ_=>pr
def bAc:jB:=D0 aDE [.v (.sl fQ),.v (.sl Jy)] [.cons .str dX,.bool] [bGR]
mutual
def bGS:Nat->Γ eR->Γ Int->Γ aS->Prop
 | 0,_,_,_=>False
 | n+1,x0,x1,ds=>Ai n false 0 ((aC,0,0,0,())) x1 x0 ds
def Ai:Nat->Bool->Int->Δ×Int×Int×Int×Unit->Γ Int->Γ eR->Γ aS->Prop
 | 0,_,_,_,_,_,_=>False
 | n+1,v7,v14,h1,x1,x0,ds=>if decide (v14<(x0.length:Int))then 0<=v14/\v14<(x0.length:Int)/\if decide ((aD x0 (aE v14) (aC,0,0,0,())).2.2.1>=aP9 x1)then bA .i64 ((x1.length:Int)-1)/\0<=(x1.length:Int)-1/\(x1.length:Int)-1<(x1.length:Int)/\0<(x1.length:Int)/\bA .i64 (aD x1 (aE ((x1.length:Int)-1)) 0-aD x1 0 0)/\if decide (aD x1 (aE ((x1.length:Int)-1)) 0-aD x1 0 0<(aD x0 (aE v14) (aC,0,0,0,())).2.2.2.1)then(if !v7 then bA .i64 (v14+1)/\Ai n true (v14+1) (aD x0 (aE v14) (aC,0,0,0,())) x1 x0 ds else if decide ((aD x0 (aE v14) (aC,0,0,0,())).2.1<h1.2.1)then bA .i64 (v14+1)/\Ai n true (v14+1) (aD x0 (aE v14) (aC,0,0,0,())) x1 x0 ds else bA .i64 (v14+1)/\Ai n v7 (v14+1) h1 x1 x0 ds)else bA .i64 (v14+1)/\Ai n v7 (v14+1) h1 x1 x0 ds else bA .i64 (v14+1)/\Ai n v7 (v14+1) h1 x1 x0 ds else ds=[aJ fQ h1,aJ .bool v7]
end
def bAd(ds:Γ aS)(K:gU)(q:Nat->Value):∀n,(∀ {x0 x1},bGS n x0 x1 ds->St bAc (x0,x1,()) ds [] K q)/\(∀ {v7 v14 h1 x1 x0},Ai n v7 v14 h1 x1 x0 ds->Cu bAc 3 ([eL 1 (.int .i64) x1,eO 4 0 0 [],eO 6 1 0 [],eB 7 v7,eL 12 fQ x0,eI 13 (x0.length:Int),eI 14 v14],[some (iJ.mk fQ [(aC,0,0,0,())] true none (some false)),some (iJ.mk fQ [h1] true none (some false))]) ds [] K q):=nI ⟨aH,aH⟩ λn ⟨i,i3⟩=>⟨cX i3,
  bU (eE<|bS<|bU (aO<|eE<|pq 0<|aO<|aO<|bU (bU (j0<|aO<|cX i3)<|bU (aO<|cX i3)<|aO<|cX i3)<|dN<|aO<|cX i3)<|dN<|dN<|aO<|cX i3) dR⟩
abbrev aPA:Ty := .cons .str dX
def DP(x1:Γ Int)(f:O7):Bool:=decide (f.2.2.1>=(x1.length:Int))&&decide (x1.getD (x1.length-1) 0-x1.getD 0 0<f.2.2.2.1)
def pZ(x1:Γ Int)(s:Bool×O7)(f:O7):Bool×O7:=if DP x1 f=true then(if(!s.1)=true then(true,f)else if decide (f.2.1<s.2.2.1)=true then(true,f)else s)else s
def Mk(x0:Γ O7)(x1:Γ Int):Bool×O7:=x0.foldl (pZ x1) (false,(aC,0,0,0,()))
def iV(x0:Γ O7)(x1:Γ Int):O7:=(Mk x0 x1).2
def rM(x0:Γ O7)(x1:Γ Int):Bool:=(Mk x0 x1).1
def aMU(x0:Γ O7)(x1:Γ Int):Prop:=1<=x1.length/\∀y∈x1,0<=y/\y<=1000000000
def bAe(x0:Γ O7)(x1:Γ Int)(hm:x0.length<=maxLen)(hm1:x1.length<=maxLen)(h:aMU x0 x1):∀(k i:Nat) (s:Bool×O7),i+k=x0.length->Ai (k+1) s.1 (i:Int) s.2 x1 x0 [⟨aPA,((x0.drop i).foldl (pZ x1) s).2⟩,⟨.bool,((x0.drop i).foldl (pZ x1) s).1⟩]:=by
 have hmx:maxLen<=9223372036854775807:=by decide
 obtain⟨h1,h2⟩:=h;intro k
 induction k with
 | zero =>
  intro i s hi;rw[Ai,ν (by lia),bT (by lia)]<;>rfl
 | succ k ih =>
  intro i s hi;have hlt:i<x0.length:=by lia
  have hu:=jZ hm hlt;have e3:(i:Int)+1=((i+1:Nat):Int):=by lia
  have e4:aE ((x1.length:Int)-1)=x1.length-1:=by lia
  have b1:=h2 _ (bY x1 (x1.length-1) 0 (by lia));have b2:=h2 _ (bY x1 0 0 (by lia));have ih:=λs=>ih (i+1) s (by lia);rw[e3]at hu;rw[Ai,π (by lia),eD x0 i (aC,0,0,0,()) hlt,fR,e3,e4,aI];generalize x0.getD i (aC,0,0,0,())=f at *;refine⟨by lia,by lia,?_⟩;have no:pZ x1 s f=s->bA .i64 ((i+1:Nat):Int)/\Ai (k+1) s.1 ((i+1:Nat):Int) s.2 x1 x0 [⟨aPA,((x0.drop (i+1)).foldl (pZ x1) (pZ x1 s f)).2⟩,⟨.bool,((x0.drop (i+1)).foldl (pZ x1) (pZ x1 s f)).1⟩]:=λe=>by
   grind
  have yes:pZ x1 s f=(true,f)->bA .i64 ((i+1:Nat):Int)/\Ai (k+1) true ((i+1:Nat):Int) f x1 x0 [⟨aPA,((x0.drop (i+1)).foldl (pZ x1) (pZ x1 s f)).2⟩,⟨.bool,((x0.drop (i+1)).foldl (pZ x1) (pZ x1 s f)).1⟩]:=λe=>by
   grind
  have hx:pZ x1 s f=if(decide (f.2.2.1>=(x1.length:Int))&&decide (x1.getD (x1.length-1) 0-x1.getD 0 0<f.2.2.2.1))=true then(if(!s.1)=true then(true,f)else if decide (f.2.1<s.2.2.1)=true then(true,f)else s)else s:=rfl
  by_cases c1:decide (f.2.2.1>=(x1.length:Int))=true
  ·refine(π c1).mpr ⟨by grind [aK],by lia,by lia,by lia,by grind [aK],?_⟩
   lia
  ·exact(ν c1).mpr (no (by lia))
def bGT:KK:=mL bAc (DO aDE) aMU (iV,rM,()) (λ⟨x0,x1,_⟩ h hwf K q =>
 (bAd _ K q ((x0.length+2))).1 (by rw[bGS];exact bAe x0 x1 hwf.1.1 hwf.2.1.1 h x0.length 0 (false,(aC,0,0,0,())) (by omega)))
def aPB:jB:=D0 aDF [.v (.sl fQ),.v (.sl Jy)] [.int .i64,.sl .str,.int .i64] [bGN,bGQ,bGT]
mutual
def aPC:Nat->Γ eR->Γ Int->Γ aS->Prop
 | 0,_,_,_=>False
 | n+1,x0,x1,ds=>aT4 x0 (jE x1) []/\if lL x0 (jE x1) [] != 0 then ds=[aJ (.int .i64) 0,aJ (.sl .str) [],aJ (.int .i64) (lL x0 (jE x1) [])] else if(x0.length:Int)==0 then(if decide ((x1.length:Int)>0)then ds=[aJ (.int .i64) 0,aJ (.sl .str) [],aJ (.int .i64) 3] else bA .i64 ((x1.length:Int)+1)/\bA .i64 ((x1.length:Int)+1)/\0<=(x1.length:Int)+1/\(x1.length:Int)+1<=(x1.length:Int)+1/\8*((x1.length:Int)+1)<=281474976710656/\0<=(x1.length:Int)+1/\(x1.length:Int)+1<=(x1.length:Int)+1/\8*((x1.length:Int)+1)<=281474976710656/\bA .i64 ((x1.length:Int)-1)/\Ml n ((x1.length:Int)-1) (aQ (aE ((x1.length:Int)+1)) 0) (aQ (aE ((x1.length:Int)+1)) 0) x0 x1 ds)else bA .i64 ((x1.length:Int)+1)/\bA .i64 ((x1.length:Int)+1)/\0<=(x1.length:Int)+1/\(x1.length:Int)+1<=(x1.length:Int)+1/\8*((x1.length:Int)+1)<=281474976710656/\0<=(x1.length:Int)+1/\(x1.length:Int)+1<=(x1.length:Int)+1/\8*((x1.length:Int)+1)<=281474976710656/\bA .i64 ((x1.length:Int)-1)/\Ml n ((x1.length:Int)-1) (aQ (aE ((x1.length:Int)+1)) 0) (aQ (aE ((x1.length:Int)+1)) 0) x0 x1 ds
def Ml:Nat->Int->Γ Int->Γ Int->Γ eR->Γ Int->Γ aS->Prop
 | 0,_,_,_,_,_,_=>False
 | n+1,v11,h0,h1,x0,x1,ds=>if decide (v11>=0)then bA .i64 (v11+1)/\AA n (v11+1) h0 h1 x0 x1 v11 ds else K6 n 0 ([]) x0 x1 h0 h1 ds
def AA:Nat->Int->Γ Int->Γ Int->Γ eR->Γ Int->Int->Γ aS->Prop
 | 0,_,_,_,_,_,_,_=>False
 | n+1,v12,h0,h1,x0,x1,v11,ds=>if decide (v12<=(x1.length:Int))then 0<=v11/\v11<=v12/\v12<=(x1.length:Int)/\aMU x0 (aY (aE v11) (aZ (aE v12) x1))/\if rM x0 (aY (aE v11) (aZ (aE v12) x1))then bA .i64 (v11+1)/\if v12==v11+1 then 0<=v12/\v12<(h0.length:Int)/\bA .i64 ((iV x0 (aY (aE v11) (aZ (aE v12) x1))).2.1+aD h0 (aE v12) 0)/\0<=v11/\v11<(h0.length:Int)/\0<=v11/\v11<(h1.length:Int)/\bA .i64 (v12+1)/\AA n (v12+1) (fF h0 (aE v11) ((iV x0 (aY (aE v11) (aZ (aE v12) x1))).2.1+aD h0 (aE v12) 0)) (fF h1 (aE v11) v12) x0 x1 v11 ds else 0<=v12/\v12<(h0.length:Int)/\bA .i64 ((iV x0 (aY (aE v11) (aZ (aE v12) x1))).2.1+aD h0 (aE v12) 0)/\0<=v11/\v11<(h0.length:Int)/\if decide ((iV x0 (aY (aE v11) (aZ (aE v12) x1))).2.1+aD h0 (aE v12) 0<=aD h0 (aE v11) 0)then 0<=v12/\v12<(h0.length:Int)/\bA .i64 ((iV x0 (aY (aE v11) (aZ (aE v12) x1))).2.1+aD h0 (aE v12) 0)/\0<=v11/\v11<(h0.length:Int)/\0<=v11/\v11<(h1.length:Int)/\bA .i64 (v12+1)/\AA n (v12+1) (fF h0 (aE v11) ((iV x0 (aY (aE v11) (aZ (aE v12) x1))).2.1+aD h0 (aE v12) 0)) (fF h1 (aE v11) v12) x0 x1 v11 ds else bA .i64 (v12+1)/\AA n (v12+1) h0 h1 x0 x1 v11 ds else bA .i64 (v12+1)/\AA n (v12+1) h0 h1 x0 x1 v11 ds else bA .i64 (v11-1)/\Ml n (v11-1) h0 h1 x0 x1 ds
def K6:Nat->Int->Γ Δ->Γ eR->Γ Int->Γ Int->Γ Int->Γ aS->Prop
 | 0,_,_,_,_,_,_,_=>False
 | n+1,v16,h2,x0,x1,h0,h1,ds=>if decide (v16<(x1.length:Int))then 0<=v16/\v16<(h1.length:Int)/\0<=v16/\v16<=aD h1 (aE v16) 0/\aD h1 (aE v16) 0<=(x1.length:Int)/\aMU x0 (aY (aE v16) (aZ (aE (aD h1 (aE v16) 0)) x1))/\(aF h2+1)*16<=140737488355328/\0<=v16/\v16<(h1.length:Int)/\K6 n (aD h1 (aE v16) 0) (h2++[(iV x0 (aY (aE v16) (aZ (aE (aD h1 (aE v16) 0)) x1))).1]) x0 x1 h0 h1 ds else 0<(h0.length:Int)/\ds=[aJ (.int .i64) (aD h0 0 0),aJ (.sl .str) h2,aJ (.int .i64) 0]
end
def bAf(ds:Γ aS)(K:gU)(q:Nat->Value):∀n,(∀ {x0 x1},aPC n x0 x1 ds->St aPB (x0,x1,()) ds [] K q)/\(∀ {v11 h0 h1 x0 x1},Ml n v11 h0 h1 x0 x1 ds->Cu aPB 9 ([eL 0 fQ x0,eL 1 (.int .i64) x1,eI 8 (x1.length:Int),eW 9 0,eW 10 1,eI 11 v11],[cN (.int .i64) h0,cN (.int .i64) h1]) ds [] K q)/\(∀ {v12 h0 h1 x0 x1 v11},AA n v12 h0 h1 x0 x1 v11 ds->Cu aPB 12 ([eL 0 fQ x0,eL 1 (.int .i64) x1,eI 8 (x1.length:Int),eW 9 0,eW 10 1,eI 11 v11,eI 12 v12],[cN (.int .i64) h0,cN (.int .i64) h1]) ds [] K q)/\(∀ {v16 h2 x0 x1 h0 h1},K6 n v16 h2 x0 x1 h0 h1 ds->Cu aPB 19 ([eL 0 fQ x0,eL 1 (.int .i64) x1,eI 8 (x1.length:Int),eW 9 0,eW 10 1,eW 15 2,eI 16 v16],[cN (.int .i64) h0,cN (.int .i64) h1,cN .str h2]) ds [] K q):=nI ⟨aH,aH,aH,aH⟩ λn ⟨i,i9,i12,i19⟩=>⟨λ{x0} {x1}=>bS<|aO<|bU dR<|bU (bU dR<|aO<|aO<|Hp λs3=>Hp λs4=>Hp λs5=>pc3<|rY s3<|rY s4<|rY s5<|rY s3<|rY s4<|rY s5<|rY (bFl [eL 0 fQ x0,eL 1 (.int .i64) x1,eI 4 0,(5,.a (.val (.slice none 0 0))),eI 6 0,eI 7 (lL x0 (jE x1) []),eI 8 (x1.length:Int),eW 9 0,eW 10 1,eL 19 fQ x0,eL 20 (.int .i64) x1,eB 21 (jE x1),eI 22 (lL x0 (jE x1) []),eI 23 (lL x0 (jE x1) []),eB 24 (lL x0 (jE x1) [] != 0),eL 26 (.int .i64) x1,eI 27 (x1.length:Int),eL 28 fQ x0,eI 29 (x0.length:Int),eB 30 ((x0.length:Int)==0),eB 31 ((x0.length:Int)==0),eI 32 (x1.length:Int),eB 33 (decide ((x1.length:Int)>0)),eB 34 (decide ((x1.length:Int)>0)),eI 35 (x1.length:Int),eI 36 ((x1.length:Int)+1),eW 37 0,eI 38 (x1.length:Int),eI 39 ((x1.length:Int)+1),eW 40 1] [cN (.int .i64) (aQ (aE ((x1.length:Int)+1)) 0),cN (.int .i64) (aQ (aE ((x1.length:Int)+1)) 0)])<|aO<|cX i9)<|dN<|aO<|aO<|Hp λs3=>Hp λs4=>Hp λs5=>pc3<|rY s3<|rY s4<|rY s5<|rY s3<|rY s4<|rY s5<|rY (bFl [eL 0 fQ x0,eL 1 (.int .i64) x1,eI 4 0,(5,.a (.val (.slice none 0 0))),eI 6 0,eI 7 (lL x0 (jE x1) []),eI 8 (x1.length:Int),eW 9 0,eW 10 1,eL 19 fQ x0,eL 20 (.int .i64) x1,eB 21 (jE x1),eI 22 (lL x0 (jE x1) []),eI 23 (lL x0 (jE x1) []),eB 24 (lL x0 (jE x1) [] != 0),eL 26 (.int .i64) x1,eI 27 (x1.length:Int),eL 28 fQ x0,eI 29 (x0.length:Int),eB 30 ((x0.length:Int)==0),eB 31 ((x0.length:Int)==0),(32,.a (.val (.tuple #[]))),(33,.a (.val (.tuple #[]))),eB 34 false,eI 35 (x1.length:Int),eI 36 ((x1.length:Int)+1),eW 37 0,eI 38 (x1.length:Int),eI 39 ((x1.length:Int)+1),eW 40 1] [cN (.int .i64) (aQ (aE ((x1.length:Int)+1)) 0),cN (.int .i64) (aQ (aE ((x1.length:Int)+1)) 0)])<|aO<|cX i9,
  bU (aO<|cX i12)<|Dl [(15,.str)] i19,
  λ{v12} {h0} {h1} {x0} {x1} {v11}=>bU (Hp λs0=>eE<|aO<|bU (aO<|bU (j0<|eE<|Hp λs7=>aO<|Hp λs9=>aO<|Hp λs11=>rY s7<|rY s0<|rY s9<|rY s0<|rY s11<|rY (bFl [eL 0 fQ x0,eL 1 (.int .i64) x1,eI 8 (x1.length:Int),eW 9 0,eW 10 1,eI 11 v11,eI 12 v12,eO 13 2 0 [],eB 14 (rM x0 (aY (aE v11) (aZ (aE v12) x1))),eI 49 v12,eI 50 (x1.length:Int),eB 51 (decide (v12<=(x1.length:Int))),(54,gI [nD fQ (iV x0 (aY (aE v11) (aZ (aE v12) x1))),Nl (rM x0 (aY (aE v11) (aZ (aE v12) x1)))]),eL 55 fQ x0,eL 56 (.int .i64) x1,eI 57 v11,eI 58 v12,eL 59 (.int .i64) (aY (aE v11) (aZ (aE v12) x1)),(60,gI [nD fQ (iV x0 (aY (aE v11) (aZ (aE v12) x1))),Nl (rM x0 (aY (aE v11) (aZ (aE v12) x1)))]),eT 61 fQ (iV x0 (aY (aE v11) (aZ (aE v12) x1))),eB 62 (rM x0 (aY (aE v11) (aZ (aE v12) x1))),eB 63 (rM x0 (aY (aE v11) (aZ (aE v12) x1))),eB 64 (rM x0 (aY (aE v11) (aZ (aE v12) x1))),eI 65 v12,eI 66 v11,eI 67 (v11+1),eB 68 (v12==v11+1),eB 69 (v12==v11+1),(70,.a (.val (.tuple #[]))),(71,.a (.val (.tuple #[]))),(72,.a (.val (.tuple #[]))),(73,.a (.val (.tuple #[]))),(74,.a (.val (.tuple #[]))),(75,.a (.val (.tuple #[]))),(76,.a (.val (.tuple #[]))),(77,.a (.val (.tuple #[]))),(78,.a (.val (.tuple #[]))),(79,.a (.val (.tuple #[]))),(80,.a (.val (.tuple #[]))),(81,.a (.val (.tuple #[]))),eB 82 true,eB 83 true,eW 84 0,eI 85 v11,eW 86 1,eI 87 v11,eO 88 2 0 [1],eI 89 (iV x0 (aY (aE v11) (aZ (aE v12) x1))).2.1,eW 90 0,eI 91 v12,eO 92 0 (aE v12) [],eI 93 (aD h0 (aE v12) 0),eI 94 ((iV x0 (aY (aE v11) (aZ (aE v12) x1))).2.1+aD h0 (aE v12) 0),eI 95 v12,eO 96 0 (aE v11) [],eO 97 1 (aE v11) []] [cN (.int .i64) (fF h0 (aE v11) ((iV x0 (aY (aE v11) (aZ (aE v12) x1))).2.1+aD h0 (aE v12) 0)),cN (.int .i64) (fF h1 (aE v11) v12),some (iJ.mk fQ [iV x0 (aY (aE v11) (aZ (aE v12) x1))] true none (some false))])<|aO<|cX i12)<|eE<|Hp λs7=>aO<|Hp λs9=>bU (eE<|pc4<|Hp λs16=>rY s7<|rY s0<|rY s9<|rY s0<|rY s16<|rY (bFl [eL 0 fQ x0,eL 1 (.int .i64) x1,eI 8 (x1.length:Int),eW 9 0,eW 10 1,eI 11 v11,eI 12 v12,eO 13 2 0 [],eB 14 (rM x0 (aY (aE v11) (aZ (aE v12) x1))),eI 49 v12,eI 50 (x1.length:Int),eB 51 (decide (v12<=(x1.length:Int))),(54,gI [nD fQ (iV x0 (aY (aE v11) (aZ (aE v12) x1))),Nl (rM x0 (aY (aE v11) (aZ (aE v12) x1)))]),eL 55 fQ x0,eL 56 (.int .i64) x1,eI 57 v11,eI 58 v12,eL 59 (.int .i64) (aY (aE v11) (aZ (aE v12) x1)),(60,gI [nD fQ (iV x0 (aY (aE v11) (aZ (aE v12) x1))),Nl (rM x0 (aY (aE v11) (aZ (aE v12) x1)))]),eT 61 fQ (iV x0 (aY (aE v11) (aZ (aE v12) x1))),eB 62 (rM x0 (aY (aE v11) (aZ (aE v12) x1))),eB 63 (rM x0 (aY (aE v11) (aZ (aE v12) x1))),eB 64 (rM x0 (aY (aE v11) (aZ (aE v12) x1))),eI 65 v12,eI 66 v11,eI 67 (v11+1),eB 68 (v12==v11+1),eB 69 (v12==v11+1),eO 70 2 0 [1],eI 71 (iV x0 (aY (aE v11) (aZ (aE v12) x1))).2.1,eW 72 0,eI 73 v12,eO 74 0 (aE v12) [],eI 75 (aD h0 (aE v12) 0),eI 76 ((iV x0 (aY (aE v11) (aZ (aE v12) x1))).2.1+aD h0 (aE v12) 0),eW 77 0,eI 78 v11,eO 79 0 (aE v11) [],eI 80 (aD h0 (aE v11) 0),eB 81 (decide ((iV x0 (aY (aE v11) (aZ (aE v12) x1))).2.1+aD h0 (aE v12) 0<=aD h0 (aE v11) 0)),eB 82 (decide ((iV x0 (aY (aE v11) (aZ (aE v12) x1))).2.1+aD h0 (aE v12) 0<=aD h0 (aE v11) 0)),eB 83 (decide ((iV x0 (aY (aE v11) (aZ (aE v12) x1))).2.1+aD h0 (aE v12) 0<=aD h0 (aE v11) 0)),eW 84 0,eI 85 v11,eW 86 1,eI 87 v11,eO 88 2 0 [1],eI 89 (iV x0 (aY (aE v11) (aZ (aE v12) x1))).2.1,eW 90 0,eI 91 v12,eO 92 0 (aE v12) [],eI 93 (aD h0 (aE v12) 0),eI 94 ((iV x0 (aY (aE v11) (aZ (aE v12) x1))).2.1+aD h0 (aE v12) 0),eI 95 v12,eO 96 0 (aE v11) [],eO 97 1 (aE v11) []] [cN (.int .i64) (fF h0 (aE v11) ((iV x0 (aY (aE v11) (aZ (aE v12) x1))).2.1+aD h0 (aE v12) 0)),cN (.int .i64) (fF h1 (aE v11) v12),some (iJ.mk fQ [iV x0 (aY (aE v11) (aZ (aE v12) x1))] true none (some false))])<|aO<|cX i12)<|aO<|cX i12)<|dN<|aO<|cX i12)<|aO<|cX i9,
  bU (eE<|pc3<|aO<|aO<|eE<|Dl [(15,.str)] i19)<|pq 0<|aO dR⟩
abbrev uS(x1:Γ Int)(a b:Nat):Γ Int:=(x1.take b).drop a
abbrev sR(x0:Γ O7)(x1:Γ Int)(a b:Nat):Bool:=rM x0 (uS x1 a b)
abbrev Et(x0:Γ O7)(x1:Γ Int)(a b:Nat):Int:=(iV x0 (uS x1 a b)).2.1
def aAe(x0:Γ O7)(x1:Γ Int)(a b:Nat)(s:Γ Int×Γ Int):Γ Int×Γ Int :=
 if sR x0 x1 a b=true then(if b=a+1\/Et x0 x1 a b+s.1.getD b 0<=s.1.getD a 0 then(s.1.set a (Et x0 x1 a b+s.1.getD b 0),s.2.set a (b:Int))else s)else s
def CL(x0:Γ O7)(x1:Γ Int)(a:Nat):Nat->Nat->Γ Int×Γ Int->Γ Int×Γ Int
 | 0,_,s=>s
 | k+1,b,s=>CL x0 x1 a k (b+1) (aAe x0 x1 a b s)
def sS(x0:Γ O7)(x1:Γ Int):Nat->Γ Int×Γ Int->Γ Int×Γ Int
 | 0,s=>s
 | k+1,s=>sS x0 x1 k (CL x0 x1 k (x1.length-k) (k+1) s)
def vP(x0:Γ O7)(x1:Γ Int):Γ Int×Γ Int:=sS x0 x1 x1.length (aQ (x1.length+1) 0,aQ (x1.length+1) 0)
def vQ(x0:Γ O7)(x1:Γ Int)(e:Γ Int):Nat->Nat->Γ Δ
 | 0,_=>[]
 | k+1,a=>if a<x1.length then(iV x0 (uS x1 a (e.getD a 0).toNat)).1::vQ x0 x1 e k (e.getD a 0).toNat else []
def BO(x0:Γ O7)(x1:Γ Int):Int:=if(lL x0 (jE x1) [] != 0)=true then lL x0 (jE x1) [] else if x0.length=0/\0<x1.length then 3 else 0
def WH(x0:Γ O7)(x1:Γ Int):Int:=if BO x0 x1=0 then(vP x0 x1).1.getD 0 0 else 0
def Aj(x0:Γ O7)(x1:Γ Int):Γ Δ:=if BO x0 x1=0 then vQ x0 x1 (vP x0 x1).2 (x1.length+1) 0 else []
def JM(x0:Γ O7)(x1:Γ Int):Int:=BO x0 x1
def Eu(x0:Γ O7)(x1:Γ Int):Prop:=x1.length<=1000/\(∀f∈x0,(0<=f.2.1/\f.2.1<=1000000)/\1<=f.2.2.1/\1<=f.2.2.2.1)/\∀y∈x1,0<=y/\y<=1000000000
def aT5(x0:Γ O7)(x1:Γ Int):Prop:=aT4 x0 (jE x1) []/\(lL x0 (jE x1) []=0->Eu x0 x1)
theorem JN(x0:Γ O7)(s:Γ Int):∀(l:Γ O7) (b:Bool×O7),(∀f∈l,f∈x0)->(l.foldl (pZ s) b).2=b.2\/(l.foldl (pZ s) b).2∈x0
 | [],b,_ => .inl rfl
 | f::l,b,h=>by
  have hr:=JN x0 s l (pZ s b f) λg hg=>h g (aM _ hg);have hs:(pZ s b f).2=b.2\/(pZ s b f).2=f:=by
   unfold pZ
   lia
  grind
variable {x0:Γ O7} {x1:Γ Int}
theorem O8(h:Eu x0 x1)(a b:Nat):0<=Et x0 x1 a b/\Et x0 x1 a b<=1000000:=by
 rcases JN x0 (uS x1 a b) x0 (false,(aC,0,0,0,())) (λf hf=>hf)with e | e
 ·have:Et x0 x1 a b=0:=by
   show ((x0.foldl (pZ (uS x1 a b)) (false,(aC,0,0,0,()))).2).2.1=0
   lia
  lia
 ·exact(h.2.1 _ e).1
theorem aFG(s:Γ Int):∀(l:Γ O7) (b:Bool×O7),(∀f∈l,DP s f=true)->(b.1=true\/l≠[])->(l.foldl (pZ s) b).1=true
 | [],b,_,h=>h.resolve_right (by lia)
 | f::l,b,hg,h=>by
  refine aFG s l _ (λg hh=>hg g (aM _ hh)) (.inl ?_);unfold pZ
  grind
theorem O9(h:Eu x0 x1)(hne:x0≠[]){a:Nat}(ha:a<x1.length):sR x0 x1 a (a+1)=true:=by
 have e:uS x1 a (a+1)=[x1.getD a 0]:=by
  unfold uS;rw[eG,aX ha,jX x1 a 0 ha,List.drop_append_of_le_length (by rw[bW];omega),bT (by rw[bW];omega)]<;>rfl
 refine aFG _ x0 _ (λf hf=>?_) (.inr hne);obtain⟨_,h1,h2⟩:=h.2.1 f hf;unfold DP
 grind
theorem aB3(h:Eu x0 x1){a b:Nat}(hab:a<b)(hb:b<=x1.length):aMU x0 (uS x1 a b):=by
 refine⟨?_,λy hy=>h.2.2 y (List.mem_of_mem_take (List.mem_of_mem_drop hy))⟩
 grind
structure uT (x1:Γ Int) (k:Nat) (s:Γ Int×Γ Int):Prop where
 l1:s.1.length=x1.length+1
 l2:s.2.length=x1.length+1
 cost:∀j,k<=j->j<=x1.length->0<=s.1.getD j 0/\s.1.getD j 0<=1000000*((x1.length-j:Nat):Int)
 next:∀j,k<=j->j<x1.length->(j:Int)<s.2.getD j 0/\s.2.getD j 0<=(x1.length:Int)
theorem qS(l:Γ Int)(a j:Nat)(v:Int)(h:a<l.length):(l.set a v).getD j 0=if a=j then v else l.getD j 0:=by
 grind
theorem CM(h:Eu x0 x1){a b:Nat}{s:Γ Int×Γ Int}(hi:uT x1 (a+1) s)(hab:a<b)(hb:b<=x1.length):uT x1 a (s.1.set a (Et x0 x1 a b+s.1.getD b 0),s.2.set a (b:Int)):=by
 obtain⟨c1,c2⟩:=O8 h a b;obtain⟨d1,d2⟩:=hi.cost b (by lia) hb;refine⟨by rw[iR];exact hi.l1,by rw[iR];exact hi.l2,λj h1 h2=>?_,λj h1 h2=>?_⟩
 ·rw[qS _ _ _ _ (by rw[hi.l1];lia)];split
  ·lia
  ·exact hi.cost j (by lia) h2
 ·rw[qS _ _ _ _ (by rw[hi.l2];lia)];split
  ·lia
  ·exact hi.next j (by lia) h2
def aPD(h:Eu x0 x1)(hne:x0≠[])(a:Nat)(ha:a<x1.length)(ds:Γ aS)(n:Nat):∀(k b:Nat) (s:Γ Int×Γ Int),b+k=x1.length+1->a<b->uT x1 (a+1) s->(b≠a+1->uT x1 a s) ->
  (uT x1 a (CL x0 x1 a k b s)->Ml n ((a:Int)-1) (CL x0 x1 a k b s).1 (CL x0 x1 a k b s).2 x0 x1 ds)->AA (n+k+1) (b:Int) s.1 s.2 x0 x1 (a:Int) ds:=by
 have hl:=h.1;intro k
 induction k with
 | zero =>
  intro b s hb hab hi hi2 hr;rw[Nat.add_zero,AA,ν (by lia)];exact⟨by grind [aK],hr (hi2 (by lia))⟩
 | succ k ih =>
  intro b s hb hab hi hi2 hr;have e3:(b:Int)+1=((b+1:Nat):Int):=by lia
  obtain⟨c1,c2⟩:=O8 h a b;obtain⟨d1,d2⟩:=hi.cost b (by lia) (by lia);have hl1:=hi.l1;have hl2:=hi.l2;rw[CL]at hr;have hs:aAe x0 x1 a b s=if sR x0 x1 a b=true then(if b=a+1\/Et x0 x1 a b+s.1.getD b 0<=s.1.getD a 0 then(s.1.set a (Et x0 x1 a b+s.1.getD b 0),s.2.set a (b:Int))else s)else s:=rfl
  show AA (n+k+1+1) _ _ _ _ _ _ _;rw[AA,π (by lia),e3,aI,aI];have hu:bA .i64 ((b+1:Nat):Int):=by grind [aK]
  have hv:bA .i64 (Et x0 x1 a b+s.1.getD b 0):=by grind [aK]
  refine⟨by lia,by lia,by lia,aB3 h hab (by lia),?_⟩;by_cases c:sR x0 x1 a b=true
  ·rw[π c]at hs;refine(π c).mpr ⟨by grind [aK],?_⟩;by_cases e:b=a+1
   ·rw[π (.inl e)]at hs;refine(π (show ((b:Int)==(a:Int)+1)=true by lia)).mpr ?_;have:=ih (b+1) (aAe x0 x1 a b s) (by lia) (by lia) (by rw[hs];exact⟨(CM h hi hab (by lia)).l1,(CM h hi hab (by lia)).l2,λj h1 h2=>(CM h hi hab (by lia)).cost j (by lia) h2,λj h1 h2=>(CM h hi hab (by lia)).next j (by lia) h2⟩) (λ_=>by grind [CM]) hr
    lia
   ·refine(ν (show ¬((b:Int)==(a:Int)+1)=true by lia)).mpr ?_;refine⟨by lia,by lia,hv,by lia,by lia,?_⟩;by_cases d:Et x0 x1 a b+s.1.getD b 0<=s.1.getD a 0
    ·rw[π (.inr d)]at hs;have:=ih (b+1) (aAe x0 x1 a b s) (by lia) (by lia) (by rw[hs];exact⟨(CM h hi hab (by lia)).l1,(CM h hi hab (by lia)).l2,λj h1 h2=>(CM h hi hab (by lia)).cost j (by lia) h2,λj h1 h2=>(CM h hi hab (by lia)).next j (by lia) h2⟩) (λ_=>by grind [CM]) hr
     lia
    grind
  ·have e:b≠a+1:=λe=>c (by grind [O9])
   grind
def aB4(h:Eu x0 x1)(hne:x0≠[])(a:Nat)(ha:a<x1.length):∀(k b:Nat) (s:Γ Int×Γ Int),b+k=x1.length+1->a<b->uT x1 (a+1) s->(b≠a+1->uT x1 a s)->uT x1 a (CL x0 x1 a k b s):=by
 intro k
 induction k with
 | zero=>intro b s hb hab hi hi2;exact hi2 (by lia)
 | succ k ih =>
  intro b s hb hab hi hi2;rw[CL];have hput:=CM h hi hab (show b<=x1.length by lia);have hput':uT x1 (a+1) (s.1.set a (Et x0 x1 a b+s.1.getD b 0),s.2.set a (b:Int)):=⟨hput.l1,hput.l2,λj h1 h2=>hput.cost j (by lia) h2,λj h1 h2=>hput.next j (by lia) h2⟩;unfold aAe;by_cases c:sR x0 x1 a b=true
  ·grind
  ·have e:b≠a+1:=λe=>c (by grind [O9])
   grind
def aT6(h:Eu x0 x1){s:Γ Int×Γ Int}(hi:uT x1 0 s):∀(k a:Nat) (h2:Γ Δ),x1.length-a<k->a<=x1.length->h2.length<=a->K6 k (a:Int) h2 x0 x1 s.1 s.2 [⟨.int .i64,s.1.getD 0 0⟩,⟨.sl .str,h2++vQ x0 x1 s.2 k a⟩,⟨.int .i64,0⟩]:=by
 have hl:=h.1;have hl1:=hi.l1;intro k
 induction k with
 | zero=>lia
 | succ k ih =>
  intro a h2 hk ha hh;rw[vQ,K6];by_cases c:a<x1.length
  ·obtain⟨n1,n2⟩:=hi.next a (bG _) c;obtain⟨e,he⟩:∃e:Nat,s.2.getD a 0=(e:Int):=⟨(s.2.getD a 0).toNat,by lia⟩;rw[he,aI];have:=ih e (h2++[(iV x0 (uS x1 a e)).1]) (by lia) (by lia) (by grind)
   grind [aB3]
  grind
def aT7(h:Eu x0 x1)(hne:x0≠[]\/x1.length=0)(ds:Γ aS):∀(k:Nat) (s:Γ Int×Γ Int),k<=x1.length->uT x1 k s->(uT x1 0 (sS x0 x1 k s)->∃n,K6 n 0 [] x0 x1 (sS x0 x1 k s).1 (sS x0 x1 k s).2 ds)->∃n,Ml n ((k:Int)-1) s.1 s.2 x0 x1 ds:=by
 have hl:=h.1;intro k
 induction k with
 | zero =>
  intro s hk hi hr;obtain⟨n,hn⟩:=hr hi;refine⟨n+1,?_⟩;exact hn
 | succ k ih =>
  intro s hk hi hr;have hx:x0≠[]:=hne.resolve_right (by lia);have e1:((k+1:Nat):Int)-1=(k:Int):=by lia
  have e2:(k:Int)+1=((k+1:Nat):Int):=by lia
  by_cases hq:uT x1 k (CL x0 x1 k (x1.length-k) (k+1) s)
  ·obtain⟨n,hn⟩:=ih _ (by lia) hq hr;have:=aPD h hx k (by lia) ds n (x1.length-k) (k+1) s (by lia) (by lia) hi (λhh=>absurd rfl hh) (λ_=>hn);refine⟨_+1,by
    rw[e1];exact⟨by grind [aK],this⟩⟩
  ·exfalso;exact hq (aB4 h hx k (by lia) (x1.length-k) (k+1) s (by lia) (by lia) hi (λhh=>absurd rfl hh))
def bAg(x0:Γ O7)(x1:Γ Int)(h:aT5 x0 x1):∃n,aPC n x0 x1 [⟨.int .i64,WH x0 x1⟩,⟨.sl .str,Aj x0 x1⟩,⟨.int .i64,JM x0 x1⟩]:=by
 obtain⟨p,ho⟩:=h;unfold WH Aj JM;have hc:BO x0 x1=if(lL x0 (jE x1) [] != 0)=true then lL x0 (jE x1) [] else if x0.length=0/\0<x1.length then 3 else 0:=rfl
 by_cases c:(lL x0 (jE x1) [] != 0)=true
 ·rw[π c]at hc;have hn:¬BO x0 x1=0:=by rw[hc];simpa using c
  refine⟨1,?_⟩;rw[aPC,π c,ν hn,ν hn,hc];exact⟨p,rfl⟩
 ·rw[ν c]at hc;have hok:=ho (by simpa using c);have hl:=hok.1;by_cases d:x0.length=0/\0<x1.length
  ·rw[π d]at hc;refine⟨1,?_⟩;rw[aPC,ν c,π (show ((x0.length:Int)==0)=true by rw[beq_iff_eq];omega),π (show decide ((x1.length:Int)>0)=true by simp only[ε];omega),hc,ν (by decide),ν (by decide)];exact⟨p,rfl⟩
  ·rw[ν d]at hc;have hne:x0≠[]\/x1.length=0:=by
    cases x0 with
    | nil=>exact .inr (by simp at d;rw[d]<;>rfl)
    | cons f l=>exact .inl (by simp)
   have h0:uT x1 x1.length (aQ (x1.length+1) 0,aQ (x1.length+1) 0):=by
    refine⟨by simp,by simp,λj h1 h2=>?_,λj h1 h2=>by omega⟩;have:(aQ (x1.length+1) (0:Int)).getD j 0=0:=by
     rw[bC,List.getElem?_replicate];split <;> rfl
    rw[this];omega
   obtain⟨n,hn⟩:=aT7 hok hne [⟨.int .i64,(vP x0 x1).1.getD 0 0⟩,⟨.sl .str,vQ x0 x1 (vP x0 x1).2 (x1.length+1) 0⟩,⟨.int .i64,0⟩] x1.length _ (aT _) h0 (λhi=>⟨x1.length+1,by
    have:=aT6 hok hi (x1.length+1) 0 [] (by omega) (bG _) (aT _);exact this⟩)
   have e:aE ((x1.length:Int)+1)=x1.length+1:=by omega
   have stuff:bA .i64 ((x1.length:Int)+1)/\bA .i64 ((x1.length:Int)+1)/\(0<=(x1.length:Int)+1)/\((x1.length:Int)+1<=(x1.length:Int)+1)/\(8*((x1.length:Int)+1)<=281474976710656)/\(0<=(x1.length:Int)+1)/\((x1.length:Int)+1<=(x1.length:Int)+1)/\(8*((x1.length:Int)+1)<=281474976710656)/\bA .i64 ((x1.length:Int)-1)/\Ml n ((x1.length:Int)-1) (aQ (aE ((x1.length:Int)+1)) 0) (aQ (aE ((x1.length:Int)+1)) 0) x0 x1 [⟨.int .i64,(vP x0 x1).1.getD 0 0⟩,⟨.sl .str,vQ x0 x1 (vP x0 x1).2 (x1.length+1) 0⟩,⟨.int .i64,0⟩]:=by
    rw[e];exact⟨by rw[aK];omega,by rw[aK];omega,by omega,by omega,by omega,by omega,by omega,by omega,by rw[aK];omega,hn⟩
   refine⟨n+1,?_⟩;rw[aPC,ν c,hc,π rfl,π rfl];refine⟨p,?_⟩;by_cases e0:((x0.length:Int)==0)=true
   ·refine(π e0).mpr ((ν ?_).mpr stuff);rw[beq_iff_eq]at e0;simp only[ε];omega
   ·exact(ν e0).mpr stuff
def bGU:KK:=mL aPB (DO aDF) aT5 (WH,Aj,JM,()) (λ⟨x0,x1,_⟩ h hwf K q =>
 let ⟨n,hn⟩:=bAg x0 x1 h
 (bAf _ K q n).1 hn)
end
end Go.Proofs.YtgfpjekjhnkbfaaGreatDoor
set_option maxRecDepth 100000
namespace Go.Proofs.YtgfpjekjhnkbfaaGreatDoor
open Go Go.Am Go.Proofs Go.RowKit
abbrev BB:Ty := .cons Jy YA7
abbrev j6:c7:=((0:Int),(0:Int),(0:Int),())
def aIX(W:World)(x0:Γ c7)(v:Value)(hgo:No W [])(ha:yD W (fW W []) (j8 (.sl BB) x0) v) :
  Calls aL 59 #[v] W λe w'=>e = .returned (.bool (jG x0))/\Below W.heap.size W w':=by
 have h:=aMu.h.2.down rfl W (x0,()) [v] [[]] hgo trivial ⟨v,[],[],[],rfl,rfl,⟨rfl,ha⟩,rfl,rfl⟩ (by simp);refine h.mono ?_;rintro e w' ⟨rs,ubs,rbs,rfl,hk,⟨u,s,b1,bs1,cs,rfl,rfl,ho,hv,rfl,rfl⟩,_⟩;obtain⟨ho,_⟩:=ho;have hv:cs=[u]:=hv;rw[ho]at hv;cases hv;exact⟨rfl,hk.below⟩
def aT8(W:World)(a b:Int)(hgo:No W [])(hp:Qe a b)(ha:bA .i64 a)(hb:bA .i64 b) :
  Calls aL 429 #[.int .i64 a,.int .i64 b] W λe w'=>e = .returned (.int .i64 (o6 a b))/\Below W.heap.size W w':=by
 have h:=aPv.h.2.down rfl W (a,b,()) [.int .i64 a,.int .i64 b] [[],[]] hgo hp ⟨_,_,_,_,rfl,rfl,⟨rfl,rfl,ha⟩,_,_,_,_,rfl,rfl,⟨rfl,rfl,hb⟩,rfl,rfl⟩ (by simp);refine h.mono ?_;rintro e w' ⟨rs,ubs,rbs,rfl,hk,⟨u,s,b1,bs1,cs,rfl,rfl,ho,hv,rfl,rfl⟩,_⟩;obtain⟨ho,_⟩:=ho;have hv:cs=[u]:=hv;rw[ho]at hv;cases hv;exact⟨rfl,hk.below⟩
def aKF{w:World}{x0:Γ c7}{b off:Nat}(hc:∀j u,(rA BB x0)[j]? = some u->w.cell? ⟨b,off+j,none⟩=some u)(k:Nat)(hk:k<x0.length) :
  w.cell? ⟨b,off+(3*k+0),none⟩=some (.int .i64 (x0.getD k j6).1)/\w.cell? ⟨b,off+(3*k+1),none⟩=some (.int .i64 (x0.getD k j6).2.1)/\w.cell? ⟨b,off+(3*k+2),none⟩=some (.int .i64 (x0.getD k j6).2.2.1):=by
 have key:∀(xs:Γ c7) (k:Nat),k<xs.length->(rA BB xs)[3*k+0]? = some (.int .i64 (xs.getD k j6).1)/\(rA BB xs)[3*k+1]? = some (.int .i64 (xs.getD k j6).2.1)/\(rA BB xs)[3*k+2]? = some (.int .i64 (xs.getD k j6).2.2.1):=by
  intro xs
  induction xs with
  | nil=>intro k hk;simp at hk
  | cons x r ih =>
   intro k hk;have e:rA BB (x::r) = .int .i64 x.1 :: .int .i64 x.2.1 :: .int .i64 x.2.2.1::rA BB r:=rfl;rw[e];cases k with
   | zero=>exact⟨rfl,rfl,rfl⟩
   | succ k =>
    have:=ih k (by simpa using hk);rw[show 3*(k+1)+0=3*k+0+1+1+1 by omega,show 3*(k+1)+1=3*k+1+1+1+1 by omega,show 3*(k+1)+2=3*k+2+1+1+1 by omega];simp only[List.getElem?_cons_succ,List.getD_cons_succ];exact this
 obtain⟨a1,a2,a3⟩:=key x0 k hk;exact⟨hc _ _ a1,hc _ _ a2,hc _ _ a3⟩
set_option maxHeartbeats 4000000 in
def aIY(w:World)(x0:Γ c7)(v:Value)(hgo:No w [])(hok:jG x0=false)(ha:yD w (fW w []) (j8 (.sl BB) x0) v) :
  Calls aL 382 #[v] w λe w'=>e = .returned (.tuple #[.int .i64 0,.int .i64 1])/\Below w.heap.size w w':=by
 have HA:Aside (yD w (fW w []) (j8 (.sl BB) x0) v):=ha;clear ha;have mixed:=mixed
 go_enter HL,Lk
 go_wp2_with (go_at_call 59;refine(aIX _ x0 _ hgo HA.out).mono ?_)
 rintro e w1 ⟨rfl,b1⟩;rw[hok]
 go_wp2
 go_ret2
 exact⟨rfl,b1⟩
set_option maxHeartbeats 4000000 in
def WI(w:World)(x0:Γ c7)(ad:Option Addr)(cap:Nat)(hgo:No w [])(hl:x0.length<2)(hok:jG x0=true)(ha:yD w (fW w []) (j8 (.sl BB) x0) (.slice ad x0.length cap)) :
  Calls aL 382 #[.slice ad x0.length cap] w λe w'=>e = .returned (.tuple #[.int .i64 0,.int .i64 3])/\Below w.heap.size w w':=by
 have HA:Aside (yD w (fW w []) (j8 (.sl BB) x0) (.slice ad x0.length cap)):=ha;clear ha;have mixed:=mixed;have h2:((x0.length:Nat):Int)<2:=by omega
 go_enter HL,Lk
 go_wp2_with (go_at_call 59;refine(aIX _ x0 _ hgo HA.out).mono ?_)
 rintro e w1 ⟨rfl,b1⟩;rw[hok]
 go_wp2
 go_ret2
 exact⟨rfl,b1⟩
set_option maxHeartbeats 4000000 in
def aT9(w:World)(x0:Γ c7)(b off cap:Nat)(hgo:No w [])(hl:2<=x0.length)(hm:x0.length<=24)(hcl:x0.length<=cap)(hcap:cap<=maxLen)(hb:b<w.heap.size)(hok:jG x0=true)(ha:yD w (fW w []) (j8 (.sl BB) x0) (.slice (some ⟨b,off,none⟩) x0.length cap))
  (hc:∀j u,(rA BB x0)[j]? = some u->w.cell? ⟨b,off+j,none⟩=some u) (hP:Qe (1000*((x0.getD (x0.length-1) j6).2.1-(x0.getD 0 j6).2.1)) ((x0.getD (x0.length-1) j6).1-(x0.getD 0 j6).1))
  (hr:0<=(x0.getD (x0.length-1) j6).1/\(x0.getD (x0.length-1) j6).1<=100000/\0<=(x0.getD 0 j6).1/\(x0.getD 0 j6).1<=100000/\0<=(x0.getD (x0.length-1) j6).2.1/\(x0.getD (x0.length-1) j6).2.1<=100000/\0<=(x0.getD 0 j6).2.1/\(x0.getD 0 j6).2.1<=100000) :
  Calls aL 382 #[.slice (some ⟨b,off,none⟩) x0.length cap] w λe w'=>e = .returned (.tuple #[.int .i64 (o6 (1000*((x0.getD (x0.length-1) j6).2.1-(x0.getD 0 j6).2.1)) ((x0.getD (x0.length-1) j6).1-(x0.getD 0 j6).1)),.int .i64 0])/\Below w.heap.size w w':=by
 have HA:Aside (yD w (fW w []) (j8 (.sl BB) x0) (.slice (some ⟨b,off,none⟩) x0.length cap)):=ha;obtain⟨c1,c2,c3⟩:=aKF hc 0 (by omega);obtain⟨d1,d2,d3⟩:=aKF hc (x0.length-1) (by omega);have HP:Aside (Qe (1000*((x0.getD (x0.length-1) j6).2.1-(x0.getD 0 j6).2.1)) ((x0.getD (x0.length-1) j6).1-(x0.getD 0 j6).1)):=hP;clear ha hc hP;generalize x0.getD (x0.length-1) j6=y at *;generalize x0.getD 0 j6=z at *;obtain⟨y1,y2,y3,_⟩:=y;obtain⟨z1,z2,z3,_⟩:=z;simp only at c1 c2 c3 d1 d2 d3 hr HP ⊢;obtain⟨r1,r2,r3,r4,r5,r6,r7,r8⟩:=hr;have mixed:=mixed;have h2:¬((x0.length:Nat):Int)<2:=by omega
 go_enter HL,Lk
 go_wp2_with (go_at_call 59;refine(aIX _ x0 _ hgo HA.out).mono ?_;rintro e w1 ⟨rfl,b1⟩;rw[hok])
 have eb:w1.heap[b]? = w.heap[b]? := b1.block b hb;replace c1:=(fM eb).trans c1;replace c2:=(fM eb).trans c2;replace c3:=(fM eb).trans c3;replace d1:=(fM eb).trans d1;replace d2:=(fM eb).trans d2;replace d3:=(fM eb).trans d3;clear eb;have hb1:b<w1.heap.size:=cZ hb b1.size;rw[show off+(3*0+0)=off by omega]at c1;rw[show off+(3*0+1)=off+1 by omega]at c2;rw[show off+(3*0+2)=off+2 by omega]at c3;rw[show off+(3*(x0.length-1)+0)=off+(x0.length-1)*3 by omega]at d1;rw[show off+(3*(x0.length-1)+1)=off+(x0.length-1)*3+1 by omega]at d2;rw[show off+(3*(x0.length-1)+2)=off+(x0.length-1)*3+2 by omega]at d3
 go_wp2
 go_region
 all_goals go_wp2_with (go_at_call 429;refine(aT8 _ (1000*(y2-z2)) (y1-z1) (aVS hgo (((b1.alloc b1.size _).alloc (by have:=b1.size;show w.heap.size<=(w1.heap.push _).size;rw[Av];omega) _).drew)) HP.out (by rw[aK];omega) (by rw[aK];omega)).mono ?_;rintro e w2 ⟨rfl,b2⟩)
 all_goals go_wp2
 all_goals go_ret2
 all_goals exact⟨rfl,(((b1.alloc b1.size _).alloc (by have:=b1.size;show w.heap.size<=(w1.heap.push _).size;rw[Av];omega) _).drew).trans (b2.mono (by have:=b1.size;show w.heap.size<=((w1.heap.push _).push _).size;rw[Av,Av];omega))⟩
def bAi:Γ AT:=[AT.v (.sl BB)]
def aAf(x0:Γ c7):Int:=1000*((x0.getD (x0.length-1) j6).2.1-(x0.getD 0 j6).2.1)
def aAg(x0:Γ c7):Int:=(x0.getD (x0.length-1) j6).1-(x0.getD 0 j6).1
def kW(x0:Γ c7):Int:=if jG x0 then(if x0.length<2 then 0 else o6 (aAf x0) (aAg x0))else 0
def vR(x0:Γ c7):Int:=if jG x0 then(if x0.length<2 then 3 else 0)else 1
def aPE(x0:Γ c7):Prop:=jG x0=true->2<=x0.length->x0.length<=24/\Qe (aAf x0) (aAg x0)/\bA .i64 (o6 (aAf x0) (aAg x0)) /\
 (0<=(x0.getD (x0.length-1) j6).1/\(x0.getD (x0.length-1) j6).1<=100000/\0<=(x0.getD 0 j6).1/\(x0.getD 0 j6).1<=100000/\0<=(x0.getD (x0.length-1) j6).2.1/\(x0.getD (x0.length-1) j6).2.1<=100000/\0<=(x0.getD 0 j6).2.1/\(x0.getD 0 j6).2.1<=100000)
def bGV:Am.Spec:={ sig:=bAi,pre:=λ⟨x0,_⟩=>aPE x0,res:=λ⟨x0,_⟩=>[⟨.int .i64,kW x0⟩,⟨.int .i64,vR x0⟩] }
def bAj:S0 382 bGV:=AJ HL<|nH rfl λw ⟨x0,_⟩ vs bss hg hp hw ha=>by
 obtain⟨v0,s0,_,_,rfl,_,⟨_,ha⟩,rfl,_⟩:=ha;have hgo:No w []:=⟨hg,hg.size,λb hb=>by cases hb⟩;obtain⟨hwf,hml,hcase⟩:=QV (t:=BB) rfl ha;have hp:aPE x0:=hp;have z:bA .i64 0:=by rw[aK];omega
 refine⟨λd hd=>?_,?_⟩
 ·simp only[aW,dH,or_false]at hd;rcases hd with rfl | rfl
  ·refine⟨rfl,?_⟩;show bA .i64 (kW x0);unfold kW;split
   ·rename_i hv;split
    ·exact z
    ·exact(hp hv (by omega)).2.2.1
   ·exact z
  ·refine⟨rfl,?_⟩;show bA .i64 (vR x0);unfold vR;split
   ·split
    ·rw[aK];omega
    ·exact z
   ·rw[aK];omega
 ·show Calls aL 382 #[v0] w λe w'=>e = .returned (.tuple #[.int .i64 (kW x0),.int .i64 (vR x0)])/\cQ [] w w';unfold kW vR;by_cases hv:jG x0=true
  ·rw[π hv,π hv];by_cases h2:x0.length<2
   ·rw[π h2,π h2];rcases hcase with ⟨ad,rfl,rfl⟩ | ⟨b',off,cap,rfl,h3,h4,hG,hcells⟩
    ·refine(WI w [] ad 0 hgo h2 hv ha).mono ?_;rintro e w' ⟨rfl,hb⟩;exact⟨rfl,iO hb⟩
    ·refine(WI w x0 _ cap hgo h2 hv ha).mono ?_;rintro e w' ⟨rfl,hb⟩;exact⟨rfl,iO hb⟩
   ·rw[ν h2,ν h2];obtain⟨p1,p2,p3,p4⟩:=hp hv (by omega);rcases hcase with ⟨ad,rfl,rfl⟩ | ⟨b',off,cap,rfl,h3,h4,hG,hcells⟩
    ·exact absurd (by decide:([]:Γ c7).length<2) h2
    ·refine(aT9 w x0 b' off cap hgo (by omega) p1 h3 h4 hG.1 hv ha hcells p2 p4).mono ?_;rintro e w' ⟨rfl,hb⟩;exact⟨rfl,iO hb⟩
  ·rw[ν hv,ν hv];refine(aIY w x0 v0 hgo (Bool.eq_false_iff.2 hv) ha).mono ?_;rintro e w' ⟨rfl,hb⟩;exact⟨rfl,iO hb⟩
def bGW:KK:=⟨382,bGV,bAj⟩
noncomputable section
def bAk:jB:=D0 aDG [.v (.sl dX),.v (.int .i64)] [.int .i64,.int .i64] [aMu,lH,bGW,aK3]
mutual
def aMV:Nat->Γ c7->Int->Γ aS->Prop
 | 0,_,_,_=>False
 | n+1,x0,x1,ds=>if !jG x0 then ds=[aJ (.int .i64) 0,aJ (.int .i64) 1] else if !bH x1 0 24000 then ds=[aJ (.int .i64) 0,aJ (.int .i64) 2] else aPE x0/\if vR x0 != 0 then ds=[aJ (.int .i64) 0,aJ (.int .i64) (vR x0)] else bA .i64 ((x0.length:Int)-1)/\0<=(x0.length:Int)-1/\(x0.length:Int)-1<(x0.length:Int)/\DR n (aD x0 (aE ((x0.length:Int)-1)) (0,0,0,())).1 x1 x0 ds
def DR:Nat->Int->Int->Γ c7->Γ aS->Prop
 | 0,_,_,_,_=>False
 | n+1,v9,x1,x0,ds=>if pK v9 then bA .i64 (v9-(aD x0 (aE ((x0.length:Int)-1)) (0,0,0,())).1)/\bA .i64 (kW x0*(v9-(aD x0 (aE ((x0.length:Int)-1)) (0,0,0,())).1))/\bA .i64 (aP (kW x0*(v9-(aD x0 (aE ((x0.length:Int)-1)) (0,0,0,())).1)) 1000)/\bA .i64 ((aD x0 (aE ((x0.length:Int)-1)) (0,0,0,())).2.1+aP (kW x0*(v9-(aD x0 (aE ((x0.length:Int)-1)) (0,0,0,())).1)) 1000)/\if decide ((aD x0 (aE ((x0.length:Int)-1)) (0,0,0,())).2.1+aP (kW x0*(v9-(aD x0 (aE ((x0.length:Int)-1)) (0,0,0,())).1)) 1000>=x1)then ds=[aJ (.int .i64) v9,aJ (.int .i64) 0] else bA .i64 (v9+1)/\DR n (v9+1) x1 x0 ds else ds=[aJ (.int .i64) 0,aJ (.int .i64) 3]
end
def bAl(ds:Γ aS)(K:gU)(q:Nat->Value):∀n,(∀ {x0 x1},aMV n x0 x1 ds->St bAk (x0,x1,()) ds [] K q)/\(∀ {v9 x1 x0},DR n v9 x1 x0 ds->Cu bAk 10 ([eI 1 x1,eI 6 (kW x0),eO 8 0 0 [],eI 9 v9],[some (iJ.mk dX [aD x0 (aE ((x0.length:Int)-1)) (0,0,0,())] true none (some false))]) ds [] K q):=nI ⟨aH,aH⟩ λn ⟨i,i10⟩=>⟨bS<|bU dR<|bS<|bU dR<|aO<|bU dR<|aO<|eE<|cX i10,
  bS<|bU (aO<|aO<|pw 1000<|aO<|aO<|bU dR<|aO<|cX i10) dR⟩
def lS(x0:Γ c7):c7:=x0.getD (aE ((x0.length:Int)-1)) j6
def kF(x0:Γ c7)(d:Int):Int:=(lS x0).2.1+aP (kW x0*(d-(lS x0).1)) 1000
def kR(x0:Γ c7)(x1:Int):Nat->Int->Int
 | 0,_ => -1
 | k+1,d=>if kF x0 d>=x1 then d else kR x0 x1 k (d+1)
def aB5(x0:Γ c7)(x1:Int):Int:=kR x0 x1 (36525-(lS x0).1).toNat (lS x0).1
def Ak(x0:Γ c7)(x1:Int):Int:=if jG x0 then(if bH x1 0 24000 then(if vR x0=0 then(if aB5 x0 x1<0 then 0 else aB5 x0 x1)else 0)else 0)else 0
def EB(x0:Γ c7)(x1:Int):Int:=if jG x0 then(if bH x1 0 24000 then(if vR x0=0 then(if aB5 x0 x1<0 then 3 else 0)else vR x0)else 2)else 1
def WJ(x0:Γ c7):Prop:=1<=x0.length/\x0.length<=24/\(0<=(lS x0).1/\(lS x0).1<=36524)/\(0<=(lS x0).2.1/\(lS x0).2.1<=24000)/\(0<=kW x0/\kW x0<=30000000)
def aTA(x0:Γ c7)(x1:Int):Prop:=aPE x0/\(jG x0=true->vR x0=0->WJ x0)
def aPF{a b:Int}(ha:0<=a/\a<=30000000)(hb:0<=b/\b<=36524):0<=a*b/\a*b<=1095720000000/\0<=aP (a*b) 1000/\aP (a*b) 1000<=1095720000:=by
 have h1:0<=a*b:=Int.mul_nonneg ha.1 hb.1;have h2:a*b<=30000000*36524:=Int.mul_le_mul ha.2 hb.2 hb.1 (by decide);rw[Int.tdiv_eq_ediv_of_nonneg h1];generalize a*b=z at *;omega
def bAm{x0:Γ c7}{x1:Int}(hb:WJ x0):∀(k:Nat) (d:Int),(lS x0).1<=d->d+k=36525 ->
  DR (k+1) d x1 x0 [⟨.int .i64,if kR x0 x1 k d<0 then 0 else kR x0 x1 k d⟩,⟨.int .i64,if kR x0 x1 k d<0 then 3 else 0⟩]:=by
 obtain⟨hl,hm,⟨a1,a2⟩,⟨b1,b2⟩,hg⟩:=hb;intro k
 induction k with
 | zero =>
  intro d hd hk;have e:¬pK d=true:=by
   unfold pK bH;rw[π (by simp only[ε];omega)];simp only[ε];omega
  rw[DR,ν e];rfl
 | succ k ih =>
  intro d hd hk;have e:pK d=true:=by
   unfold pK bH;rw[π (by simp only[ε];omega)];simp only[ε];omega
  obtain⟨m1,m2,m3,m4⟩:=aPF hg (b:=d-(lS x0).1) (by omega);have hr:DR (k+1+1) d x1 x0 [⟨.int .i64,if kR x0 x1 (k+1) d<0 then 0 else kR x0 x1 (k+1) d⟩,⟨.int .i64,if kR x0 x1 (k+1) d<0 then 3 else 0⟩]=((bA .i64 (d-(lS x0).1))/\((bA .i64 (kW x0*(d-(lS x0).1)))/\((bA .i64 (aP (kW x0*(d-(lS x0).1)) 1000))/\((bA .i64 (kF x0 d))/\(if decide (kF x0 d>=x1)=true then([⟨.int .i64,if kR x0 x1 (k+1) d<0 then 0 else kR x0 x1 (k+1) d⟩,⟨.int .i64,if kR x0 x1 (k+1) d<0 then 3 else 0⟩]=([⟨.int .i64,d⟩,⟨.int .i64,0⟩]:Γ aS))else((bA .i64 (d+1))/\(DR (k+1) (d+1) x1 x0 [⟨.int .i64,if kR x0 x1 (k+1) d<0 then 0 else kR x0 x1 (k+1) d⟩,⟨.int .i64,if kR x0 x1 (k+1) d<0 then 3 else 0⟩]))))))):=by
   rw[DR,π e];rfl
  rw[hr];have hv:bA .i64 (kF x0 d):=by
   unfold kF;rw[aK];generalize aP (kW x0*(d-(lS x0).1)) 1000=z at *;omega
  refine⟨by rw[aK];omega,by rw[aK];omega,by rw[aK];omega,hv,?_⟩;have ef:kR x0 x1 (k+1) d=if kF x0 d>=x1 then d else kR x0 x1 k (d+1):=rfl
  by_cases h:kF x0 d>=x1
  ·rw[π h]at ef;rw[π (decide_eq_true h),ef,ν (by omega),ν (by omega)]
  ·rw[ν h]at ef;rw[ν (by simpa using h),ef];exact⟨by rw[aK];omega,ih (d+1) (by omega) (by omega)⟩
def bAn(x0:Γ c7)(x1:Int)(hp:aTA x0 x1):∃n,aMV n x0 x1 [⟨.int .i64,Ak x0 x1⟩,⟨.int .i64,EB x0 x1⟩]:=by
 obtain⟨p13,hB⟩:=hp;unfold Ak EB;cases hv:jG x0 with
 | false =>
  refine⟨0+1,?_⟩;rw[aMV,hv,π (by rfl),ν (by decide),ν (by decide)]
 | true =>
  have hB:=hB hv;cases hw:bH x1 0 24000 with
  | false =>
   refine⟨0+1,?_⟩;rw[aMV,hv,ν (by decide),hw,π (by rfl)];rfl
  | true =>
   by_cases h4:vR x0=0
   ·obtain⟨hl,hm,⟨a1,a2⟩,hrest⟩:=hB h4;have hk:=bAm (x1:=x1) (hB h4) (36525-(lS x0).1).toNat (lS x0).1 (dO _) (by omega);refine⟨(36525-(lS x0).1).toNat+1+1,?_⟩;rw[aMV,hv,ν (by decide),hw,ν (by decide),ν (by rw[h4];decide),π rfl,π rfl,π h4,π rfl,π rfl,π h4];exact⟨p13,by rw[aK];omega,by omega,by omega,hk⟩
   ·refine⟨0+1,?_⟩;rw[aMV,hv,ν (by decide),hw,ν (by decide),π (by simpa using h4),π rfl,π rfl,ν h4,π rfl,π rfl,ν h4];exact⟨p13,rfl⟩
def bGY:KK:=mL bAk (DO aDG) aTA (Ak,EB,()) (λ⟨x0,x1,_⟩ h hwf K q =>
 let ⟨n,hn⟩:=bAn x0 x1 h
 (bAl _ K q n).1 hn)
def aTB(x0:Γ c7)(x1:Int)(x2:Int):Prop:=if !jG x0 then True else if !bH x1 0 24000 then True else if !bH x2 1 1000 then True else if(x0.length:Int)==0 then True else bA .i64 ((x0.length:Int)-1)/\0<=(x0.length:Int)-1/\(x0.length:Int)-1<(x0.length:Int)/\bA .i64 ((aD x0 (aE ((x0.length:Int)-1)) (0,0,0,())).1+x2)/\aTA x0 x1/\True
def JO(x0:Γ c7)(x1:Int)(x2:Int):Int:=(if(!jG x0)=true then 0 else(if(!bH x1 0 24000)=true then 0 else(if(!bH x2 1 1000)=true then 0 else(if((x0.length:Int)==0)=true then 0 else(if(EB x0 x1==0)=true then if Ak x0 x1<if(aD x0 (aE ((x0.length:Int)-1)) (0,0,0,())).1+x2<36524 then(aD x0 (aE ((x0.length:Int)-1)) (0,0,0,())).1+x2 else 36524 then Ak x0 x1 else if(aD x0 (aE ((x0.length:Int)-1)) (0,0,0,())).1+x2<36524 then(aD x0 (aE ((x0.length:Int)-1)) (0,0,0,())).1+x2 else 36524 else if(aD x0 (aE ((x0.length:Int)-1)) (0,0,0,())).1+x2<36524 then(aD x0 (aE ((x0.length:Int)-1)) (0,0,0,())).1+x2 else 36524)))))
def Qr(x0:Γ c7)(x1:Int)(x2:Int):Int:=if !jG x0 then 1 else if !bH x1 0 24000 then 2 else if !bH x2 1 1000 then 2 else if(x0.length:Int)==0 then 3 else if EB x0 x1==0 then 0 else 0
def bGZ:KK:=mB Tryz.func188 [.v (.sl dX),.v (.int .i64),.v (.int .i64)] [.int .i64,.int .i64] [aMu,lH,bGY] aTB (JO,Qr,()) λ_=>bS<|dP pr<|bS<|dP (j0 pr)<|bS<|dP pr<|dP pr<|aO<|eE<|aO<|aO<|vD pr pr
end
def bAo:Γ AT:=[AT.v kM,AT.v kM]
def aB6(x0 x1:Δ):Δ:=⟨(fE x0.data.toList (x1.data.toList.getD 0 0)).toArray⟩
def bAp(x0 x1:Δ):Prop:=∃c:UInt8,x1=⟨#[c]⟩/\c.toNat<128
def bHa:Am.Spec:={ sig:=bAo,pre:=λ⟨x0,x1,_⟩=>bAp x0 x1,res:=λ⟨x0,x1,_⟩=>[⟨kM,aB6 x0 x1⟩] }
def bAq(l:Γ UInt8)(c:UInt8):(fE l c).length<=l.length:=by
 unfold fE
 first
 | (rw[LD];exact dV (List.dropWhile_sublist _).length_le (by rw[LD];exact aT _))
 | (simp;done)
def bAr:S0 388 bHa:=AJ Tryz.func388<|nH rfl λw ⟨x0,x1,_⟩ vs bss hg hp hw ha=>by
 obtain⟨v0,s0,_,_,rfl,_,⟨_,rfl,_⟩,v1,s1,_,_,rfl,_,⟨_,rfl,_⟩,rfl,_⟩:=ha;have hi:x0.size<=maxLen:=hw.1;obtain⟨c,rfl,hc⟩:=hp;refine⟨λd hd=>?_,?_⟩
 ·rw[dU.1 hd];refine⟨rfl,?_⟩;show (qT _).size<=maxLen;rw[eH];have e:x0.data.toList.length=x0.size:=rfl;have:=bAq x0.data.toList c;show (fE x0.data.toList c).length<=maxLen;omega
 ·refine(Tryz.strings_TrimRight_one x0 c hc w hi).mono ?_;rintro e w' ⟨rfl,rfl⟩;exact⟨rfl,dD _ _⟩
def bHb:KK:=⟨388,bHa,bAr⟩
noncomputable section
def Qs(x0:Int):Bool:=if decide (x0<32)then true else decide (x0>126)
def aWq:KK:=mB Tryz.func471 [.v (.int .u8)] [.bool] [] nP (Qs,()) λ_=>fP pr pr
def WK:jB:=D0 HM [.v (.sl (.int .u8)),.fn 471 []] [.int .i64] [aWq]
def aIZ(ds:Γ aS)(K:gU)(q:Nat->Value):∀n,(∀ {x0},RI0 Qs 0 n x0 ds->St WK (x0,(),()) ds [] K q)/\(∀ {v8 x0},RI Qs 0 n v8 x0 ds->Cu WK 2 ([eL 0 (.int .u8) x0,(1,o9 471 []),eI 7 (x0.length:Int),eI 8 v8],[]) ds [] K q):=nI ⟨aH,aH⟩ λn ⟨i,i2⟩=>⟨cX i2,
  bU (eE<|bS<|bU dR<|aO<|cX i2) dR⟩
def Mm(x0:Γ (Int)):Int:=idx (x0.findIdx? Qs)
def aMW:KK:=mL WK (DO HM) nP (Mm,()) (λ⟨x0,_⟩ h hwf K q =>
 (aIZ _ K q _).1 (VJ hwf.1.1))
theorem aJa(x0:Γ (Int)):decide (Mm x0>=0)=x0.any Qs:=VK
def Mn(x0:Γ Int):Bool:=decide (Mm x0>=0)
def aMX:KK:=mB aDH [.v (.sl (.int .u8)),.fn 471 []] [.bool] [aMW,aWq] nP (Mn,()) λ_=>bS pr
def Qt(x0:Δ):Bool:=if decide ((↑(aG x0):Int)<=100)then !Mn (b9 x0)else false
def bHc:KK:=mB Tryz.func466 [.v (.str)] [.bool] [aMX] nP (Qt,()) λ_=>fP (bS pr) pr
def Mo(x0:Δ):Bool := !Qt x0
def aWr:KK:=mB Tryz.func465 [.v (.str)] [.bool] [bHc] nP (Mo,()) λ_=>bS pr
def WL:jB:=D0 HO [.v (.sl .str),.fn 465 []] [.int .i64] [aWr]
def aJb(ds:Γ aS)(K:gU)(q:Nat->Value):∀n,(∀ {x0},RI0 Mo aC n x0 ds->St WL (x0,(),()) ds [] K q)/\(∀ {v8 x0},RI Mo aC n v8 x0 ds->Cu WL 2 ([eL 0 .str x0,(1,o9 465 []),eI 7 (x0.length:Int),eI 8 v8],[]) ds [] K q):=nI ⟨aH,aH⟩ λn ⟨i,i2⟩=>⟨cX i2,
  bU (eE<|bS<|bU dR<|aO<|cX i2) dR⟩
def Mp(x0:Γ (Δ)):Int:=idx (x0.findIdx? Mo)
def aMY:KK:=mL WL (DO HO) nP (Mp,()) (λ⟨x0,_⟩ h hwf K q =>
 (aJb _ K q _).1 (VJ hwf.1.1))
theorem WM(x0:Γ (Δ)):decide (Mp x0>=0)=x0.any Mo:=VK
def GP(x0:Γ Δ):Bool:=decide (Mp x0>=0)
def aMZ:KK:=mB aDI [.v (.sl .str),.fn 465 []] [.bool] [aMY,aWr] nP (GP,()) λ_=>bS pr
def WN(x0:Γ Δ):Bool:=if decide ((x0.length:Int)<=200)then !GP x0 else false
def bHd:KK:=mB Tryz.func442 [.v (.sl .str)] [.bool] [aMZ] nP (WN,()) λ_=>fP (bS pr) pr
def GQ(x0:Γ Δ):Γ Δ:=if !WN x0 then [] else x0
def Qu(x0:Γ Δ):Int:=if !WN x0 then 5 else 0
def bHe:KK:=mV Tryz.func389 [.own .str] [.sl .str,.int .i64] [bHd] nP (λ_=>[none]) (GQ,Qu,()) λ_=>bS<|vD pr pr
def Qv(x0:Int):Bool:=if decide (x0<33)then true else decide (x0>126)
def aWs:KK:=mB Tryz.func437 [.v (.int .u8)] [.bool] [] nP (Qv,()) λ_=>fP pr pr
def WO:jB:=D0 HM [.v (.sl (.int .u8)),.fn 437 []] [.int .i64] [aWs]
def aJc(ds:Γ aS)(K:gU)(q:Nat->Value):∀n,(∀ {x0},RI0 Qv 0 n x0 ds->St WO (x0,(),()) ds [] K q)/\(∀ {v8 x0},RI Qv 0 n v8 x0 ds->Cu WO 2 ([eL 0 (.int .u8) x0,(1,o9 437 []),eI 7 (x0.length:Int),eI 8 v8],[]) ds [] K q):=nI ⟨aH,aH⟩ λn ⟨i,i2⟩=>⟨cX i2,
  bU (eE<|bS<|bU dR<|aO<|cX i2) dR⟩
def Mq(x0:Γ (Int)):Int:=idx (x0.findIdx? Qv)
def aNa:KK:=mL WO (DO HM) nP (Mq,()) (λ⟨x0,_⟩ h hwf K q =>
 (aJc _ K q _).1 (VJ hwf.1.1))
theorem aJd(x0:Γ (Int)):decide (Mq x0>=0)=x0.any Qv:=VK
def Mr(x0:Γ Int):Bool:=decide (Mq x0>=0)
def aNb:KK:=mB aDH [.v (.sl (.int .u8)),.fn 437 []] [.bool] [aNa,aWs] nP (Mr,()) λ_=>bS pr
def Ms(x0:Δ):Bool:=Mr (b9 x0)
def aWt:KK:=mB Tryz.func435 [.v (.str)] [.bool] [aNb] nP (Ms,()) λ_=>bS pr
def WP:jB:=D0 HO [.v (.sl .str),.fn 435 []] [.int .i64] [aWt]
def aJe(ds:Γ aS)(K:gU)(q:Nat->Value):∀n,(∀ {x0},RI0 Ms aC n x0 ds->St WP (x0,(),()) ds [] K q)/\(∀ {v8 x0},RI Ms aC n v8 x0 ds->Cu WP 2 ([eL 0 .str x0,(1,o9 435 []),eI 7 (x0.length:Int),eI 8 v8],[]) ds [] K q):=nI ⟨aH,aH⟩ λn ⟨i,i2⟩=>⟨cX i2,
  bU (eE<|bS<|bU dR<|aO<|cX i2) dR⟩
def Mu(x0:Γ (Δ)):Int:=idx (x0.findIdx? Ms)
def aNc:KK:=mL WP (DO HO) nP (Mu,()) (λ⟨x0,_⟩ h hwf K q =>
 (aJe _ K q _).1 (VJ hwf.1.1))
theorem aJf(x0:Γ (Δ)):decide (Mu x0>=0)=x0.any Ms:=VK
def GR(x0:Γ Δ):Bool:=decide (Mu x0>=0)
def aNd:KK:=mB aDI [.v (.sl .str),.fn 435 []] [.bool] [aNc,aWt] nP (GR,()) λ_=>bS pr
def aJg(x0:Γ Δ):Bool:=if decide ((x0.length:Int)<=12)then !GR x0 else false
def bHf:KK:=mB Tryz.func387 [.v (.sl .str)] [.bool] [aNd] nP (aJg,()) λ_=>fP (bS pr) pr
def Qw(x0:Γ Δ):Bool := !aJg x0
def aWu:KK:=mB Tryz.func386 [.v (.sl .str)] [.bool] [bHf] nP (Qw,()) λ_=>bS pr
def WQ:jB:=D0 aDJ [.v (.sl (.sl .str)),.fn 386 []] [.int .i64] [aWu]
def aJh(ds:Γ aS)(K:gU)(q:Nat->Value):∀n,(∀ {x0},RI0 Qw [] n x0 ds->St WQ (x0,(),()) ds [] K q)/\(∀ {v8 x0},RI Qw [] n v8 x0 ds->Cu WQ 2 ([eL 0 (.sl .str) x0,(1,o9 386 []),eI 7 (x0.length:Int),eI 8 v8],[]) ds [] K q):=nI ⟨aH,aH⟩ λn ⟨i,i2⟩=>⟨cX i2,
  bU (eE<|bS<|bU dR<|aO<|cX i2) dR⟩
def Mv(x0:Γ (Γ (Δ))):Int:=idx (x0.findIdx? Qw)
def aNe:KK:=mL WQ (DO aDJ) nP (Mv,()) (λ⟨x0,_⟩ h hwf K q =>
 (aJh _ K q _).1 (VJ hwf.1.1))
theorem aJi(x0:Γ (Γ (Δ))):decide (Mv x0>=0)=x0.any Qw:=VK
def sU(x0:Γ (Γ Δ)):Bool:=decide (Mv x0>=0)
def aNf:KK:=mB Tryz.func385 [.v (.sl (.sl .str)),.fn 386 []] [.bool] [aNe,aWu] nP (sU,()) λ_=>bS pr
def aNg:jB:=D0 aDK [.v (.sl (.sl .str))] [.sl .str,.int .i64] [aVY,aK5,bHb,bHe,aNf]
mutual
def aTC:Nat->Γ (Γ Δ)->Γ aS->Prop
 | 0,_,_=>False
 | n+1,x0,ds=>if sU x0 then ds=[aJ (.sl .str) [],aJ (.int .i64) 2] else Mw n 0 ([0,0,0,0,0,0,0,0,0,0,0,0]) x0 ds
def Mw:Nat->Int->Γ Int->Γ (Γ Δ)->Γ aS->Prop
 | 0,_,_,_,_=>False
 | n+1,v20,h0,x0,ds=>if decide (v20<(x0.length:Int))then 0<=v20/\v20<(x0.length:Int)/\Qx n 0 h0 x0 v20 ds else DS n 0 ([]) x0 h0 ds
def Qx:Nat->Int->Γ Int->Γ (Γ Δ)->Int->Γ aS->Prop
 | 0,_,_,_,_,_=>False
 | n+1,v26,h0,x0,v20,ds=>if decide (v26<(↑(aF (aD x0 (aE v20) [])):Int))then 0<=v26/\v26<(↑(aF (aD x0 (aE v20) [])):Int)/\0<=v26/\v26<(h0.length:Int)/\0<=v26/\v26<(h0.length:Int)/\bA .i64 (v26+1)/\Qx n (v26+1) (fF h0 (aE v26) (if aD h0 (aE v26) 0<(↑(aG (aD (aD x0 (aE v20) []) (aE v26) aC)):Int)then(↑(aG (aD (aD x0 (aE v20) []) (aE v26) aC)):Int)else aD h0 (aE v26) 0)) x0 v20 ds else bA .i64 (v20+1)/\Mw n (v20+1) h0 x0 ds
def DS:Nat->Int->Γ Δ->Γ (Γ Δ)->Γ Int->Γ aS->Prop
 | 0,_,_,_,_,_=>False
 | n+1,v45,h1,x0,h0,ds=>if decide (v45<(x0.length:Int))then 0<=v45/\v45<(x0.length:Int)/\K7 n 0 ([]) x0 v45 h0 h1 ds else ds=[aJ (.sl .str) (GQ h1),aJ (.int .i64) (Qu h1)]
def K7:Nat->Int->Γ Δ->Γ (Γ Δ)->Int->Γ Int->Γ Δ->Γ aS->Prop
 | 0,_,_,_,_,_,_,_=>False
 | n+1,v51,h2,x0,v45,h0,h1,ds=>if decide (v51<(↑(aF (aD x0 (aE v45) [])):Int))then 0<=v51/\v51<(↑(aF (aD x0 (aE v45) [])):Int)/\0<=v51/\v51<(h0.length:Int)/\bA .i64 (aD h0 (aE v51) 0-(↑(aG (aD (aD x0 (aE v45) []) (aE v51) aC)):Int))/\aYt (aA #[32]) (aD h0 (aE v51) 0-(↑(aG (aD (aD x0 (aE v45) []) (aE v51) aC)):Int))/\aG (aD (aD x0 (aE v45) []) (aE v51) aC)+aG (Ft (aA #[32]) (aD h0 (aE v51) 0-(↑(aG (aD (aD x0 (aE v45) []) (aE v51) aC)):Int)))<=9223372036854775807/\(aF h2+1)*16<=140737488355328/\bA .i64 (v51+1)/\K7 n (v51+1) (h2++[aD (aD x0 (aE v45) []) (aE v51) aC++Ft (aA #[32]) (aD h0 (aE v51) 0-(↑(aG (aD (aD x0 (aE v45) []) (aE v51) aC)):Int))]) x0 v45 h0 h1 ds else Yl h2 (aA #[32,32])/\bAp (qM h2 (aA #[32,32])) (aA #[32])/\(aF h1+1)*16<=140737488355328/\bA .i64 (v45+1)/\DS n (v45+1) (h1++[aB6 (qM h2 (aA #[32,32])) (aA #[32])]) x0 h0 ds
end
def bAs(ds:Γ aS)(K:gU)(q:Nat->Value):∀n,(∀ {x0},aTC n x0 ds->St aNg (x0,()) ds [] K q)/\(∀ {v20 h0 x0},Mw n v20 h0 x0 ds->Cu aNg 5 ([eL 0 (.sl .str) x0,eW 4 0,eL 18 (.sl .str) x0,eI 19 (x0.length:Int),eI 20 v20],[cN (.int .i64) h0]) ds [] K q)/\(∀ {v26 h0 x0 v20},Qx n v26 h0 x0 v20 ds->Cu aNg 8 ([eL 0 (.sl .str) x0,eW 4 0,eL 18 (.sl .str) x0,eI 19 (x0.length:Int),eI 20 v20,eL 24 .str (aD x0 (aE v20) []),eI 25 (↑(aF (aD x0 (aE v20) [])):Int),eI 26 v26],[cN (.int .i64) h0]) ds [] K q)/\(∀ {v45 h1 x0 h0},DS n v45 h1 x0 h0 ds->Cu aNg 15 ([eW 4 0,eW 9 1,eL 43 (.sl .str) x0,eI 44 (x0.length:Int),eI 45 v45],[cN (.int .i64) h0,cN .str h1]) ds [] K q)/\(∀ {v51 h2 x0 v45 h0 h1},K7 n v51 h2 x0 v45 h0 h1 ds->Cu aNg 19 ([eW 4 0,eW 9 1,eW 12 2,eL 43 (.sl .str) x0,eI 44 (x0.length:Int),eI 45 v45,eL 49 .str (aD x0 (aE v45) []),eI 50 (↑(aF (aD x0 (aE v45) [])):Int),eI 51 v51],[cN (.int .i64) h0,cN .str h1,cN .str h2]) ds [] K q):=nI ⟨aH,aH,aH,aH,aH⟩ λn ⟨i,i5,i8,i15,i19⟩=>⟨bS<|bU dR<|pq 12<|rY ((by decide):(12:Int)<=(12:Int))<|rY ((by decide):(96:Int)<=(281474976710656:Int))<|cX i5,
  bU (eE<|cX i8)<|Dl [(9,.str)] i15,
  bU (eE<|eE<|eE<|aO<|cX i8)<|aO<|cX i5,
  bU (eE<|Dl [(12,.str)] i19)<|bS dR,
  bU (eE<|eE<|aO<|aO<|aO<|aO<|aO<|Dl [(12,.str)] i19)<|aO<|aO<|aO<|aO<|Dl [(9,.str)] i15⟩
def H7(h:Γ Int)(k:Nat)(c:Δ):Γ Int:=h.set k (if h.getD k 0<((c.size:Nat):Int)then((c.size:Nat):Int)else h.getD k 0)
def uD:Nat->Γ Δ->Γ Int->Γ Int
 | _,[],h=>h
 | k,c::r,h=>uD (k+1) r (H7 h k c)
def K9(x0:Γ (Γ Δ)):Γ Int:=x0.foldl (λh r=>uD 0 r h) [0,0,0,0,0,0,0,0,0,0,0,0]
def WR(h:Γ Int)(k:Nat)(c:Δ):Δ:=c++Ft (aA #[32]) (h.getD k 0-((c.size:Nat):Int))
def sV(h:Γ Int):Nat->Γ Δ->Γ Δ
 | _,[]=>[]
 | k,c::r=>WR h k c::sV h (k+1) r
def aJj(w:Γ Δ):Δ:=aB6 (qM w (aA #[32,32])) (aA #[32])
def u6(h:Γ Int)(r:Γ Δ):Δ:=aJj (sV h 0 r)
def bLM(x0:Γ (Γ Δ)):Prop:=x0.length<=1100000/\∀r∈x0,r.length<=12/\∀c∈r,c.size<=4000000
def aTD(x0:Γ (Γ Δ)):Prop:=sU x0=false->bLM x0
def EC(x0:Γ (Γ Δ)):Γ Δ:=if sU x0 then [] else GQ (x0.map (u6 (K9 x0)))
def JP(x0:Γ (Γ Δ)):Int:=if sU x0 then 2 else Qu (x0.map (u6 (K9 x0)))
def zN(h:Γ Int):Prop:=h.length=12/\∀c∈h,0<=c/\c<=4000000
def aB7{h:Γ Int}(hw:zN h)(k:Nat):0<=h.getD k 0/\h.getD k 0<=4000000:=by
 by_cases hk:k<h.length
 ·exact hw.2 _ (bY h k 0 hk)
 ·rw[bC,iG (by omega)];exact⟨dO _,by decide⟩
def aPG{h:Γ Int}(hw:zN h)(k:Nat){c:Δ}(hc:c.size<=4000000):zN (H7 h k c):=by
 have hg:=aB7 hw k;refine⟨by unfold H7;rw[iR];exact hw.1,λy hy=>?_⟩;unfold H7 at hy;rcases List.mem_or_eq_of_mem_set hy with hy | rfl
 ·exact hw.2 y hy
 ·split <;> omega
theorem aB8:∀(r:Γ Δ) (k:Nat) (h:Γ Int),zN h->(∀c∈r,c.size<=4000000)->zN (uD k r h)
 | [],_,_,hw,_=>hw
 | c::r,k,h,hw,hc=>aB8 r (k+1) _ (aPG hw k (hc c (aR ..))) (λd hd=>hc d (aM _ hd))
def aFH(h:Γ Int)(k:Nat)(c:Δ)(j:Nat):h.getD j 0<=(H7 h k c).getD j 0/\(k<h.length->((c.size:Nat):Int)<=(H7 h k c).getD k 0):=by
 unfold H7;constructor
 ·rw[bC,bC,D4];by_cases hjk:k=j
  ·subst hjk;by_cases hk:k<h.length
   ·rw[π rfl,π hk,bC];simp only[Option.getD_some];split <;> omega
   ·rw[π rfl,ν hk,iG (by omega)];exact dO _
  ·rw[ν hjk];exact dO _
 ·intro hk;rw[bC,D4,π rfl,π hk];simp only[Option.getD_some];split <;> omega
theorem Mx:∀(r:Γ Δ) (k:Nat) (h:Γ Int) (j:Nat),h.getD j 0<=(uD k r h).getD j 0
 | [],_,_,_=>dO _
 | c::r,k,h,j=>B7 (aFH h k c j).1 (Mx r (k+1) _ j)
theorem aAh:∀(r:Γ Δ) (k:Nat) (h:Γ Int),k+r.length<=h.length->∀j,j<r.length->(((r.getD j aC).size:Nat):Int)<=(uD k r h).getD (k+j) 0
 | [],_,_,_,j,hj=>by cases hj
 | c::r,k,h,hl,j,hj=>by
  have hk:k<h.length:=by simp at hl;omega
  cases j with
  | zero=>exact B7 ((aFH h k c k).2 hk) (Mx r (k+1) _ k)
  | succ j =>
   have:=aAh r (k+1) (H7 h k c) (by unfold H7;rw[iR];simp at hl;omega) j (by simpa using hj);rw[show k+(j+1)=k+1+j by omega];simpa [uD] using this
theorem Sj:∀(l:Γ (Γ Δ)) (h:Γ Int) (j:Nat),h.getD j 0<=(l.foldl (λh r=>uD 0 r h) h).getD j 0
 | [],_,_=>dO _
 | r::l,h,j=>B7 (Mx r 0 h j) (Sj l _ j)
theorem WS:∀(l:Γ (Γ Δ)) (h:Γ Int),zN h->(∀r∈l,r.length<=12/\∀c∈r,c.size<=4000000)->zN (l.foldl (λh r=>uD 0 r h) h)/\∀r∈l,∀j,j<r.length->(((r.getD j aC).size:Nat):Int)<=(l.foldl (λh r=>uD 0 r h) h).getD j 0
 | [],h,hw,_=>⟨hw,λr hr=>by cases hr⟩
 | q::l,h,hw,hr=>by
  obtain⟨q1,q2⟩:=hr q (aR ..);obtain⟨i1,i2⟩:=WS l (uD 0 q h) (aB8 q 0 h hw q2) (λr h=>hr r (aM _ h));refine⟨i1,λr hm j hj=>?_⟩;rcases aW.1 hm with rfl | hm
  ·have:=aAh r 0 h (by rw[hw.1];omega) j hj;rw[bX]at this;exact B7 this (Sj l _ j)
  ·exact i2 r hm j hj
def aNh{h:Γ Int}(hw:zN h){k:Nat}{c:Δ}(hc:((c.size:Nat):Int)<=h.getD k 0):(WR h k c).size<=4000000:=by
 have hg:=aB7 hw k;unfold WR Ft;rw[bD];have:(aA (Lib.repeatL (aA #[32]).data.toList (h.getD k 0-((c.size:Nat):Int)).toNat).toArray).size=(h.getD k 0-((c.size:Nat):Int)).toNat*1:=by
  show (qT _).size=_;rw[eH,Lib.repeatL_length]<;>rfl
 rw[this];omega
theorem WT:∀(w:Γ (Γ UInt8)),(∀x∈w,x.length<=4000000)->(iY [32,32] w).length<=w.length*4000002
 | [],_=>by simp[iY]
 | x::r,h=>by
  have:=WT r (λy hy=>h y (aM _ hy));have hx:=h x (aR ..);simp only[iY,dG,List.flatten_cons,aU,cL,List.length_nil]at this ⊢;omega
def aNi{w:Γ Δ}(hl:w.length<=12)(hw:∀x∈w,x.size<=4000000):Yl w (aA #[32,32])/\bAp (qM w (aA #[32,32])) (aA #[32]):=by
 refine⟨⟨by omega,?_⟩,⟨32,rfl,by decide⟩⟩;cases w with
 | nil=>exact bG _
 | cons x r =>
  have e:(aA #[32,32]).data.toList=[32,32]:=rfl;rw[e,dG,Lib.join_cons,aU];have h1:x.data.toList.length<=4000000:=hw x (aR ..);have h2:=WT (r.map λx=>x.data.toList) (λy hy=>by
   obtain⟨z,hz,rfl⟩:=dK.1 hy;exact hw z (aM _ hz))
  rw[cM]at h2;simp only[cL]at hl;omega
section
variable {x0:Γ (Γ Δ)} {ds:Γ aS}
def bAt{v45:Nat}{h0:Γ Int}{h1:Γ Δ}(hw:zN h0)(hr:(x0.getD v45 []).length<=12)(hc:∀c∈x0.getD v45 [],c.size<=4000000)(hcov:∀j,j<(x0.getD v45 []).length->((((x0.getD v45 []).getD j aC).size:Nat):Int)<=h0.getD j 0)(hv:v45<1100000)(hl:h1.length<=1100000) :
  ∀(k v51:Nat) (h2:Γ Δ),v51+k=(x0.getD v45 []).length->h2.length=v51->(∀x∈h2,x.size<=4000000)->(∃n,DS n ((v45:Int)+1) (h1++[aJj (h2++sV h0 v51 ((x0.getD v45 []).drop v51))]) x0 h0 ds)->∃n,K7 n (v51:Int) h2 x0 (v45:Int) h0 h1 ds:=by
 intro k
 induction k with
 | zero =>
  intro v51 h2 hk h2l h2s ⟨n,hn⟩;rw[xD _ v51 (by omega)]at hn;simp only[sV,cK]at hn;obtain⟨p1,p2⟩:=aNi (w:=h2) (by omega) h2s;refine⟨n+1,?_⟩;rw[K7];simp only[aI];rw[ν (by simp only[ε];omega)];exact⟨p1,p2,by omega,by rw[aK];omega,hn⟩
 | succ k ih =>
  intro v51 h2 hk h2l h2s hn;have h5:v51<(x0.getD v45 []).length:=by omega
  have hcell:=hcov v51 h5;have hg:=aB7 hw v51;rw[eD _ v51 aC h5]at hn;simp only[sV]at hn;have hsz:=aNh hw hcell;obtain⟨n,hn⟩:=ih (v51+1) (h2++[WR h0 v51 ((x0.getD v45 []).getD v51 aC)]) (by omega) (by rw[aU,h2l]<;>rfl) (λx hx=>by
   rcases cY.1 hx with hx | hx
   ·exact h2s x hx
   ·rw[dU.1 hx];exact hsz) (by rw[bZ,List.singleton_append];exact hn)
  have hsz2:((x0.getD v45 []).getD v51 aC).size+(Ft (aA #[32]) (h0.getD v51 0-((((x0.getD v45 []).getD v51 aC).size:Nat):Int))).size<=4000000:=by
   have:=hsz;unfold WR at this
   rwa [bD]at this
  have s1:(aA #[32]).size=1:=rfl;have hlen:=hw.1;refine⟨n+1,?_⟩;rw[K7];simp only[aI];rw[π (by simp only[ε];omega)];exact⟨by omega,by omega,by omega,by omega,by rw[aK];omega,⟨by omega,by rw[s1];omega⟩,by omega,by omega,by rw[aK];omega,hn⟩
theorem bAu{h0:Γ Int}(hw:zN h0)(hx:x0.length<=1100000)(hr:∀r∈x0,r.length<=12/\∀c∈r,c.size<=4000000)(hcov:∀r∈x0,∀j,j<r.length->(((r.getD j aC).size:Nat):Int)<=h0.getD j 0):∀(k v45:Nat) (h1:Γ Δ),v45+k=x0.length->h1.length=v45 ->
  ∃n,DS n (v45:Int) h1 x0 h0 [⟨.sl .str,GQ (h1++(x0.drop v45).map (u6 h0))⟩,⟨.int .i64,Qu (h1++(x0.drop v45).map (u6 h0))⟩]:=by
 intro k
 induction k with
 | zero =>
  intro v45 h1 hk hl;refine⟨1,?_⟩;rw[DS,ν (by simp only[ε];omega),xD _ v45 (by omega)];simp
 | succ k ih =>
  intro v45 h1 hk hl;have h7:v45<x0.length:=by omega
  have hm:=bY x0 v45 [] h7;obtain⟨r1,r2⟩:=hr _ hm;obtain⟨n,hn⟩:=ih (v45+1) (h1++[u6 h0 (x0.getD v45 [])]) (by omega) (by rw[aU,hl]<;>rfl);have e:h1++[u6 h0 (x0.getD v45 [])]++A5 (u6 h0) (x0.drop (v45+1))=h1++A5 (u6 h0) (x0.drop v45):=by
   rw[eD x0 v45 [] h7];simp
  have e1:(((v45+1:Nat)):Int)=(v45:Int)+1:=by omega
  rw[e,e1]at hn;obtain⟨n',hn'⟩:=bAt (h1:=h1) (v45:=v45) hw r1 r2 (hcov _ hm) (by omega) (by omega) (x0.getD v45 []).length 0 [] (by omega) rfl (λx hx=>by cases hx) ⟨n,hn⟩;refine⟨n'+1,?_⟩;rw[DS,π (by simp only[ε];omega)];exact⟨by omega,by omega,hn'⟩
def bHg{v20:Nat}(hr:(x0.getD v20 []).length<=12)(hc:∀c∈x0.getD v20 [],c.size<=4000000)(hv:v20<1100000) :
  ∀(k v26:Nat) (h0:Γ Int),v26+k=(x0.getD v20 []).length->zN h0->(∃n,Mw n ((v20:Int)+1) (uD v26 ((x0.getD v20 []).drop v26) h0) x0 ds)->∃n,Qx n (v26:Int) h0 x0 (v20:Int) ds:=by
 intro k
 induction k with
 | zero =>
  intro v26 h0 hk hw ⟨n,hn⟩;rw[xD _ v26 (by omega)]at hn;refine⟨n+1,?_⟩;rw[Qx];simp only[aI];rw[ν (by simp only[ε];omega)];exact⟨by rw[aK];omega,hn⟩
 | succ k ih =>
  intro v26 h0 hk hw hn;have h5:v26<(x0.getD v20 []).length:=by omega
  have hcell:=hc _ (bY (x0.getD v20 []) v26 aC h5);have hlen:=hw.1;rw[eD _ v26 aC h5]at hn;simp only[uD]at hn;obtain⟨n,hn⟩:=ih (v26+1) _ (by omega) (aPG hw v26 hcell) hn;refine⟨n+1,?_⟩;rw[Qx];simp only[aI];rw[π (by simp only[ε];omega)];exact⟨by omega,by omega,by omega,by omega,by omega,by omega,by rw[aK];omega,hn⟩
def bHh(hx:x0.length<=1100000)(hr:∀r∈x0,r.length<=12/\∀c∈r,c.size<=4000000):∀(k v20:Nat) (h0:Γ Int),v20+k=x0.length->zN h0->(∃n,DS n 0 [] x0 ((x0.drop v20).foldl (λh r=>uD 0 r h) h0) ds)->∃n,Mw n (v20:Int) h0 x0 ds:=by
 intro k
 induction k with
 | zero =>
  intro v20 h0 hk hw ⟨n,hn⟩;rw[xD _ v20 (by omega)]at hn;refine⟨n+1,?_⟩;rw[Mw,ν (by simp only[ε];omega)];exact hn
 | succ k ih =>
  intro v20 h0 hk hw hn;have h4:v20<x0.length:=by omega
  obtain⟨r1,r2⟩:=hr _ (bY x0 v20 [] h4);rw[eD x0 v20 [] h4,fR]at hn;obtain⟨n,hn⟩:=ih (v20+1) (uD 0 (x0.getD v20 []) h0) (by omega) (aB8 _ 0 h0 hw r2) hn;have e1:(((v20+1:Nat)):Int)=(v20:Int)+1:=by omega
  rw[e1]at hn;obtain⟨n',hn'⟩:=bHg (x0:=x0) r1 r2 (by omega) (x0.getD v20 []).length 0 h0 (by omega) hw ⟨n,hn⟩;refine⟨n'+1,?_⟩;rw[Mw,π (by simp only[ε];omega)];exact⟨by omega,by omega,hn'⟩
end
def aWv:zN [0,0,0,0,0,0,0,0,0,0,0,0]:=⟨rfl,by decide⟩
def bAv(x0:Γ (Γ Δ))(h:aTD x0):∃n,aTC n x0 [⟨.sl .str,EC x0⟩,⟨.int .i64,JP x0⟩]:=by
 unfold EC JP;by_cases hc:sU x0=true
 ·refine⟨1,?_⟩;rw[aTC,π hc,π hc,π hc]
 ·have h:=h (Dm hc);obtain⟨i1,i2⟩:=WS x0 _ aWv h.2;obtain⟨n,hn⟩:=bAu (x0:=x0) (h0:=K9 x0) i1 h.1 h.2 i2 x0.length 0 [] (by omega) rfl;obtain⟨n',hn'⟩:=bHh (x0:=x0) h.1 h.2 x0.length 0 [0,0,0,0,0,0,0,0,0,0,0,0] (by omega) aWv ⟨n,hn⟩;refine⟨n'+1,?_⟩;rw[aTC,ν hc,ν hc,ν hc];exact hn'
def bHi:KK:=mL aNg (DO aDK) aTD (EC,JP,()) (λ⟨x0,_⟩ h hwf K q =>
 let ⟨n,hn⟩:=bAv x0 h
 (bAs _ K q n).1 hn)
def bAw:jB:=D0 aDL [.v (.sl dX)] [.sl .str,.int .i64] [aMu,aK9,OS,bHi]
mutual
def aTE:Nat->Γ c7->Γ aS->Prop
 | 0,_,_=>False
 | n+1,x0,ds=>if !jG x0 then ds=[aJ (.sl .str) [],aJ (.int .i64) 1] else Qy n 0 ([[aA #[100,97,121],aA #[98,114,111,107,101,110],aA #[119,111,114,110]]]) x0 ds
def Qy:Nat->Int->Γ (Γ Δ)->Γ c7->Γ aS->Prop
 | 0,_,_,_,_=>False
 | n+1,v14,h0,x0,ds=>if decide (v14<(x0.length:Int))then 0<=v14/\v14<(x0.length:Int)/\MY (aD x0 (aE v14) (0,0,0,())).1/\Cr (aD x0 (aE v14) (0,0,0,())).2.1/\Cr (aD x0 (aE v14) (0,0,0,())).2.2.1/\(aF h0+1)*24<=140737488355328/\bA .i64 (v14+1)/\Qy n (v14+1) (h0++[[oY (aD x0 (aE v14) (0,0,0,())).1,dF (aD x0 (aE v14) (0,0,0,())).2.1,dF (aD x0 (aE v14) (0,0,0,())).2.2.1]]) x0 ds else aTD h0/\ds=[aJ (.sl .str) (EC h0),aJ (.int .i64) (JP h0)]
end
def bAx(ds:Γ aS)(K:gU)(q:Nat->Value):∀n,(∀ {x0},aTE n x0 ds->St bAw (x0,()) ds [] K q)/\(∀ {v14 h0 x0},Qy n v14 h0 x0 ds->Cu bAw 5 ([eW 4 0,eL 12 dX x0,eI 13 (x0.length:Int),eI 14 v14],[some (iJ.mk (.sl .str) h0 true none none)]) ds [] K q):=nI ⟨aH,aH⟩ λn ⟨i,i5⟩=>⟨bS<|bU dR<|cX i5,
  bU (eE<|aO<|aO<|aO<|aO<|aO<|cX i5)<|aO dR⟩
def WU:Γ Δ:=[aA #[100,97,121],aA #[98,114,111,107,101,110],aA #[119,111,114,110]]
def DT(f:c7):Γ Δ:=[oY f.1,dF f.2.1,dF f.2.2.1]
def aNj(x0:Γ c7):Prop:=jG x0=true->x0.length<=1000/\∀f∈x0,MY f.1/\Cr f.2.1/\Cr f.2.2.1/\∀c∈DT f,c.size<=4000000
def Al(x0:Γ c7):Γ Δ:=if jG x0 then EC (WU::x0.map DT)else []
def JQ(x0:Γ c7):Int:=if jG x0 then JP (WU::x0.map DT)else 1
def bAy{x0:Γ c7}(hl:x0.length<=1000)(hc:∀f∈x0,∀c∈DT f,c.size<=4000000):aTD (WU::x0.map DT):=by
 refine λ_=>⟨by grind,λr hr=>?_⟩;rcases aW.1 hr with rfl | hr
 ·exact⟨by decide,by decide⟩
 ·obtain⟨f,hf,rfl⟩:=dK.1 hr;exact⟨by show 3<=12;lia,hc f hf⟩
def bAz(x0:Γ c7)(hl:x0.length<=1000)(hc:∀f∈x0,MY f.1/\Cr f.2.1/\Cr f.2.2.1/\∀c∈DT f,c.size<=4000000):∀(k i:Nat),i+k=x0.length ->
  Qy (k+1) (i:Int) (WU::(x0.take i).map DT) x0 [⟨.sl .str,EC (WU::x0.map DT)⟩,⟨.int .i64,JP (WU::x0.map DT)⟩]:=by
 intro k
 induction k with
 | zero =>
  intro i hi;rw[Qy,ν (by lia),cW (by lia)];exact⟨bAy hl (λf hf=>(hc f hf).2.2.2),rfl⟩
 | succ k ih =>
  intro i hi;have hlt:i<x0.length:=by lia
  have h:=ih (i+1) (by lia);have hm:=bY x0 i ((0:Int),(0:Int),(0:Int),()) hlt;rw[Qy,π (by lia)];refine⟨by lia,by lia,(hc _ hm).1,(hc _ hm).2.1,(hc _ hm).2.2.1,?_,by grind [aK],?_⟩
  ·grind
  ·have e:x0.take (i+1)=x0.take i++[x0.getD i ((0:Int),(0:Int),(0:Int),())]:=by
    simp_all
   rw[e,List.map_append]at h;exact h
def bA0(x0:Γ c7)(h:aNj x0):∃n,aTE n x0 [⟨.sl .str,Al x0⟩,⟨.int .i64,JQ x0⟩]:=by
 unfold Al JQ;cases hv:jG x0 with
 | false =>
  refine⟨1,?_⟩;rw[aTE,π (by rw[hv];rfl)];rfl
 | true =>
  obtain⟨hl,hc⟩:=h hv;refine⟨x0.length+1+1,?_⟩;rw[aTE,ν (by rw[hv];simp)];simp only[if_true];exact bAz x0 hl hc x0.length 0 (by omega)
def bHj:KK:=mL bAw (DO aDL) aNj (Al,JQ,()) (λ⟨x0,_⟩ h hwf K q =>
 let ⟨n,hn⟩:=bA0 x0 h
 (bAx _ K q n).1 hn)
def WV(x0:Γ eR):Int:=(x0.length:Int)
def bHk:KK:=mB Tryz.func303 [.v (.sl fQ)] [.int .i64] [] nP (WV,()) λ_=>pr
end
end Go.Proofs.YtgfpjekjhnkbfaaGreatDoor
set_option maxRecDepth 100000
namespace Go.Proofs.YtgfpjekjhnkbfaaGreatDoor
open Go Go.Am Go.Proofs
noncomputable section
def WW(x0:Γ c7):Int:=(x0.length:Int)
def bHl:KK:=mB Tryz.func304 [.v (.sl dX)] [.int .i64] [] nP (WW,()) λ_=>pr
def WX(x0:Γ c7):Int:=(x0.length:Int)
def bHm:KK:=mB Tryz.func305 [.v (.sl dX)] [.int .i64] [] nP (WX,()) λ_=>pr
def WY(x0:Γ b6):Int:=(x0.length:Int)
def bHn:KK:=mB Tryz.func306 [.v (.sl eC)] [.int .i64] [] nP (WY,()) λ_=>pr
def WZ(x0:Γ eR):Int:=(x0.length:Int)
def bHo:KK:=mB Tryz.func307 [.v (.sl fQ)] [.int .i64] [] nP (WZ,()) λ_=>pr
def W0(x0:Γ c7):Int:=(x0.length:Int)
def bHp:KK:=mB Tryz.func308 [.v (.sl dX)] [.int .i64] [] nP (W0,()) λ_=>pr
def W2(x0:Γ b6):Int:=(x0.length:Int)
def bHq:KK:=mB Tryz.func309 [.v (.sl eC)] [.int .i64] [] nP (W2,()) λ_=>pr
def W3(x0:Γ b6):Int:=(x0.length:Int)
def bHr:KK:=mB Tryz.func310 [.v (.sl eC)] [.int .i64] [] nP (W3,()) λ_=>pr
def bA1:jB:=D0 aDM [.v iU] [.sl .str,.int .i64] [bEg,bHk,bHl,bHm,bHn,bHo,bHp,bHq,bHr,OS]
mutual
def aTF:Nat->bV->Γ aS->Prop
 | 0,_,_=>False
 | n+1,x0,ds=>if !Bz x0 then ds=[aJ (.sl .str) [],aJ (.int .i64) 1] else Qz n 0 ([]) x0 ds
def Qz:Nat->Int->Γ Δ->bV->Γ aS->Prop
 | 0,_,_,_,_=>False
 | n+1,v43,h1,x0,ds=>if decide (v43<9)then 0<=v43/\v43<9/\aG (aD [aA #[98,101,110,100,115],aA #[104,111,117,114,115],aA #[108,105,109,105,116,115],aA #[119,111,114,107,101,114,115],aA #[108,105,116,114,101,115],aA #[102,97,114,101,115],aA #[116,101,115,116,115],aA #[104,101,108,112,101,114,115],aA #[116,97,115,107,115]] (aE v43) aC)+1<=9223372036854775807/\0<=v43/\v43<(↑9:Int)/\Cr (aD [WV x0.1,WW x0.2.2.1,WX x0.2.2.2.1,WY x0.2.2.2.2.2.2.1,x0.2.2.2.2.2.2.2.1.2.2.1,WZ x0.2.2.2.2.2.2.2.2.1,W0 x0.2.2.2.2.2.2.2.2.2.1,W2 x0.2.2.2.2.2.2.2.2.2.2.1,W3 x0.2.2.2.2.2.2.2.2.2.2.2.1] (aE v43) 0)/\aG (aD [aA #[98,101,110,100,115],aA #[104,111,117,114,115],aA #[108,105,109,105,116,115],aA #[119,111,114,107,101,114,115],aA #[108,105,116,114,101,115],aA #[102,97,114,101,115],aA #[116,101,115,116,115],aA #[104,101,108,112,101,114,115],aA #[116,97,115,107,115]] (aE v43) aC++aA #[32])+aG (dF (aD [WV x0.1,WW x0.2.2.1,WX x0.2.2.2.1,WY x0.2.2.2.2.2.2.1,x0.2.2.2.2.2.2.2.1.2.2.1,WZ x0.2.2.2.2.2.2.2.2.1,W0 x0.2.2.2.2.2.2.2.2.2.1,W2 x0.2.2.2.2.2.2.2.2.2.2.1,W3 x0.2.2.2.2.2.2.2.2.2.2.2.1] (aE v43) 0))<=9223372036854775807/\(aF h1+1)*16<=140737488355328/\bA .i64 (v43+1)/\Qz n (v43+1) (h1++[aD [aA #[98,101,110,100,115],aA #[104,111,117,114,115],aA #[108,105,109,105,116,115],aA #[119,111,114,107,101,114,115],aA #[108,105,116,114,101,115],aA #[102,97,114,101,115],aA #[116,101,115,116,115],aA #[104,101,108,112,101,114,115],aA #[116,97,115,107,115]] (aE v43) aC++aA #[32]++dF (aD [WV x0.1,WW x0.2.2.1,WX x0.2.2.2.1,WY x0.2.2.2.2.2.2.1,x0.2.2.2.2.2.2.2.1.2.2.1,WZ x0.2.2.2.2.2.2.2.2.1,W0 x0.2.2.2.2.2.2.2.2.2.1,W2 x0.2.2.2.2.2.2.2.2.2.2.1,W3 x0.2.2.2.2.2.2.2.2.2.2.2.1] (aE v43) 0)]) x0 ds else ds=[aJ (.sl .str) h1,aJ (.int .i64) 0]
end
def bA2(ds:Γ aS)(K:gU)(q:Nat->Value):∀n,(∀ {x0},aTF n x0 ds->St bA1 (x0,()) ds [] K q)/\(∀ {v43 h1 x0},Qz n v43 h1 x0 ds->Cu bA1 7 ([eW 5 0,eW 6 1,eW 41 2,eI 42 9,eI 43 v43],[cN (.int .i64) [WV x0.1,WW x0.2.2.1,WX x0.2.2.2.1,WY x0.2.2.2.2.2.2.1,x0.2.2.2.2.2.2.2.1.2.2.1,WZ x0.2.2.2.2.2.2.2.2.1,W0 x0.2.2.2.2.2.2.2.2.2.1,W2 x0.2.2.2.2.2.2.2.2.2.2.1,W3 x0.2.2.2.2.2.2.2.2.2.2.2.1],cN .str h1,cN .str [aA #[98,101,110,100,115],aA #[104,111,117,114,115],aA #[108,105,109,105,116,115],aA #[119,111,114,107,101,114,115],aA #[108,105,116,114,101,115],aA #[102,97,114,101,115],aA #[116,101,115,116,115],aA #[104,101,108,112,101,114,115],aA #[116,97,115,107,115]]]) ds [] K q):=nI ⟨aH,aH⟩ λn ⟨i,i7⟩=>⟨bS<|bU dR<|bS<|bS<|bS<|bS<|bS<|bS<|bS<|bS<|Dl [(6,.str)] i7,
  bU (eE<|aO<|eE<|aO<|aO<|aO<|aO<|Dl [(6,.str)] i7) dR⟩
def RA:Γ Δ:=[aA #[98,101,110,100,115],aA #[104,111,117,114,115],aA #[108,105,109,105,116,115],aA #[119,111,114,107,101,114,115],aA #[108,105,116,114,101,115],aA #[102,97,114,101,115],aA #[116,101,115,116,115],aA #[104,101,108,112,101,114,115],aA #[116,97,115,107,115]]
def Oa(x0:bV):Γ Int:=[((x0.1.length:Nat):Int),((x0.2.2.1.length:Nat):Int),((x0.2.2.2.1.length:Nat):Int),((x0.2.2.2.2.2.2.1.length:Nat):Int),x0.2.2.2.2.2.2.2.1.2.2.1,((x0.2.2.2.2.2.2.2.2.1.length:Nat):Int),((x0.2.2.2.2.2.2.2.2.2.1.length:Nat):Int),((x0.2.2.2.2.2.2.2.2.2.2.1.length:Nat):Int),((x0.2.2.2.2.2.2.2.2.2.2.2.1.length:Nat):Int)]
def Ob(w:Δ)(n:Int):Δ:=w++aA #[32]++dF n
def zO(x0:bV):Γ Δ:=if Bz x0 then tS Ob RA (Oa x0)else []
def JR(x0:bV):Int:=if Bz x0 then 0 else 1
def bHs(x0:bV)(hw:Wf iU x0):∀n∈Oa x0, -9223372036854775808<=n/\n<=9223372036854775807:=by
 have hmx:maxLen<=9223372036854775807:=by decide
 have a0:x0.1.length<=maxLen:=hw.1.1;have a2:x0.2.2.1.length<=maxLen:=hw.2.2.1.1;have a3:x0.2.2.2.1.length<=maxLen:=hw.2.2.2.1.1;have a6:x0.2.2.2.2.2.2.1.length<=maxLen:=hw.2.2.2.2.2.2.1.1;have a8:x0.2.2.2.2.2.2.2.2.1.length<=maxLen:=hw.2.2.2.2.2.2.2.2.1.1;have a9:x0.2.2.2.2.2.2.2.2.2.1.length<=maxLen:=hw.2.2.2.2.2.2.2.2.2.1.1;have aa:x0.2.2.2.2.2.2.2.2.2.2.1.length<=maxLen:=hw.2.2.2.2.2.2.2.2.2.2.1.1;have ab:x0.2.2.2.2.2.2.2.2.2.2.2.1.length<=maxLen:=hw.2.2.2.2.2.2.2.2.2.2.2.1.1;have a7:bA .i64 x0.2.2.2.2.2.2.2.1.2.2.1:=hw.2.2.2.2.2.2.2.1.2.2.1;rw[aK]at a7;intro n hn;unfold Oa at hn;simp only[aW,dH,or_false]at hn;rcases hn with rfl | rfl | rfl | rfl | rfl | rfl | rfl | rfl | rfl <;> omega
def aWw:∀w∈RA,w.size<=7:=by
 intro w hw;unfold RA at hw;simp only[aW,dH,or_false]at hw;rcases hw with rfl | rfl | rfl | rfl | rfl | rfl | rfl | rfl | rfl <;> decide
def bA3(x0:bV)(hn:∀n∈Oa x0, -9223372036854775808<=n/\n<=9223372036854775807):∀(k i:Nat) (h:Γ Δ),i+k=9->h.length=i ->
  Qz (k+1) (i:Int) h x0 [⟨.sl .str,h++tS Ob (RA.drop i) ((Oa x0).drop i)⟩,⟨.int .i64,0⟩]:=by
 intro k
 induction k with
 | zero =>
  intro i h hi hl;obtain rfl:i=9:=by omega
  rw[Qz,ν (by decide)];have e:tS Ob (RA.drop 9) ((Oa x0).drop 9)=[]:=rfl;rw[e,cK]
 | succ k ih =>
  intro i h hi hl;have lW:RA.length=9:=rfl;have lN:(Oa x0).length=9:=rfl;have mw:=aWw _ (bY RA i aC (by omega));have mn:=hn _ (bY (Oa x0) i 0 (by omega));have hz:=wC _ mn.1 mn.2;have hnext:=ih (i+1) (h++[Ob (RA.getD i aC) ((Oa x0).getD i 0)]) (by omega) (by rw[aU,hl];rfl);have e1:(((i+1:Nat)):Int)=(i:Int)+1:=by omega
  rw[e1]at hnext;rw[eD RA i aC (by omega),eD (Oa x0) i 0 (by omega),List.zipWith_cons_cons];rw[bZ]at hnext;rw[Qz,π (by simp only[ε];omega)];have s1:(aA #[32]).size=1:=rfl;have hws:(RA.getD i aC).size+1<=9223372036854775807:=by omega
  have hsum:(RA.getD i aC++aA #[32]).size+(l5 ((Oa x0).getD i 0)).size<=9223372036854775807:=by
   rw[bD,s1];omega
  simp only[aI];exact⟨by omega,by omega,hws,by omega,by omega,⟨rfl,trivial⟩,hsum,by omega,by rw[aK];omega,hnext⟩
def bA4(x0:bV)(hw:Wf iU x0):∃n,aTF n x0 [⟨.sl .str,zO x0⟩,⟨.int .i64,JR x0⟩]:=by
 unfold zO JR;cases hv:Bz x0 with
 | false =>
  refine⟨1,?_⟩;rw[aTF,π (by rw[hv];rfl)];rfl
 | true =>
  refine⟨9+1+1,?_⟩;rw[aTF,ν (by rw[hv];simp)];exact bA3 x0 (bHs x0 hw) 9 0 [] (by omega) rfl
def bHt:KK:=mL bA1 (DO aDM) nP (zO,JR,()) (λ⟨x0,_⟩ h hwf K q =>
 let ⟨n,hn⟩:=bA4 x0 hwf.1
 (bA2 _ K q n).1 hn)
def P79(x0:bV)(x1:Δ×Δ×Γ Int×Γ Int×Unit):Prop:=if aB x1.1==aB (aA #[115,108,111,119,101,115,116])then aIU x0 x1/\Cr (sO x0 x1)/\True else if aB x1.1==aB (aA #[114,101,115,101,114,118,101])then aIU x0 x1/\Cr (sO x0 x1)/\True else if aB x1.1==aB (aA #[112,111,119,101,114])then aIU x0 x1/\Cr (sO x0 x1)/\True else if aB x1.1==aB (aA #[118,111,116,101])then aIU x0 x1/\Cr (sO x0 x1)/\True else if aB x1.1==aB (aA #[119,97,116,101,114])then aIU x0 x1/\Cr (sO x0 x1)/\True else if aB x1.1==aB (aA #[114,117,110,110,105,110,103])then aMS x0 x1/\True else if aB x1.1==aB (aA #[99,111,118,101,114])then aMS x0 x1/\True else if aB x1.1==aB (aA #[113,117,101,117,101])then aMS x0 x1/\True else if aB x1.1==aB (aA #[102,105,108,108])then aMS x0 x1/\True else if aB x1.1==aB (aA #[116,114,105,112,115])then aT5 x0.2.2.2.2.2.2.2.2.1 x1.2.2.2.1/\True else if aB x1.1==aB (aA #[100,117,101])then 0<(x1.2.2.1.length:Int)/\1<(x1.2.2.1.length:Int)/\aTB x0.2.2.2.2.2.2.2.2.2.1 (aD x1.2.2.1 0 0) (aD x1.2.2.1 1 0)/\MY (JO x0.2.2.2.2.2.2.2.2.2.1 (aD x1.2.2.1 0 0) (aD x1.2.2.1 1 0))/\True else if aB x1.1==aB (aA #[114,101,112,111,114,116])then aNj x0.2.2.2.2.2.2.2.2.2.1/\True else True
def AN(x0:bV)(x1:Δ×Δ×Γ Int×Γ Int×Unit):Γ Δ:=if aB x1.1==aB (aA #[115,108,111,119,101,115,116])then [dF (sO x0 x1)] else if aB x1.1==aB (aA #[114,101,115,101,114,118,101])then [dF (sO x0 x1)] else if aB x1.1==aB (aA #[112,111,119,101,114])then [dF (sO x0 x1)] else if aB x1.1==aB (aA #[118,111,116,101])then [dF (sO x0 x1)] else if aB x1.1==aB (aA #[119,97,116,101,114])then [dF (sO x0 x1)] else if aB x1.1==aB (aA #[114,117,110,110,105,110,103])then [iF (EA x0 x1)] else if aB x1.1==aB (aA #[99,111,118,101,114])then [iF (EA x0 x1)] else if aB x1.1==aB (aA #[113,117,101,117,101])then [iF (EA x0 x1)] else if aB x1.1==aB (aA #[102,105,108,108])then [iF (EA x0 x1)] else if aB x1.1==aB (aA #[116,114,105,112,115])then Aj x0.2.2.2.2.2.2.2.2.1 x1.2.2.2.1 else if aB x1.1==aB (aA #[100,117,101])then [oY (JO x0.2.2.2.2.2.2.2.2.2.1 (aD x1.2.2.1 0 0) (aD x1.2.2.1 1 0))] else if aB x1.1==aB (aA #[114,101,112,111,114,116])then Al x0.2.2.2.2.2.2.2.2.2.1 else if aB x1.1==aB (aA #[115,104,111,119])then zO x0 else Es
def BC(x0:bV)(x1:Δ×Δ×Γ Int×Γ Int×Unit):Int:=if aB x1.1==aB (aA #[115,108,111,119,101,115,116])then CJ x0 x1 else if aB x1.1==aB (aA #[114,101,115,101,114,118,101])then CJ x0 x1 else if aB x1.1==aB (aA #[112,111,119,101,114])then CJ x0 x1 else if aB x1.1==aB (aA #[118,111,116,101])then CJ x0 x1 else if aB x1.1==aB (aA #[119,97,116,101,114])then CJ x0 x1 else if aB x1.1==aB (aA #[114,117,110,110,105,110,103])then GL x0 x1 else if aB x1.1==aB (aA #[99,111,118,101,114])then GL x0 x1 else if aB x1.1==aB (aA #[113,117,101,117,101])then GL x0 x1 else if aB x1.1==aB (aA #[102,105,108,108])then GL x0 x1 else if aB x1.1==aB (aA #[116,114,105,112,115])then JM x0.2.2.2.2.2.2.2.2.1 x1.2.2.2.1 else if aB x1.1==aB (aA #[100,117,101])then Qr x0.2.2.2.2.2.2.2.2.2.1 (aD x1.2.2.1 0 0) (aD x1.2.2.1 1 0)else if aB x1.1==aB (aA #[114,101,112,111,114,116])then JQ x0.2.2.2.2.2.2.2.2.2.1 else if aB x1.1==aB (aA #[115,104,111,119])then JR x0 else 0
def bLO:KK:=mB Tryz.func79 [.p iU,.v K4] [.sl .str,.int .i64] [bGv,OS,bGM,aFw,bGU,bGZ,aK9,bHj,bHt,bEi] P79 (AN,BC,()) λ_=>dP (aO<|aO pr)<|dP (aO<|aO pr)<|dP (aO<|aO pr)<|dP (aO<|aO pr)<|dP (aO<|aO pr)<|dP (aO<|bS pr)<|dP (aO<|bS pr)<|dP (aO<|bS pr)<|dP (aO<|bS pr)<|dP (aO pr)<|dP (pq 0<|aO<|pq 1<|aO<|aO<|aO pr)<|dP (aO pr)<|vD (bS pr)<|bS pr
def P21(x0:bV)(x1:Δ×Δ×Γ Int×Γ Int×Unit):Prop:=if aB (dZ x1.1)==aB (aA #[116])then P77 x0 x1/\True else if aB x1.1==aB (aA #[101,118,101,110,116])then P78 x0 x1/\True else if aB x1.1==aB (aA #[108,105,109,105,116])then P78 x0 x1/\True else P79 x0 x1/\True
def fS(x0:bV)(x1:Δ×Δ×Γ Int×Γ Int×Unit):Γ Δ:=if aB (dZ x1.1)==aB (aA #[116])then [aA #[111,107]] else if aB x1.1==aB (aA #[101,118,101,110,116])then Sa x0 x1 else if aB x1.1==aB (aA #[108,105,109,105,116])then Sa x0 x1 else AN x0 x1
def gA(x0:bV)(x1:Δ×Δ×Γ Int×Γ Int×Unit):Int:=if aB (dZ x1.1)==aB (aA #[116])then DJ x0 x1 else if aB x1.1==aB (aA #[101,118,101,110,116])then Sb x0 x1 else if aB x1.1==aB (aA #[108,105,109,105,116])then Sb x0 x1 else BC x0 x1
def gS(x0:bV)(x1:Δ×Δ×Γ Int×Γ Int×Unit):Bool:=if aB (dZ x1.1)==aB (aA #[116])then DI x0 x1 else if aB x1.1==aB (aA #[101,118,101,110,116])then true else if aB x1.1==aB (aA #[108,105,109,105,116])then true else true
def gV(x0:bV)(x1:Δ×Δ×Γ Int×Γ Int×Unit):bV:=if aB (dZ x1.1)==aB (aA #[116])then DK x0 x1 else if aB x1.1==aB (aA #[101,118,101,110,116])then Sc x0 x1 else if aB x1.1==aB (aA #[108,105,109,105,116])then Sc x0 x1 else x0
def bLQ:KK:=mV Tryz.func21 [.po iU,.v K4] [.sl .str,.int .i64,.bool] [bEh,bLI,bLK,bLO] P21 (λx=>[some ⟨.cons (.sl fQ) YA1,[gV x.1 x.2.1]⟩]) (fS,gA,gS,()) λ_=>bS<|aOS (aO pr)<|aOS (j0<|aO pr)<|aOS (aO pr)<|aO pr
def P22(x0:Int):Prop:=if decide (x0<0)then True else if decide (x0>=12)then True else 0<=x0/\x0<12/\True
def Sk(x0:Int):Δ:=if decide (x0<0)then aA #[] else if decide (x0>=12)then aA #[] else aD [aA #[111,107],aA #[105,110,118,97,108,105,100],aA #[114,97,110,103,101],aA #[110,111,116,45,102,111,117,110,100],aA #[101,120,105,115,116,115],aA #[102,117,108,108],aA #[115,116,97,116,101],aA #[111,114,100,101,114],aA #[115,121,110,116,97,120],aA #[102,111,114,109,97,116],aA #[99,104,101,99,107,115,117,109],aA #[116,114,117,110,99,97,116,101,100]] (aE x0) aC
def bLR:KK:=mB Tryz.func22 [.v (.int .i64)] [.str] [] P22 (Sk,()) λ_=>tH (j0 pr)<|tH pr<|eE pr
def P11(x0:bV)(x1:Δ):Prop:=if !Bz x0 then True else P67 x1/\if !CB x1 then True else P20 x0/\P21 (jO x0) (iE x1)/\if !gS (jO x0) (iE x1)then True else if gA (jO x0) (iE x1) != 0 then P20 x0/\P22 (gA (jO x0) (iE x1))/\6+aG (Sk (gA (jO x0) (iE x1)))<=9223372036854775807/\True else if(↑(aF (fS (jO x0) (iE x1))):Int)==0 then True else if(↑(aF (fS (jO x0) (iE x1))):Int)==1 then 0<(↑(aF (fS (jO x0) (iE x1))):Int)/\True else True
def LO(x0:bV)(x1:Δ):bV:=if !Bz x0 then([],(0,0,0,0,()),[],[],(0,0,0,()),(0,0,0,()),[],(0,0,0,0,()),[],[],[],[],())else if !CB x1 then([],(0,0,0,0,()),[],[],(0,0,0,()),(0,0,0,()),[],(0,0,0,0,()),[],[],[],[],())else if !gS (jO x0) (iE x1)then([],(0,0,0,0,()),[],[],(0,0,0,()),(0,0,0,()),[],(0,0,0,0,()),[],[],[],[],())else if gA (jO x0) (iE x1) != 0 then jO x0 else if(↑(aF (fS (jO x0) (iE x1))):Int)==0 then gV (jO x0) (iE x1)else if(↑(aF (fS (jO x0) (iE x1))):Int)==1 then(if aB (aD (fS (jO x0) (iE x1)) 0 aC)==aB (aA #[])then gV (jO x0) (iE x1)else gV (jO x0) (iE x1))else gV (jO x0) (iE x1)
def CN(x0:bV)(x1:Δ):Γ Δ:=if !Bz x0 then [] else if !CB x1 then [] else if !gS (jO x0) (iE x1)then [] else if gA (jO x0) (iE x1) != 0 then [aA #[101,114,114,111,114,32]++Sk (gA (jO x0) (iE x1))] else if(↑(aF (fS (jO x0) (iE x1))):Int)==0 then [aA #[110,111,110,101]] else if(↑(aF (fS (jO x0) (iE x1))):Int)==1 then(if aB (aD (fS (jO x0) (iE x1)) 0 aC)==aB (aA #[])then [aA #[110,111,110,101]] else fS (jO x0) (iE x1))else fS (jO x0) (iE x1)
def JS(x0:bV)(x1:Δ):Int:=if !Bz x0 then 1 else if !CB x1 then 8 else if !gS (jO x0) (iE x1)then 8 else if gA (jO x0) (iE x1) != 0 then 0 else if(↑(aF (fS (jO x0) (iE x1))):Int)==0 then 0 else if(↑(aF (fS (jO x0) (iE x1))):Int)==1 then(if aB (aD (fS (jO x0) (iE x1)) 0 aC)==aB (aA #[])then 0 else 0)else 0
def bLS:KK:=mA (D aHn [.v iU,.v (.str)] [.cons (.sl fQ) YA1,.sl .str,.int .i64] [.frz,.own,.own] [bEg,bL2,bLB,bLQ,bLR] false []) (DO aHn) P11 (LO,CN,JS,()) λ_=>bS<|aBk pr<|aO<|aBk pr<|aO<|aO<|aBk pr<|aBk (aO<|aO<|aO pr)<|aBk (j0 pr)<|aBk (pq 0<|aO<|pe3 pr pr)<|dN pr
end
end Go.Proofs.YtgfpjekjhnkbfaaGreatDoor
set_option maxRecDepth 100000
namespace Go.Proofs.YtgfpjekjhnkbfaaGreatDoor
open Go Go.Am Go.Proofs Go.RowKit
structure Sl (X:Γ Nat) (w:World) (Y:Γ Nat) (w':World):Prop where
 kept:cQ X w w'
 new:∀x∈Y,x∈X\/w.heap.size<=x
theorem Sl.trans{X Y Z:Γ Nat}{a b c:World}(h:Sl X a Y b)(k:Sl Y b Z c):Sl X a Z c where
 kept:=⟨k.kept.os.trans h.kept.os,k.kept.tape.trans h.kept.tape,k.kept.output.trans h.kept.output,dV h.kept.size k.kept.size,λi hi hx=>(k.kept.block i (cZ hi h.kept.size) (λhy=>(h.new i hy).elim hx (λh'=>by lia))).trans (h.kept.block i hi hx)⟩
 new:=λx hx=>(k.new x hx).elim (λhy=>h.new x hy) (λhy => .inr (dV h.kept.size hy))
theorem Sl.good{X Y:Γ Nat}{a b:World}(h:Sl X a Y b)(i:Nat)(hi:fW a X i):fW b Y i:=⟨cZ hi.1 h.kept.size,λhy=>(h.new i hy).elim hi.2 (λh'=>by have:=hi.1;lia)⟩
theorem Sl.same{X Y:Γ Nat}{a b:World}(h:Sl X a Y b)(i:Nat)(hi:fW a X i):b.heap[i]? = a.heap[i]? := h.kept.block i hi.1 hi.2
theorem Sl.keep{X Y:Γ Nat}{a b:World}(h:Sl X a Y b){t:Ty}{x:t.den}{cs:Γ Value}(hr:eK a (fW a X) t x cs):eK b (fW b Y) t x cs:=hr.keep h.good h.same
theorem Sl.cons{X Y:Γ Nat}{a b:World}(h:Sl X a Y b)(d:Nat):Sl (d::X) a (d::Y) b:=⟨h.kept.mono λi hi=>aM _ hi,λx hx=>by
 rcases aW.1 hx with rfl | hx
 ·simp
 ·exact(h.new x hx).imp (aM _) id⟩
def Bld(b:Nat)(bs:Γ Value)(X:Γ Nat)(w:World):Prop:=x7 54 5 b b bs w/\b∈X/\(∀x∈X,x<w.heap.size)/\∀v g,w.cell? ⟨b,1,none⟩=some v->v.ownBlock=some g->g∈X
def chk(b:Nat)(bs:Γ Value)(w:World)(h:x7 54 5 b b bs w) :
  Calls aL 23 #[.pointer (some ⟨b,0,none⟩)] w λe w'=>e = .returned (.tuple #[])/\KM 54 5 b b (.pointer (some ⟨b,0,none⟩)) bs w'/\cQ [b] w w'/\w'.cell? ⟨b,1,none⟩=w.cell? ⟨b,1,none⟩:=by
 rcases h with h | h
 ·refine(aMo b w h.cell0 h.shape h.frozen0).mono ?_;rintro e w' ⟨rfl,rfl⟩;exact⟨rfl,h.used _,⟨rfl,rfl,rfl,by simp[uW],λk hk hx=>Below.heap_setCell _ _ _ _ (λe=>hx (by simp[e]))⟩,World.cell?_setCell_other _ _ _ _ (by simp)⟩
 ·refine(aOU b w h.cell0).mono ?_;rintro e w' ⟨rfl,rfl⟩;exact⟨rfl,h,dD _ _,rfl⟩
def aTG{P:Program}(w:World)(base:Nat)(t u ty e:TypeId)(i:TypeInfo)(ht:P.underlying t=some (.slice e))(hu:P.underlying u=some .string)(hi:P.info? e=some i)(hz:i.zero=some (.int .u8 0))
  (hsize:i.size=1) (hby:i.bytes=1) (v:Value) (n:Nat) (xs:Γ Value) (hown:w.ownsRowF base e 1 v n xs) (s:Δ)
  (h63:n+s.size<=maxLen) (hbytes:n+s.size<=140737488355328) (hbase:base<=w.heap.size) :
  ∃v' w',(gN #[t,u] ty #[v,.string s]).run P w = .ok v' w'/\w'.ownsRowF base e 1 v' (n+s.size) (xs++gM s)/\w.grownBy w' v.ownBlock/\∀g,v'.ownBlock=some g->v.ownBlock=some g\/w.heap.size<=g:=by
 rcases hown.2 with ⟨rfl,rfl⟩ | ⟨g,cap,cur,fz,rfl,hbg,hg,hfz,hnc,hcm,hcs,htake⟩
 ·obtain⟨v',w',h1,h2,h3,h4⟩:=Lib.run_append_own_string (P:=P) w w.heap.size t u ty e i ht hu hi hz hsize hby (.slice none 0 0) 0 xs ⟨hown.1,.inl ⟨rfl,rfl⟩⟩ s h63 hbytes (aT _);have h2':=World.ownsRowF_of h2;refine⟨v',w',h1,⟨h2'.1,?_⟩,h3,λg hg => .inr (h2'.lt g hg).1⟩;rcases h2'.2 with q | ⟨g,cap,cur,fz,e1,e2,e3⟩
  ·lia
  ·exact .inr ⟨g,cap,cur,fz,e1,dV hbase e2,e3⟩
 ·have hxl:xs.length=n:=by grind
  have hlen:(xs++gM s).length=(n+s.size)*1:=by rw[aU,hxl,uI,Jv]
  by_cases hroom:n+s.size<=cap
  ·have hr:=Lib.run_append_room_stringF (P:=P) w t u ty e i ht hu hi hsize g n cap cur fz hg (by lia) s hroom (by lia);refine⟨_,_,hr,⟨hlen,.inr ⟨g,cap,_,fz,rfl,hbg,setRow_heap w g cur _ e _ hg,by lia,hroom,hcm,?_,?_⟩⟩,⟨rfl,rfl,rfl,by simp,λk _ hk=>setRow_other w g k _ (λe=>hk (by grind [KI]))⟩,λk hk => .inl hk⟩
   all_goals grind
  ·have holds:∀j u,xs[j]? = some u->w.cell? ((⟨g,0,none⟩:Addr).add j)=some u:=hown.cells (g:=g) rfl;have hr:=Lib.run_append_grow_string (P:=P) w t u ty e i (.int .u8 0) ht hu hi hz ⟨g,0,none⟩ n cap xs (by lia) holds s (by lia) (by lia) (by exact growslice_fits (by lia) (by lia));have hge:=grownCap_ge w (n+s.size) cap e;have hcm2:grownCap w (n+s.size) cap e<=maxLen:=grownCap_le_maxLen w (n+s.size) cap e h63;refine⟨_,_,hr,⟨hlen,.inr ⟨w.heap.size,_,_,(0,0),rfl,hbase,heap_alloc_new w.drew _,bG _,hge,hcm2,?_,?_⟩⟩,⟨rfl,rfl,rfl,by simp,λk hk _=>by first | exact heap_alloc_old w.drew _ k hk | exact heap_alloc_old w.drew _ hk⟩,λk hk => .inr ?_⟩
   ·have hz1:(Value.int .u8 0).cells.size=1:=rfl
    grind [size_zeroCells]
   all_goals grind [KI]
variable {w:World} {Q:Exit->Act->World->Prop}
def aJk{P:Program}{ops:Array Oper}{rest:Γ Oper}{o:Oper}{a:Act}(hgd:o.guard=none)(sl x:Operand)(t u:TypeId)
  (ho:o.op = .call { callee := .builtin .append,args := #[sl,x],argTypes := #[t,u] })
  (base:Nat) (e:TypeId) (i:TypeInfo) (ht:P.underlying t=some (.slice e)) (hu:P.underlying u=some .string) (hi:P.info? e=some i) (hz:i.zero=some (.int .u8 0))
  (hsize:i.size=1) (hby:i.bytes=1)
  (v:Value) (n:Nat) (xs:Γ Value) (hs:a.eval sl=v) (hown:w.ownsRowF base e 1 v n xs) (s:Δ) (hx:a.eval x = .string s)
  (h63:n+s.size<=maxLen) (hbytes:n+s.size<=140737488355328) (hbase:base<=w.heap.size)
  (h:∀v' w',w'.ownsRowF base e 1 v' (n+s.size) (xs++gM s)->w.grownBy w' v.ownBlock->(∀g,v'.ownBlock=some g->v.ownBlock=some g\/w.heap.size<=g)->wpList P ops Q rest (a.put o.dst v') w'):wpList P ops Q (o::rest) a w:=by
 refine wpList_plain hgd λK hK=>?_;obtain⟨v',w',hr,h2,h3,h4⟩:=aTG (P:=P) w base t u o.type e i ht hu hi hz hsize hby v n xs hown s h63 hbytes hbase;unfold Oper.wp execOp;simp[ho,resolve,invoke,builtin,c8,dW,bL,FX,dG,tQ,hs,hx,hr];exact hK _ _ (h v' w' h2 h3 h4)
set_option maxHeartbeats 2000000 in
theorem wrt(b:Nat)(bs:Γ Value)(s:Δ)(X:Γ Nat)(w:World)(h:Bld b bs X w)(hlen:bs.length+s.size<=140737488355328) :
  Calls aL 12 #[.pointer (some ⟨b,0,none⟩),.string s] w λe w'=>e = .returned (.tuple #[.int .i64 s.size,.nilIface])/\∃Y,(∀x∈X,x∈Y)/\Bld b (bs++gM s) Y w'/\Sl X w Y w':=by
 obtain⟨hb,hbX,hXl,hgX⟩:=h;have HG:Aside (∀v g,w.cell? ⟨b,1,none⟩=some v->v.ownBlock=some g->g∈X):=hgX;have HX:Aside (∀x∈X,x<w.heap.size):=hXl;have HB:Aside (b∈X):=hbX;clear hgX hXl hbX;obtain⟨i0,hi,hz0,hz1,hz2⟩:=info_parts (P:=aL) (e:=5) (z := .int .u8 0) (size:=1) (bytes:=1) (by kernel_rfl);have mixed:=mixed
 go_enter Tryz.func12,Tryz.ntmps12
 go_wp2_with (go_at_call 23;refine(chk b bs _ hb).mono ?_)
 rintro e w1 ⟨rfl,h1,hk1,hc1⟩;have HK:Aside (cQ [b] w w1):=hk1;have HC:Aside (w1.cell? ⟨b,1,none⟩=w.cell? ⟨b,1,none⟩):=hc1;have s1:=hk1.size;clear hk1 hc1;obtain⟨hB,v,hbk,hown,hne⟩:=h1;have c0:w1.cell? ⟨b,0,none⟩=some (.pointer (some ⟨b,0,none⟩)):=by rw[tU hbk];rfl
 have c1:w1.cell? ⟨b,1,none⟩=some v:=by rw[tU hbk];rfl
 have hlt:b<w1.heap.size:=by
  rcases kJ b w1.heap.size with h' | h'
  ·exact h'
  ·simp[Array.getElem?_eq_none h']at hbk
 go_wp2_with (at_builtin;refine aJk rfl _ _ 52 9 rfl b 5 i0 Tryz.underlying52 Tryz.underlying9 hi hz0 hz1 hz2 _ _ _ rfl hown s rfl ?c3 ?c4 ?c5 ?_)
 case c3=>unfold maxLen;omega
 case c4=>omega
 case c5=>omega
 intro v' w2 hown' hgrow hnew;have HN:Aside (∀g,v'.ownBlock=some g->v.ownBlock=some g\/w1.heap.size<=g):=hnew;clear hnew;have hb2:w2.heap[b]? = some (.cells #[.pointer (some ⟨b,0,none⟩),v] 54 (0,0)):=by
  rw[hgrow.block b hlt (λe=>hne e.symm)];exact hbk
 have d0:w2.cell? ⟨b,0,none⟩=some (.pointer (some ⟨b,0,none⟩)):=by rw[tU hb2];rfl
 have d1:w2.cell? ⟨b,1,none⟩=some v:=by rw[tU hb2];rfl
 have f1:w2.frozen? ⟨b,1,none⟩=false:=Lib.frozen_of_heap hb2 1;obtain⟨ao,n',cap,rfl⟩:∃ao n' cap,v' = .slice ao n' cap:=by
  rcases hown'.2 with ⟨hv,_⟩ | ⟨g,cap,cur,fz,hv,_⟩
  ·exact⟨_,_,_,hv⟩
  ·exact⟨_,_,_,hv⟩
 go_wp2
 go_ret2
 have gX:∀g,v.ownBlock=some g->g∈X:=λg hg=>HG.out v g (by rw[<- HC.out];exact c1) hg;have z2:(w2.setCell ⟨b,1,none⟩ (.slice ao n' cap)).heap.size=w2.heap.size:=by simp[uW]
 refine⟨rfl,(Value.slice ao n' cap).ownBlock.toList++X,λx hx=>dC _ hx,⟨.inr (Lib.BuilderAtF.put (T:=54) (e:=5) hB hb2 (bs':=bs++gM s) (by simpa [uI] using hown') (by decide)),dC _ HB.out,λx hx=>?_,λv0 g hv0 hg=>?_⟩,⟨⟨?_,?_,?_,?_,λk hk hx=>?_⟩,λx hx=>?_⟩⟩
 ·rw[z2];rcases cY.1 hx with hx | hx
  ·exact(hown'.lt x (by simpa using hx)).2
  ·have:=HX.out x hx;have:=hgrow.size;omega
 ·rw[World.cell?_setCell_same _ _ _ d1]at hv0;cases hv0;exact dA _ (by simpa using hg)
 ·exact hgrow.os.trans HK.out.os
 ·exact hgrow.tape.trans HK.out.tape
 ·exact hgrow.output.trans HK.out.output
 ·rw[z2];have:=hgrow.size;omega
 ·rw[show (w2.setCell ⟨b,1,none⟩ (.slice ao n' cap)).heap[k]? = w2.heap[k]? from Below.heap_setCell _ _ _ _ (λe=>hx (e ▸ HB.out)),hgrow.block k (by omega) (λe=>hx (gX k e.symm))];exact HK.out.block k hk (λe=>hx (by simp only[aW,dH,or_false]at e;rw[e];exact HB.out))
 ·rcases cY.1 hx with hx | hx
  ·rcases HN.out x (by simpa using hx)with h | h
   ·exact .inl (gX x h)
   ·exact .inr (by omega)
  ·exact .inl hx
-- THE WALK
abbrev DY5:Ty:=iU
abbrev DT5:=bV
def Dk5(b:Nat)(cs:Γ Value)(w:World):Prop:=w.heap[b]? = some (.cells cs.toArray 44 (0,0))
theorem Dk5.keep{b:Nat}{cs:Γ Value}{w w':World}(h:Dk5 b cs w)(he:w'.heap[b]? = w.heap[b]?):Dk5 b cs w':=he.trans h
theorem Bld.keep{b:Nat}{bs:Γ Value}{X:Γ Nat}{w w':World}(h:Bld b bs X w)(hk:∀x∈X,w'.heap[x]? = w.heap[x]?)(hs:w.heap.size<=w'.heap.size):Bld b bs X w':=by
 obtain⟨h1,h2,h3,h4⟩:=h;have hb:w'.heap[b]? = w.heap[b]? := hk b h2;have hc:w'.cell? ⟨b,1,none⟩=w.cell? ⟨b,1,none⟩:=fM hb;have key:∀ {p:Value},KM 54 5 b b p bs w->KM 54 5 b b p bs w':=by
  rintro p ⟨q1,v,q2,q3,q4⟩;refine⟨q1,v,hb.trans q2,⟨q3.1,?_⟩,q4⟩;rcases q3.2 with hn | ⟨g,cap,cur,fz,e1,e2,e3,e4⟩
  ·lia
  ·refine .inr ⟨g,cap,cur,fz,e1,e2,(hk g (h4 v g ?_ (by rw[e1];rfl))).trans e3,e4⟩;rw[tU q2];rfl
 refine⟨h1.elim (λx => .inl (key x)) (λx => .inr (key x)),h2,λx hx=>cZ (h3 x hx) hs,λv g hv hg=>h4 v g (by lia) hg⟩
theorem bHv{w W:World}(h:No w [])(hk:cQ [] w W):No W [] where
 inv:=h.inv.keep λb _ hs=>hk.block b hs (by simp)
 size:=dV h.size hk.size
 out:=h.out
theorem aTH{W:World}{b:Nat}(h:¬fW W [] b):W.heap.size<=b:=by
 rcases kJ b W.heap.size with h' | h'
 ·exact absurd ⟨h',by simp⟩ h
 lia
theorem el5(W:World)(x0:Δ)(hgo:No W [])(hx:x0.size<=maxLen)(hp:P9 x0) :
  Calls aL 9 #[.string x0] W λe w'=>∃lv bs,e = .returned (.tuple #[lv,.string (QX x0)])/\cQ [] W w'/\iA w' (.sl .str) (Yk x0) [lv] bs/\(∀b∈bs,W.heap.size<=b)/\(QX x0).size<=maxLen:=by
 refine(kx9.h.2 W (fW W []) (fW W []) (x0,()) [.string x0] [[]] hgo (λ_ h=>h) (λ_ h=>h) hp ⟨_,_,_,_,rfl,rfl,⟨rfl,rfl,hx⟩,rfl,rfl⟩ (by simp)).mono ?_;rintro e w' ⟨rs,ubs,rbs,F,rfl,hk,⟨v,s,b,bs,rfl,rfl,⟨cs,ho,hv⟩,v2,s2,b2,bs2,rfl,rfl,⟨cs2,ho2,hv2⟩,rfl,rfl⟩,_,_,hg,_⟩;have hv:cs=[v]:=hv;have hv2:cs2=[v2]:=hv2;subst hv hv2;obtain⟨e2,hz,_⟩:=ho2;cases e2;exact⟨v,b,rfl,hk,ho,λi hi=>aTH (hg i (by simp[hi])),hz⟩
theorem nd5(W:World)(X:Γ Nat)(hgo:No W [])(hX:∀x∈X,x<W.heap.size) :
  Calls aL 10 #[] W λe w'=>∃cs,e = .returned (.agg cs.toArray)/\cQ [] W w'/\eK w' (fW w' X) DY5 VI cs:=by
 refine(bLg.h.2 W (λ_=>False) (λ_=>False) () [] [] hgo (λ_ h=>h.elim) (λ_ h=>h) trivial ⟨rfl,rfl⟩ (by simp)).mono ?_;rintro e w' ⟨rs,ubs,rbs,F,rfl,hk,⟨v,s,b,bs,rfl,rfl,⟨_,cs,hr,hv⟩,rfl,rfl⟩,_,_,_,hF⟩;have hv:v = .agg cs.toArray:=hv;subst hv;refine⟨cs,rfl,hk,hr.keep (λi hi=>?_) (λ_ _=>rfl)⟩;rcases hi with hi | hi
 ·exact hi.elim
 ·obtain⟨f1,f2,_⟩:=hF i hi;exact⟨f1,λhx=>by have:=hX i hx;have:=aTH f2;omega⟩
theorem dk5(W:World)(X:Γ Nat)(d:DT5)(cs:Γ Value)(ln:Δ)(hgo:No W [])(hX:∀x∈X,x<W.heap.size)(hd:eK W (fW W X) DY5 d cs)(hl:ln.size<=maxLen)(hp:P11 d ln) :
  Calls aL 11 #[.agg cs.toArray,.string ln] W λe w'=>∃cs' lv,e = .returned (.tuple #[.agg cs'.toArray,lv,.int .i64 (JS d ln)])/\cQ [] W w'/\eK w' (fW w' X) DY5 (LO d ln) cs'/\eK w' (fW w' X) (.sl .str) (CN d ln) [lv]:=by
 refine(bLS.h.2 W (fW W X) (fW W X) (d,ln,()) [.agg cs.toArray,.string ln] [[],[]] hgo (λb h=>⟨h.1,by simp⟩) (λ_ h=>h) hp ⟨_,_,_,_,rfl,rfl,⟨rfl,cs,rfl,hd⟩,_,_,_,_,rfl,rfl,⟨rfl,rfl,hl⟩,rfl,rfl⟩ (by simp)).mono ?_;rintro e w' ⟨rs,ubs,rbs,F,rfl,hk,⟨v,s,b,bs,rfl,rfl,⟨_,cs1,hr,hv⟩,v2,s2,b2,bs2,rfl,rfl,h2,v3,s3,b3,bs3,rfl,rfl,⟨cs3,ho3,hv3⟩,rfl,rfl⟩,_,_,hg,hF⟩;have hv:v = .agg cs1.toArray:=hv;have hv3:cs3=[v3]:=hv3;subst hv hv3;obtain⟨e3,_,_⟩:=ho3;cases e3;have key:∀i,(fW W X i\/F i)->fW w' X i:=λi hi=>by
  rcases hi with hi | hi
  ·exact⟨cZ hi.1 hk.size,hi.2⟩
  ·obtain⟨f1,f2,_⟩:=hF i hi;exact⟨f1,λhx=>by have:=hX i hx;have:=aTH f2;omega⟩
 refine⟨cs1,v2,rfl,hk,hr.keep key (λ_ _=>rfl),?_⟩;obtain⟨cs2,ho2,hv2⟩:=h2;have hv2:cs2=[v2]:=hv2;subst hv2;exact ho2.read λi hi=>⟨ho2.lt i hi,λhx=>by have:=hX i hx;have:=aTH (hg i (by simp[hi]));omega⟩
theorem aKG{G:Nat->Prop}{xs:Γ Δ}{v:Value}(h:eK w G (.sl .str) xs [v]):∃(ad:Option Addr) (cap:Nat),v = .slice ad xs.length cap/\∀k,k<xs.length->∃b off,ad=some ⟨b,off,none⟩/\G b/\w.cell? ⟨b,off+k,none⟩=some (.string (xs.getD k aC))/\(xs.getD k aC).size<=maxLen:=by
 obtain⟨v',hv,h1,h2⟩:=h;cases hv;rcases h2 with ⟨ad,rfl,rfl⟩ | ⟨b,off,cap,rfl,q1,q2,q3,q4⟩
 ·exact⟨ad,0,rfl,λk hk=>absurd hk (by simp)⟩
 ·refine⟨_,cap,rfl,λk hk=>⟨b,off,rfl,q3,?_⟩⟩;obtain⟨cs,z1,z2,z3⟩:=q4 k _ (qD xs k aC hk);obtain⟨z3,z4⟩:=z3;subst z3;have:=z2 0 _ rfl;exact⟨by simpa [kS] using this,z4⟩
theorem mk5{ys:Γ Δ}{b off cap n:Nat}{cur:Array Value}{ty:TypeId}{fz:Nat×Nat}(hn:n=ys.length)(hl:n<=cap)(hm:cap<=maxLen)(hz:off+cap<=cur.size)(hh:w.heap[b]? = some (.cells cur ty fz))(hf:H1 1 fz cur.size)(hs:∀y∈ys,y.size<=maxLen)
  (hc:∀(j:Nat) (y:Δ),ys[j]? = some y->cur[off+j]? = some (.string y)):iA w (.sl .str) ys [.slice (some ⟨b,off,none⟩) n cap] [b]:=by
 subst hn;refine⟨_,rfl,dV hl hm,.inr ⟨b,off,cap,cur,ty,fz,ys.map λ_=>[],rfl,hl,hm,by grind [kS],hh,hf,by simp,?_,λi x bi hx hbi=>?_⟩⟩
 ·simp
 ·rw[jH,hx]at hbi;cases hbi;refine⟨[.string x],rfl,λj c hj=>?_,rfl,hs x (List.mem_of_getElem? hx),rfl⟩
  grind [kS]
theorem bHw{xs:Γ Δ}{v:Value}{bs:Γ Nat}{s:Δ}{b':Nat}{ty:TypeId}(ho:iA w (.sl .str) xs [v] bs)(hs:s.size<=maxLen)(hb:w.cell? ⟨b',0,none⟩=some (.string s))(hl:xs.length<=1000000000) :
  ∃v' w' bs',(gN #[25,25] ty #[v,.slice (some ⟨b',0,none⟩) 1 1]).run aL w = .ok v' w'/\iA w' (.sl .str) (xs++[s]) [v'] bs'/\cQ bs w w'/\∀i∈bs',i∈bs\/w.heap.size<=i:=by
 obtain⟨h1,hc⟩:=aOL ho;have he:pW aL 9 .str:=TI.ty_ok (xE 9) (by kernel_rfl);obtain⟨i0,hi,_,_,hby⟩:=info_parts (P:=aL) (e:=9) (z := .string ⟨#[]⟩) (size:=1) (bytes:=16) (by kernel_rfl);have hx:∀w':World,w'.heap=w.heap->(eA kM.size 1 (.slice (some ⟨b',0,none⟩) 1 1)).run aL w' = .ok [hJ s].toArray w':=λw' hw=>oH rfl (λj c hj=>by
  rcases j with _ | j
  ·cases hj;exact(fM (w:=w) (by rw[hw])).trans hb
  ·simp at hj)
 have hsz:∀y∈xs++[s],y.size<=maxLen:=λy hy=>by
  rcases cY.1 hy with hy | hy
  ·exact h1 y hy
  ·simp only[aW,dH,or_false]at hy;rw[hy];exact hs
 have hn1:(xs++[s]).length=xs.length+1:=by simp
 have fr:∀(l:Γ Value),H1 1 (0,0) l.toArray.size:=λl=>⟨λj _ h=>by omega,.inl rfl⟩;rcases hc with ⟨ad,rfl,rfl,rfl⟩ | ⟨b,off,cap,cur,ty',fz,rfl,q1,q2,q3,q4,q5,rfl,q6⟩
 ·obtain⟨v',w',hr,hcase⟩:=Bq (P:=aL) (w:=w) (T:=25) (T2:=25) (ty:=ty) (e:=9) (d := .slice 9) (t := .str) oS oS (λk h=>by cases h) hi he (by decide) (adr:=ad) (len:=0) (cap:=0) (m:=1) (x := .slice (some ⟨b',0,none⟩) 1 1) (olds:=[]) (news:=[.string s]) hx (λw'=>rfl) (λw' hw=>by cases ad <;> rfl) rfl rfl (by simp[Y3]) (by rw[hby];decide) (by decide) (.inl rfl);rcases hcase with ⟨h,_⟩ | ⟨_,nc,rest,rfl,z1,z2,rfl,z3⟩
  ·exact absurd h (by decide)
  ·refine⟨_,_,[w.heap.size],hr,mk5 (off:=0) rfl z1 z2 (by rw[eH,z3];simp[kS]) (heap_alloc_new w.drew _) (fr _) hsz (λj y hy=>?_),(dD [] w).drew.alloc _,λi hi => .inr ?_⟩
   ·rcases j with _ | j
    ·cases hy;rfl
    ·simp at hy
   ·simp only[aW,dH,or_false]at hi;omega
 ·have holds:∀w':World,w'.heap=w.heap->(eA kM.size xs.length (.slice (some ⟨b,off,none⟩) xs.length cap)).run aL w' = .ok (xs.map hJ).toArray w':=λw' hw=>oH (by simp[kS]) (λj c hj=>by
   rw[jH]at hj;obtain⟨y,hy,rfl⟩:=Option.map_eq_some_iff.1 hj;rw[fM (w:=w) (w':=w') (by rw[hw])];simp only[gW, q4];exact q6 j y hy)
  obtain⟨v',w',hr,hcase⟩:=Bq (P:=aL) (w:=w) (T:=25) (T2:=25) (ty:=ty) (e:=9) (d := .slice 9) (t := .str) oS oS (λk h=>by cases h) hi he (by decide) (adr:=some ⟨b,off,none⟩) (len:=xs.length) (cap:=cap) (m:=1) (x := .slice (some ⟨b',0,none⟩) 1 1) (olds:=xs.map hJ) (news:=[.string s]) hx (λw'=>rfl) holds (by simp[kS]) rfl (by simp[Y3]) (by rw[hby];omega) (by unfold maxLen;omega) (.inr ⟨b,off,cur,ty',fz,rfl,q4,q5,by simpa [kS] using q3⟩);rcases hcase with ⟨h,h2⟩ | ⟨_,nc,rest,rfl,z1,z2,rfl,z3⟩
  ·rcases h2 with ⟨_,_,_,h0,_⟩ | ⟨_,b2,o2,cur2,ct2,fz2,cur',e1,e2,e3,e4,rfl,e6,e7,e8⟩
   ·exact absurd h0 (by decide)
   ·cases e1;rw[q4]at e2;cases e2;have hcl:cur'.size=cur.size:=by
     have:=congrArg aF e7;rw[nF (show off+xs.length*kM.size+1<=cur.toList.length from by rw[eN (xs:=cur),show kM.size=1 from rfl];omega),eN,eN]at this;exact this
    refine⟨_,_,[b],hr,mk5 hn1.symm h q2 (by rw[hcl];exact q3) e6 (by rw[hcl];exact q5) hsz (λj y hy=>?_),e8,λi hi => .inl hi⟩;have hj:j<xs.length+1:=by have:=(dQ.1 hy).1;omega
    have hg:cur'[off+j]? = cur'.toList[off+j]? := by simp
    rw[hg,e7];have hw:off+xs.length<=cur.toList.length:=by rw[eN (xs:=cur)];omega
    have ht:(cur.toList.take (off+xs.length*kM.size)).length=off+xs.length:=by rw[bW,show kM.size=1 from rfl,Jv];omega
    unfold fX;rw[bZ];rcases kJ j xs.length with c | c
    ·rw[b7 (by rw[ht];omega),List.getElem?_take,π (by rw[show kM.size=1 from rfl];omega),Array.getElem?_toList];rw[b7 c]at hy;exact q6 j y hy
    ·obtain rfl:j=xs.length:=by omega
     rw[cO (by rw[ht];exact aT _),ht,BT];rw[cO (aT _),BT]at hy;cases hy;rfl
  ·refine⟨_,_,[w.heap.size],hr,mk5 (off:=0) hn1.symm z1 z2 (by rw[eH,z3];simp[kS]) (heap_alloc_new w.drew _) (fr _) hsz (λj y hy=>?_),((dD [] w).drew.alloc _).of_nil,λi hi => .inr ?_⟩
   ·have e:(A5 hJ xs++[hJ s]++rest)=A5 hJ (xs++[s])++rest:=by simp
    have hj:j<(xs++[s]).length:=(dQ.1 hy).1;rw[e,bX,List.getElem?_toArray,b7 (by rw[cM];exact hj),jH,hy];rfl
   ·simp only[aW,dH,or_false]at hi;omega
def CO(x0:Δ):Γ Δ:=Yk x0++(if QX x0=aA #[] then [] else [QX x0])
def nl5(o:Δ)(ls:Γ Δ):Δ:=ls.foldl (λo l=>o++(l++aA #[10])) o
def st5(s:DT5×Δ)(ln:Δ):DT5×Δ:=if JS s.1 ln=0 then(LO s.1 ln,nl5 s.2 (CN s.1 ln))else(s.1,s.2++aA #[63,10])
def DU(ls:Γ Δ)(k:Nat):DT5×Δ:=(ls.take k).foldl st5 (VI,aA #[])
def T3(x0:Δ):Δ:=if 60<(CO x0).length then aA #[] else(DU (CO x0) (CO x0).length).2
def T4(x0:Δ):Int:=if 60<(CO x0).length then 5 else 0
def Pk5(ls:Γ Δ)(k:Nat):Prop:=P11 (DU ls k).1 (ls.getD k aC)/\(CN (DU ls k).1 (ls.getD k aC)).length<=1000/\∀l∈CN (DU ls k).1 (ls.getD k aC),l.size<=50000000
def P5(x0:Δ):Prop:=P9 x0/\(Yk x0).length<=1000000000/\((CO x0).length<=60->∀k,k<(CO x0).length->Pk5 (CO x0) k)
theorem Oc(ls:Γ Δ)(k:Nat)(h:k<ls.length):DU ls (k+1)=st5 (DU ls k) (ls.getD k aC):=by
 unfold DU;rw[eG,qD ls k aC h];simp
theorem aFI(o:Δ)(ls:Γ Δ)(k:Nat)(h:k<ls.length):nl5 o (ls.take (k+1))=nl5 o (ls.take k)++(ls.getD k aC++aA #[10]):=by
 unfold nl5;rw[eG,qD ls k aC h];simp
theorem W5(o:Δ)(ls:Γ Δ)(h:∀l∈ls,l.size<=50000000):∀k,k<=ls.length->(nl5 o (ls.take k)).size<=o.size+50000001*k
 | 0,_=>aT _
 | k+1,hk=>by
  have ih:=W5 o ls h k (by lia);have hx:=h _ (bY ls k aC (by lia));rw[aFI o ls k (by lia),bD,bD];have i1:(aA #[10]).size=1:=rfl
  lia
theorem W6(ls:Γ Δ)(hp:∀k,k<ls.length->Pk5 ls k):∀k,k<=ls.length->(DU ls k).2.size<=50000001000*k
 | 0,_=>bG _
 | k+1,hk=>by
  have ih:=W6 ls hp k (by lia);obtain⟨_,p1,p2⟩:=hp k (by lia);rw[Oc ls k (by lia)];unfold st5;split
  ·have:=W5 (DU ls k).2 _ p2 _ (aT _)
   grind
  ·rw[bD];have i1:(aA #[63,10]).size=2:=rfl
   lia
theorem aPH(a b:Δ):gM (a++b)=gM a++gM b:=by
 simp[gM]
theorem bLV(s:Δ):s.toList.isEmpty=decide (s=aA #[]):=by
 have e:aB (aA #[])=[]:=by unfold aB ByteArray.toList.loop;rfl
 rw[Bool.eq_iff_iff,ε, <- bE,e,List.isEmpty_iff,beq_iff_eq]
def aPI{ops:Array Oper}{rest:Γ Oper}{o:Oper}{a:Act}(hgd:o.guard=none)(sl x:Operand)
  (ho:o.op = .call { callee := .builtin .append,args := #[sl,x],argTypes := #[25,25] }) {v:Value} {xs:Γ Δ} {bs:Γ Nat} {s:Δ} {b':Nat} (hs:a.eval sl=v) (hx:a.eval x = .slice (some ⟨b',0,none⟩) 1 1)
  (hown:iA w (.sl .str) xs [v] bs) (hsz:s.size<=maxLen) (hb:w.cell? ⟨b',0,none⟩=some (.string s)) (hl:xs.length<=1000000000)
  (h:∀v' w' bs',iA w' (.sl .str) (xs++[s]) [v'] bs'->cQ bs w w'->(∀i∈bs',i∈bs\/w.heap.size<=i)->wpList aL ops Q rest (a.put o.dst v') w'):wpList aL ops Q (o::rest) a w:=by
 refine wpList_plain hgd λK hK=>?_;obtain⟨v',w',bs',hr,h2,h3,h4⟩:=bHw (ty:=o.type) hown hsz hb hl;unfold Oper.wp execOp;simp only[ho,resolve,invoke,builtin,c8,dW,bL,FX,dG,tQ,hs,hx,hr];exact hK _ _ (h v' w' bs' h2 h3 h4)
theorem bA5:pW aL 44 DY5:=TI.ty_ok (xE 44) (by kernel_rfl)
theorem dv5(cs:Γ Value):(Value.agg cs.toArray).cells.toList=cs:=rfl
section
variable {ops:Array Oper} {rest:Γ Oper} {a:Act} {w:World} {Q:Exit->Act->World->Prop} {o:Oper}
def bHx(hg:o.guard=none)(ho:o.op = .alloc 44)(h:∀w',w'=w.alloc (.cells (fD DY5).toArray 44)->wpList aL ops Q rest (a.put o.dst (.pointer (some ⟨w.heap.size,0,none⟩))) w'):wpList aL ops Q (o::rest) a w:=by
 refine wpList_plain hg λK hK=>?_;have hr:(Ju 44 true (.tuple #[])).run aL w = .ok (.pointer (some ⟨w.heap.size,0,none⟩)) (w.alloc (.cells (fD DY5).toArray 44)):=by
  simp only[Ju,newVar,newRow,c8,run_newObj,bL,dW,bA5.zero_run];rfl
 unfold Oper.wp execOp;simp only[ho,c8,hr,bL,dW];exact hK _ _ (h _ rfl)
def bA6{p x:Operand}{b:Nat}{cs:Γ Value}{cur:Array Value}(hg:o.guard=none)(ho:o.op = .store 44 p x)(hp:a.eval p = .pointer (some ⟨b,0,none⟩))(hx:a.eval x = .agg cs.toArray)(hl:cs.length=22)(h1:∀c∈cs,c.oneCell'=true)(hb:w.heap[b]? = some (.cells cur 44 (0,0)))(hc:cur.size=22)
  (h:∀w',Dk5 b cs w'->cQ [b] w w'->w'.heap.size=w.heap.size->wpList aL ops Q rest (a.put o.dst (.tuple #[])) w'):wpList aL ops Q (o::rest) a w:=by
 refine wpList_plain hg λK hK=>?_;obtain⟨w',cur',r1,r2,r3,r4,r5⟩:=sE (P:=aL) cs w b 0 0 cur 44 (0,0) hb (λj _ h=>by omega) (by omega) h1;have hr:(AC 44 (a.eval p) (a.eval x)).run aL w = .ok () w':=by
  unfold AC;rw[hp,hx];simp only[n5,c8,dW,bL,storeVar,bA5.size_run,dv5];rw[ν (by show ¬(cs.toArray.size≠22);simp[hl])];exact r1
 have hcur:cur'=cs.toArray:=by
  have:cur'.toList=cs:=by
   rw[r3];exact Fc (by rw[eN,hc,hl])
  rw[<- this,Array.toArray_toList]
 subst hcur;unfold Oper.wp execOp;simp only[ho,c8,hr,bL,dW];exact hK _ _ (h _ r2 r4 r5)
def bHy{p:Operand}{b:Nat}{cs:Γ Value}(hg:Region.wanted o (yielded ops a.tmps)=true)(ho:o.op = .load 44 p)(hp:a.eval p = .pointer (some ⟨b,0,none⟩))(hb:Dk5 b cs w)(hl:cs.length=22)(h:wpList aL ops Q rest (a.put o.dst (.agg cs.toArray)) w) :
  wpList aL ops Q (o::rest) a w:=by
 refine wpList_step λK hK=>?_;rw[π hg];have hr:(tL 44 (a.eval p)).run aL w = .ok (.agg cs.toArray) w:=by
  unfold tL;rw[hp];simp only[n5,c8,dW,bL];exact DA bA5 hl (λj v hj=>by
   unfold Dk5 at hb;simp only[gW, hb,bX];simpa using hj)
 unfold Oper.wp execOp;simp only[ho,c8,hr,bL,dW];exact hK _ _ h
end
theorem aPJ{w:World}{G:Nat->Prop}{xs:Γ Δ}{ad:Option Addr}{n cap:Nat}(h:eK w G (.sl .str) xs [.slice ad n cap])(k:Nat)(hk:k<xs.length):∃b off,ad=some ⟨b,off,none⟩/\w.cell? ⟨b,off+k,none⟩=some (.string (xs.getD k aC))/\(xs.getD k aC).size<=maxLen:=by
 grind [aKG]
theorem bHz(w:World):Bld w.heap.size [] [w.heap.size] (w.alloc (.cells #[.pointer none,.slice none 0 0] 54)):=by
 refine⟨Lib.IsBuilderF.of (Lib.fresh_isBuilder 54 5 w),by simp,by simp,λv g hv hg=>?_⟩;rw[Hr]at hv;cases hv;cases hg
set_option maxHeartbeats 4000000 in
theorem bH0(w:World)(x0:Δ)(hgo:No w [])(hx:x0.size<=maxLen)(hp:P5 x0) :
  Calls aL 5 #[.string x0] w λe w'=>e = .returned (.tuple #[.string (T3 x0),.int .i64 (T4 x0)])/\cQ [] w w':=by
 obtain⟨hp1,hp2,hp3⟩:=hp;have HP:Aside ((CO x0).length<=60->∀k,k<(CO x0).length->Pk5 (CO x0) k):=hp3;clear hp3;have mixed:=mixed
 go_enter aKa,Tryz.ntmps5
 go_upto_if 21 with (go_at_call 9;refine(el5 _ x0 hgo hx hp1).mono ?_)
 rintro e w1 ⟨lv,bs,rfl,k1,o1,f1,z1⟩
 go_upto_if 21 with fail
 have HZ:Aside (CO x0=Yk x0++(if QX x0=aA #[] then [] else [QX x0])):=rfl
 go_cut [4] (λlv2 wx=>∃ad cap,lv2 = .slice ad (CO x0).length cap/\eK wx (fW wx []) (.sl .str) (CO x0) [lv2]/\cQ [] w wx)
 case first =>
  have hem:(!(QX x0).toList.isEmpty) = !decide (QX x0=aA #[]):=by
   rw[bLV]
  have EM:Aside ((!(QX x0).toList.isEmpty) = !decide (QX x0=aA #[])):=hem;clear hem;generalize QX x0=rest at *;have ho:iA (w1.alloc (.cells #[.string rest] 9)) kM.sl (Yk x0) [lv] bs:=o1.keep λi hi=>Below.heap_alloc _ _ _ (o1.lt i hi)
  go_wp2_with (at_builtin;refine aPI rfl _ _ rfl rfl rfl ho z1 (by simp[Hr]) hp2 ?_)
  ·intro v' w2 bs2 o2 k2 f2;rename_i hq;have HQ:Aside ((!rest.toList.isEmpty)=true):=hq;clear hq
   go_wp2_with fail
   go_meet
   case rel =>
    have hr:¬rest=aA #[]:=by have:=EM.out;rw[HQ.out]at this;simpa using this.symm
    have el:CO x0=Yk x0++[rest]:=by rw[HZ.out,ν hr]
    have r1:eK w2 (fW w2 []) (.sl .str) (CO x0) [v']:=by rw[el];exact o2.read λi hi=>⟨o2.lt i hi,by simp⟩
    obtain⟨ad,cap,e1,_⟩:=aKG r1;have k3:=k1.alloc (.cells #[.string rest] 9);exact⟨ad,cap,e1,r1,⟨k2.os.trans k3.os,k2.tape.trans k3.tape,k2.output.trans k3.output,dV k3.size k2.size,λi hi _=>(k2.block i (cZ hi k3.size) (λhb=>by have:=f1 i hb;omega)).trans (k3.block i hi (by simp))⟩⟩
  ·rename_i hq
   go_meet
   case rel =>
    have hr:rest=aA #[]:=by have:=EM.out;rw[hq]at this;simpa using this.symm
    have el:CO x0=Yk x0:=by rw[HZ.out,π hr,cK]
    have r1:eK w1 (fW w1 []) (.sl .str) (CO x0) [lv]:=by rw[el];exact o1.read λi hi=>⟨o1.lt i hi,by simp⟩
    obtain⟨ad,cap,e1,_⟩:=aKG r1;exact⟨ad,cap,e1,r1,k1⟩
 case rest =>
  obtain⟨ad,cap,rfl,r0,k0⟩:=hcut;have eg0:T3 x0=if 60<(CO x0).length then aA #[] else(DU (CO x0) (CO x0).length).2:=rfl
  have eg1:T4 x0=if 60<(CO x0).length then 5 else 0:=rfl
  have E0:Aside (T3 x0=if 60<(CO x0).length then aA #[] else(DU (CO x0) (CO x0).length).2):=eg0;have E1:Aside (T4 x0=if 60<(CO x0).length then 5 else 0):=eg1;clear eg0 eg1 HZ;generalize CO x0=ls at *;have R0:Aside (eK wc (fW wc []) (.sl .str) ls [.slice ad ls.length cap]):=r0;clear r0;by_cases h60:60<ls.length
  ·go_wp2
   go_ret2
   exact⟨by rw[E0.out,E1.out,π h60,π h60]<;>rfl,k0⟩
  ·have b0:cQ [] wc (wc.alloc (.cells #[.pointer none,.slice none 0 0] 54)):=(dD [] wc).alloc _;have s0:(wc.alloc (.cells #[.pointer none,.slice none 0 0] 54)).heap.size=wc.heap.size+1:=by simp
   go_wp2_with (go_at_call 10;refine(nd5 _ [wc.heap.size] (bHv hgo (k0.trans b0)) (by simp)).mono ?_)
   rintro e w3 ⟨cs0,rfl,k3,r3⟩;have L0:cs0.length=22:=r3.length;have R3:Aside (eK w3 (fW w3 [wc.heap.size]) DY5 VI cs0):=r3;have O3:Aside (∀c∈cs0,c.oneCell'=true):=r3.one;clear r3
   go_wp2_with (first
    | (refine bHx rfl rfl ?_;rintro w4 hw4;have W4:Aside (w4=w3.alloc (.cells (fD DY5).toArray 44)):=hw4;clear hw4)
    | (refine bA6 (b:=w3.heap.size) (cs:=cs0) (cur:=(fD DY5).toArray) rfl rfl rfl rfl L0 O3.out (by rw[W4.out];exact heap_alloc_new _ _) rfl ?_;intro w5 d5 k5 z5))
   have hwb:w.heap.size<=wc.heap.size:=k0.size;have hbb:wc.heap.size<w3.heap.size:=by have:=k3.size;omega
   have h43:cQ [] w3 w4:=by rw[W4.out];exact(dD [] w3).alloc _
   have h44:w4.heap.size=w3.heap.size+1:=by rw[W4.out];simp
   have s35:Sl [wc.heap.size] w3 [w3.heap.size,wc.heap.size] w5:=by
    refine⟨⟨k5.os.trans h43.os,k5.tape.trans h43.tape,k5.output.trans h43.output,by omega,λi hi hx=>(k5.block i (by omega) (by simp only[aW,dH,or_false];omega)).trans (h43.block i hi (by simp))⟩,λx hx=>?_⟩;simp only[aW,dH,or_false]at hx ⊢;omega
   have kc3:cQ [] wc w3:=b0.trans k3;have sc3:Sl [] wc [wc.heap.size] w3:=⟨kc3,λx hx=>by simp only[aW,dH,or_false]at hx ⊢;omega⟩;have SC:Aside (Sl [] wc [w3.heap.size,wc.heap.size] w5):=sc3.trans s35;have B5:Aside (Bld wc.heap.size [] [wc.heap.size] w5):=(bHz wc).keep (λx hx=>by
    simp only[aW,dH,or_false]at hx;subst hx;rw[k5.block _ (by omega) (by simp only[aW,dH,or_false];omega),h43.block _ (by omega) (by simp),k3.block _ (by omega) (by simp)]) (by have:=k3.size;omega)
   have D5:Aside (Dk5 w3.heap.size cs0 w5):=d5;have R5:Aside (eK w5 (fW w5 [w3.heap.size,wc.heap.size]) DY5 VI cs0):=s35.keep R3.out;clear s35 sc3 k5 d5;generalize hbq:wc.heap.size=bb at *;generalize hdq:w3.heap.size=db at *;clear hbq hdq
   go_loopw [32] (λi wr=>∃(k:Nat) (X:Γ Nat) (cs:Γ Value),k<=ls.length/\i = .int .i64 k/\Bld bb (gM (DU ls k).2) X wr/\db ∉ X/\Dk5 db cs wr/\eK wr (fW wr (db::X)) DY5 (DU ls k).1 cs/\Sl [] wc (db::X) wr/\db<wr.heap.size) (λi _=>ls.length-(intOf i).toNat)
   case atStart=>exact⟨0,[bb],cs0,bG _,rfl,B5.out,by simp;omega,D5.out,R5.out,SC.out,by omega⟩
   case round =>
    obtain⟨k,X,cs,hk,rfl,hB,hdX,hD,hR,hS,hdb⟩:=hrel;have HS:Aside (Sl [] wc (db::X) wr):=hS;have HB:Aside (Bld bb (gM (DU ls k).2) X wr):=hB;have HD:Aside (Dk5 db cs wr):=hD;have HR:Aside (eK wr (fW wr (db::X)) DY5 (DU ls k).1 cs):=hR;have HX:Aside (db ∉ X):=hdX;have BX:Aside (∀x∈db::X,x<wr.heap.size):=λx hx=>by
     rcases aW.1 hx with rfl | hx
     ·exact hdb
     ·exact hB.2.2.1 x hx
    have GO:Aside (No wr []):=bHv hgo (k0.trans hS.kept);have LC:Aside (cs.length=22):=hR.length;clear hS hB hD hR hdX;by_cases hlt:k<ls.length
    ·obtain⟨b,off,rfl,e1,hz⟩:=aPJ (HS.out.keep R0.out) k hlt;obtain⟨p1,p2,p3⟩:=HP.out (by omega) k hlt;have hsz:=W6 ls (HP.out (by omega)) k hk;have HU:Aside (DU ls (k+1)=st5 (DU ls k) (ls.getD k aC)):=Oc ls k hlt;generalize ls.getD k aC=ln at *;generalize DU ls k=s at *;have P1:Aside (P11 s.1 ln):=p1;have P3:Aside (∀l∈CN s.1 ln,l.size<=50000000):=p3;clear p1 p3
     go_upto_region 12 with (first
      | (refine bHy (b:=db) (cs:=cs) rfl rfl rfl HD.out LC.out ?_)
      | (go_at_call 11;refine(dk5 _ (db::X) s.1 cs ln GO.out BX.out HR.out hz P1.out).mono ?_;rintro e w6 ⟨cs6,lv6,rfl,k6,r6,l6⟩)
      | (refine bHx rfl rfl ?_;rintro w7 hw7;have W7:Aside (w7=w6.alloc (.cells (fD DY5).toArray 44)):=hw7;clear hw7)
      | (refine bA6 (b:=w6.heap.size) (cs:=cs6) (cur:=(fD DY5).toArray) rfl rfl rfl rfl r6.length r6.one (by rw[W7.out];exact heap_alloc_new _ _) rfl ?_;intro w8 d8 k8 z8))
     have h67:cQ [] w6 w7:=by rw[W7.out];exact(dD [] w6).alloc _
     have h77:w7.heap.size=w6.heap.size+1:=by rw[W7.out];simp
     have z6:=k6.size;have h68:cQ [] w6 w8:=⟨k8.os.trans h67.os,k8.tape.trans h67.tape,k8.output.trans h67.output,by omega,λi hi _=>(k8.block i (by omega) (by simp only[aW,dH,or_false];omega)).trans (h67.block i hi (by simp))⟩;have hr8:cQ [] wr w8:=k6.trans h68;have D8:Aside (Dk5 w6.heap.size cs6 w8):=d8;have B8:Aside (Bld bb (gM s.2) X w8):=HB.out.keep (λx hx=>hr8.block x (HB.out.2.2.1 x hx) (by simp)) hr8.size;have E8:Aside (Dk5 db cs w8):=HD.out.keep (hr8.block db hdb (by simp));have R6:Aside (eK w6 (fW w6 (db::X)) DY5 (LO s.1 ln) cs6):=r6;have L6:Aside (eK w6 (fW w6 (db::X)) (.sl .str) (CN s.1 ln) [lv6]):=l6;have K8:Aside (cQ [] wr w8):=hr8;have K68:Aside (cQ [] w6 w8):=h68;have z8r:=hr8.size;clear d8 k8 h67 h68 hr8 r6 l6;generalize hcode:JS s.1 ln=code at *;have HC:Aside (JS s.1 ln=code):=hcode;clear hcode;have i2:(aA #[63,10]).size=2:=rfl;by_cases hc:code=0
     ·subst hc;obtain⟨ad6,cap6,rfl,_⟩:=aKG L6.out;have O6:Aside (∀c∈cs6,c.oneCell'=true):=R6.out.one;have LC6:Aside (cs6.length=22):=R6.out.length;have hcz:cs.toArray.size=22:=by rw[eH];exact LC.out
      go_upto_region 15 with (first
       | (refine bHy (b:=w6.heap.size) (cs:=cs6) rfl rfl rfl D8.out LC6.out ?_)
       | (refine bA6 (b:=db) (cs:=cs6) (cur:=cs.toArray) rfl rfl rfl rfl LC6.out O6.out E8.out hcz ?_;intro w9 d9 k9 z9))
      have s89:Sl (db::X) w8 (db::X) w9:=⟨k9.mono (λi hi=>by simp only[aW,dH,or_false]at hi;rw[hi];exact aR ..),λx hx => .inl hx⟩;have s68:Sl (db::X) w6 (db::X) w8:=⟨K68.out.mono (λi hi=>by cases hi),λx hx => .inl hx⟩;have sr8:Sl (db::X) wr (db::X) w8:=⟨K8.out.mono (λi hi=>by cases hi),λx hx => .inl hx⟩;have kx9.S:Aside (Sl [] wc (db::X) w9):=HS.out.trans (sr8.trans s89);have R9:Aside (eK w9 (fW w9 (db::X)) DY5 (LO s.1 ln) cs6):=(s68.trans s89).keep R6.out;have L9:Aside (eK w9 (fW w9 (db::X)) (.sl .str) (CN s.1 ln) [.slice ad6 (CN s.1 ln).length cap6]):=(s68.trans s89).keep L6.out;have B9:Aside (Bld bb (gM s.2) X w9):=B8.out.keep (λx hx=>k9.block x (by have:=B8.out.2.2.1 x hx;omega) (by simp only[aW,dH,or_false];exact λe=>HX.out (e ▸ hx))) (by omega);have D9:Aside (Dk5 db cs6 w9):=d9;have HV:Aside (st5 s ln=(LO s.1 ln,nl5 s.2 (CN s.1 ln))):=by
       show st5 s ln=_;unfold st5;rw[π HC.out]
      clear s89 s68 sr8 k9 d9 HC;generalize CN s.1 ln=ot at *;have hd9:db<w9.heap.size:=by omega
      go_wp2_with fail
      go_loopw [49] (λi wi=>∃(j:Nat) (Y:Γ Nat),j<=ot.length/\i = .int .i64 j/\Bld bb (gM (nl5 s.2 (ot.take j))) Y wi/\Sl X w9 Y wi) (λi _=>ot.length-(intOf i).toNat)
      case atStart=>exact⟨0,X,bG _,rfl,B9.out,⟨dD _ _,λx hx => .inl hx⟩⟩
      case round =>
       obtain⟨j,Y,hj,rfl,hBi,hSi⟩:=hrel;have hdY:db ∉ Y:=λh=>(hSi.new db h).elim HX.out (λh'=>by omega);have SI:Aside (Sl (db::X) w9 (db::Y) wr):=hSi.cons db;by_cases hjt:j<ot.length
       ·obtain⟨bo,oo,rfl,q1,q2⟩:=aPJ (SI.out.keep L9.out) j hjt;have hsj:=W5 s.2 ot P3.out j hj;have HSU:Aside (nl5 s.2 (ot.take (j+1))=nl5 s.2 (ot.take j)++(ot.getD j aC++aA #[10])):=aFI s.2 ot j hjt;have hlz:=P3.out _ (bY ot j aC hjt);generalize ot.getD j aC=l at *;have i10:(l++aA #[10]).size<=50000001:=by
         rw[bD];show _+1<=50000001;omega
        go_wp2_with (go_at_call 12;refine(wrt bb (gM (nl5 s.2 (ot.take j))) (l++aA #[10]) Y _ hBi (by rw[uI];omega)).mono ?_;rintro e w10 ⟨rfl,Z,y1,y2,y3⟩)
        go_roundw
        case rel=>exact⟨j+1,Z,hjt,by simp,by rw[HSU.out,aPH];exact y2,hSi.trans y3⟩
        case measure=>simp[intOf];omega
       ·have hjn:j=ot.length:=by omega
        subst hjn
        go_wp2_with fail
        go_roundw
        case rel =>
         rw[jT]at hBi;have hsw:=hSi.kept.size;refine⟨k+1,Y,cs6,hlt,by simp,?_,hdY,D9.out.keep (hSi.kept.block db hd9 HX.out),?_,kx9.S.out.trans SI.out,by omega⟩
         ·rw[HU.out,HV.out];exact hBi
         ·rw[HU.out,HV.out];exact SI.out.keep R9.out
        case measure=>simp[intOf];omega
     ·have hcb:(code != 0)=true:=by simpa using hc
      go_wp2_with (go_at_call 12;refine(wrt bb (gM s.2) (aA #[63,10]) X _ B8.out (by rw[uI];omega)).mono ?_;rintro e w9 ⟨rfl,Y,y1,y2,y3⟩)
      go_roundw
      case rel =>
       have hdY:db ∉ Y:=λh=>(y3.new db h).elim HX.out (λh'=>by omega);have s9:Sl (db::X) wr (db::Y) w9:=by
        have k8:=K8.out;have k9:=y3.kept;refine⟨⟨k9.os.trans k8.os,k9.tape.trans k8.tape,k9.output.trans k8.output,dV k8.size k9.size,λi hi hx=>(k9.block i (by omega) (λh=>hx (aM _ h))).trans (k8.block i hi (by simp))⟩,λx hx=>?_⟩;rcases aW.1 hx with rfl | hx
        ·exact .inl (aR ..)
        ·rcases y3.new x hx with h | h
         ·exact .inl (aM _ h)
         ·exact .inr (by omega)
       have hv:st5 s ln=(s.1,s.2++aA #[63,10]):=by
        unfold st5;rw[ν (by rw[HC.out];exact hc)]
       refine⟨k+1,Y,cs,hlt,by simp,?_,hdY,E8.out.keep (y3.kept.block db (by omega) HX.out),?_,HS.out.trans s9,by have:=y3.kept.size;omega⟩
       ·rw[HU.out,hv];show Bld bb (gM (s.2++aA #[63,10])) Y w9;rw[aPH];exact y2
       ·rw[HU.out,hv];exact s9.keep HR.out
      case measure=>simp[intOf];omega
    ·have hkn:k=ls.length:=by omega
     subst hkn;have h7:x7 54 5 bb bb (Lib.byteCells (DU ls ls.length).2.data.toList) wr:=by
      rw[<- Lib.strCells_eq];exact HB.out.1
     have hbl:=HB.out.2.2.1 bb HB.out.2.1
     go_wp2_with (go_at_call 13;refine(aSP bb bb (DU ls ls.length).2.data.toList _ h7 (Nat.le_of_lt hbl)).mono ?_;rintro e w8 ⟨rfl,b8⟩)
     have e8:(⟨(DU ls ls.length).2.data.toList.toArray⟩:Δ)=(DU ls ls.length).2:=by simp
     rw[e8]
     go_ret2
     have kw:=k0.trans HS.out.kept;exact⟨by rw[E0.out,E1.out,ν h60,ν h60]<;>rfl,⟨b8.1.trans kw.os,b8.2.trans kw.tape,b8.3.trans kw.output,dV kw.size b8.4,λi hi _=>(b8.5 i (by omega)).trans (kw.block i hi (by simp))⟩⟩
def bLW:Γ AT:=[AT.v .str]
def S5:Am.Spec:={ sig:=bLW,pre:=λ⟨x0,_⟩=>P5 x0,res:=λ⟨x0,_⟩=>[⟨kM,T3 x0⟩,⟨mJ .i64,T4 x0⟩] }
theorem bLX:S0 5 S5:=AJ aKa<|nH rfl λw ⟨x0,_⟩ vs bss hg hp hw ha=>by
 obtain⟨v0,s0,_,_,rfl,_,⟨_,rfl,hx⟩,rfl,_⟩:=ha;have hp:P5 x0:=hp;have hgo:No w []:=⟨hg,hg.size,λb hb=>by cases hb⟩;refine⟨λd hd=>?_,bH0 w x0 hgo hx hp⟩;simp only[aW,dH,or_false]at hd;rcases hd with rfl | rfl
 ·refine⟨rfl,?_⟩;show (T3 x0).size<=maxLen;unfold T3;split
  ·exact bG _
  ·rename_i h;have:=W6 (CO x0) (hp.2.2 (by omega)) (CO x0).length (aT _);unfold maxLen;omega
 ·refine⟨rfl,?_⟩;show bA .i64 (T4 x0);unfold T4;rw[aK];split <;> omega
def kx5:KK:=⟨5,S5,bLX⟩
noncomputable section
def d6:jB:=D0 aKb [.v (.str),.v (.int .u8)] [.sl .str] []
mutual
def R6:Nat->Δ->Int->Γ aS->Prop
 | 0,_,_,_=>False
 | n+1,x0,x1,ds=>aJl n 0 0 ([]) x0 x1 ds
def aJl:Nat->Int->Int->Γ Δ->Δ->Int->Γ aS->Prop
 | 0,_,_,_,_,_,_=>False
 | n+1,v6,v7,h0,x0,x1,ds=>if decide (v7<(↑(aG x0):Int))then 0<=v7/\v7<(↑(aG x0):Int)/\if(↑(cR (aD (cE (bO x0)) (aE v7) 0)):Int)==x1 then 0<=v6/\v6<=v7/\v7<=(↑(aG x0):Int)/\(aF h0+1)*16<=140737488355328/\bA .i64 (v7+1)/\bA .i64 (v7+1)/\aJl n (v7+1) (v7+1) (h0++[aN x0 (aE v6) (aE v7)]) x0 x1 ds else bA .i64 (v7+1)/\aJl n v6 (v7+1) h0 x0 x1 ds else 0<=v6/\v6<=(↑(aG x0):Int)/\(aF h0+1)*16<=140737488355328/\ds=[aJ (.sl .str) (h0++[aN x0 (aE v6) (aE (↑(aG x0):Int))])]
end
def bLY(ds:Γ aS)(K:gU)(q:Nat->Value):∀n,(∀ {x0 x1},R6 n x0 x1 ds->St d6 (x0,x1,()) ds [] K q)/\(∀ {v6 v7 h0 x0 x1},aJl n v6 v7 h0 x0 x1 ds->Cu d6 4 ([eS 0 x0,(1,.a (.val (.int .u8 x1))),eW 5 0,eI 6 v6,eI 7 v7],[cN .str h0]) ds [] K q):=nI ⟨aH,aH⟩ λn ⟨i,i4⟩=>⟨cX i4,
  bU (eE<|bU (pc3<|aO<|aO<|aO<|cX i4)<|aO<|cX i4)<|eE<|aO dR⟩
def c6(x1:Int):UInt8:=jU x1.toNat
def cD(x0:Δ)(x1:Int):Γ Δ:=bss (cH (c6 x1) x0.data.toList)
def P6(x0:Δ)(x1:Int):Prop:=x0.size<4294967281/\0<=x1/\x1<=255
theorem bLZ(x0:Δ)(x1:Int)(hs:x0.size<4294967281)(h0:0<=x1)(h1:x1<=255):∀(k i frm:Nat) (h:Γ Δ),i+k=x0.size->frm<=i->c6 x1 ∉ (x0.data.toList.drop frm).take (i-frm)->h.length<=i ->
  aJl (k+1) (frm:Int) (i:Int) h x0 x1 [⟨.sl .str,h++bss (cH (c6 x1) (x0.data.toList.drop frm))⟩]:=by
 intro k;have hll:x0.data.toList.length=x0.size:=rfl
 induction k with
 | zero =>
  intro i frm h hi hf hc hl;rw[aJl,ν (by lia)];refine⟨by lia,by lia,by lia,?_⟩;have e:(x0.data.toList.drop frm).take (i-frm)=x0.data.toList.drop frm:=cW (by grind);rw[e]at hc;rw[lG _ hc,aI,aI,Lib.extract_from];rfl
 | succ k ih =>
  intro i frm h hi hf hc hl;have hup:bA .i64 ((i:Int)+1):=by grind [aK]
  have hlt:i<x0.data.toList.length:=by lia
  have hcons:x0.data.toList.drop i=x0.data.toList.getD i 0::x0.data.toList.drop (i+1):=eD _ i 0 hlt;have hsplit:x0.data.toList.drop frm=(x0.data.toList.drop frm).take (i-frm)++x0.data.toList.drop i:=by
   conv=>lhs;rw[<- List.take_append_drop (i-frm) (x0.data.toList.drop frm)]
   simp_all
  rw[aJl,π (by lia)];simp only[aI];refine⟨by lia,by lia,?_⟩;have hb:(((x0.data.toList.getD i 0).toNat:Int)==x1)=true↔x0.data.toList.getD i 0=c6 x1:=by
   rw[beq_iff_eq, <- jL]
   grind [c6,jU,qZ]
  by_cases he:x0.data.toList.getD i 0=c6 x1
  ·rw[π (hb.2 he)];refine⟨by lia,by lia,by lia,by lia,hup,hup,?_⟩;have:=ih (i+1) (i+1) (h++[x0.extract frm i]) (by lia) (aT _) (by simp) (by grind);have e2:x0.extract frm i=⟨((x0.data.toList.drop frm).take (i-frm)).toArray⟩:=pU x0.data.toList frm i;have e3:cH (c6 x1) (x0.data.toList.drop frm)=(x0.data.toList.drop frm).take (i-frm)::cH (c6 x1) (x0.data.toList.drop (i+1)):=by
    grind [nS]
   rw[e3,e2];rw[bZ,e2]at this;exact this
  ·rw[ν (λhh=>he (hb.1 hh))];refine⟨hup,?_⟩;refine ih (i+1) frm h (by lia) (by lia) (λhm=>?_) (by lia);have e4:(x0.data.toList.drop frm).take (i+1-frm)=(x0.data.toList.drop frm).take (i-frm)++[x0.data.toList.getD i 0]:=by
    conv=>lhs;rw[hsplit,hcons]
    rw[List.take_append,cW (by grind)];have:i+1-frm-((x0.data.toList.drop frm).take (i-frm)).length=1:=by grind
    grind
   grind
theorem bMa(x0:Δ)(x1:Int)(h:P6 x0 x1):R6 (x0.size+1+1) x0 x1 [⟨.sl .str,cD x0 x1⟩]:=by
 rw[R6];have:=bLZ x0 x1 h.1 h.2.1 h.2.2 x0.size 0 0 [] (by omega) (aT _) (by simp) (by simp);simpa [cD] using this
def kx6:KK:=mL d6 (DO aKb) P6 (cD,()) (λ⟨x0,x1,_⟩ h hwf K q =>
 (bLY _ K q _).1 (bMa x0 x1 h))
def kx7:KK:=mB Tryz.func7 [] [.cons (.sl fQ) YA1] [] nP (VI,()) λ_=>pr
def cJ(x0:Int)(x1:Int)(x2:Int):Bool:=if decide (x0>=x1)then decide (x0<=x2)else false
def lT:KK:=mB Tryz.func114 [.v (.int .i64),.v (.int .i64),.v (.int .i64)] [.bool] [] nP (cJ,()) λ_=>fP pr pr
def W8(x0:Int):Bool:=cJ x0 0 20000
def bH1:KK:=mB Tryz.func192 [.v (.int .i64)] [.bool] [lT] nP (W8,()) λ_=>bS pr
def d81:jB:=D0 aHo [.v (.sl dX)] [.bool] [lT,bH1]
mutual
def R81:Nat->Γ c7->Γ aS->Prop
 | 0,_,_=>False
 | n+1,x0,ds=>Sn n 0 x0 ds
def Sn:Nat->Int->Γ c7->Γ aS->Prop
 | 0,_,_,_=>False
 | n+1,v3,x0,ds=>if decide (v3<(x0.length:Int))then 0<=v3/\v3<(x0.length:Int)/\if !cJ (aD x0 (aE v3) (0,0,0,())).1 1 4 then ds=[aJ .bool false] else if !cJ (aD x0 (aE v3) (0,0,0,())).2.1 0 1000 then ds=[aJ .bool false] else if !W8 (aD x0 (aE v3) (0,0,0,())).2.2.1 then ds=[aJ .bool false] else bA .i64 (v3+1)/\Sn n (v3+1) x0 ds else ds=[aJ .bool (decide ((x0.length:Int)<=8))]
end
def bH2(ds:Γ aS)(K:gU)(q:Nat->Value):∀n,(∀ {x0},R81 n x0 ds->St d81 (x0,()) ds [] K q)/\(∀ {v3 x0},Sn n v3 x0 ds->Cu d81 2 ([eL 0 dX x0,eI 3 v3],[]) ds [] K q):=nI ⟨aH,aH⟩ λn ⟨i,i2⟩=>⟨cX i2,
  bU (eE<|bS<|bU (j0<|j0 dR)<|bS<|bU (j0 dR)<|bS<|bU dR<|aO<|cX i2) dR⟩
def Od(x:c7):Bool:=cJ x.1 1 4&&cJ x.2.1 0 1000&&W8 x.2.2.1
def CP(x0:Γ c7):Bool:=x0.all Od&&decide (x0.length<=8)
theorem aPK(n i:Nat)(x0:Γ c7)(hm:x0.length<=maxLen)(hi:i<x0.length)(ds:Γ aS)
  (h:if Od (x0.getD i ((0:Int),(0:Int),(0:Int),()))=true then Sn n ((i:Int)+1) x0 ds else ds=[⟨.bool,false⟩]):Sn (n+1) (i:Int) x0 ds:=by
 rw[Sn,π (by simp;omega)];simp only[aI];refine⟨by omega,by omega,?_⟩;have hu:=jZ hm hi;unfold Od at h;by_cases h1:cJ (x0.getD i ((0:Int),(0:Int),(0:Int),())).1 1 4=true
 case neg=>rw[Dm h1]at h;rw[π (by rw[Dm h1]<;>rfl)];simpa using h
 rw[ν (by rw[h1];simp)];by_cases h2:cJ (x0.getD i ((0:Int),(0:Int),(0:Int),())).2.1 0 1000=true
 case neg=>rw[h1,Dm h2]at h;rw[π (by rw[Dm h2]<;>rfl)];simpa using h
 rw[ν (by rw[h2];simp)];by_cases h3:W8 (x0.getD i ((0:Int),(0:Int),(0:Int),())).2.2.1=true
 case neg=>rw[h1,h2,Dm h3]at h;rw[π (by rw[Dm h3]<;>rfl)];simpa using h
 rw[ν (by rw[h3];simp)];rw[h1,h2,h3]at h;exact⟨hu,by simpa using h⟩
theorem bH3(x0:Γ c7)(hw:x0.length<=maxLen):R81 (x0.length+1+1) x0 [⟨.bool,CP x0⟩]:=by
 rw[R81];have key:=tG x0 ((0:Int),(0:Int),(0:Int),()) Od [(⟨.bool,false⟩:aS)] [⟨.bool,decide (x0.length<=8)⟩] (λn i ds=>Sn n i x0 ds) (λn=>?_) (λn i hi hok ds hr=>?_) (λn i hi hok=>?_)
 ·unfold CP;cases h:x0.all Od <;> rw[h]at key <;> simpa using key
 ·rw[Sn,ν (by simp)];simp only[aS.mk.injEq,heq_eq_eq,true_and,List.cons.injEq,and_true]
  congr 1
  exact propext ⟨λh=>by omega,λh=>by omega⟩
 ·exact aPK n i x0 hw hi ds (by rw[π hok];exact hr)
 ·exact aPK n i x0 hw hi _ (by rw[ν (by rw[hok];simp)])
def bA7:KK:=mL d81 (DO aHo) nP (CP,()) (λ⟨x0,_⟩ h hwf K q =>
 (bH2 _ K q _).1 (bH3 x0 hwf.1.1))
def ED(x0:c7):Bool:=if cJ x0.1 0 1000 then(if cJ x0.2.1 (-400) 500 then cJ x0.2.2.1 0 1000 else false)else false
def aWy:KK:=mB Tryz.func101 [.p dX] [.bool] [lT] nP (ED,()) λ_=>bS<|fP (bS<|fP (bS pr) pr)<|dN pr
def d82:jB:=D0 aHp [.v (.sl dX)] [.bool] [aWy]
mutual
def R82:Nat->Γ c7->Γ aS->Prop
 | 0,_,_=>False
 | n+1,x0,ds=>W9 n 0 x0 ds
def W9:Nat->Int->Γ c7->Γ aS->Prop
 | 0,_,_,_=>False
 | n+1,v3,x0,ds=>if decide (v3<(x0.length:Int))then 0<=v3/\v3<(x0.length:Int)/\if !ED (aD x0 (aE v3) (0,0,0,()))then ds=[aJ .bool false] else bA .i64 (v3+1)/\W9 n (v3+1) x0 ds else ds=[aJ .bool (decide ((x0.length:Int)<=48))]
end
def bH4(ds:Γ aS)(K:gU)(q:Nat->Value):∀n,(∀ {x0},R82 n x0 ds->St d82 (x0,()) ds [] K q)/\(∀ {v3 x0},W9 n v3 x0 ds->Cu d82 2 ([eL 0 dX x0,eI 3 v3],[]) ds [] K q):=nI ⟨aH,aH⟩ λn ⟨i,i2⟩=>⟨cX i2,
  bU (eE<|bS<|bU dR<|aO<|cX i2) dR⟩
def Wa(x0:Γ c7):Bool:=x0.all ED&&decide (x0.length<=48)
theorem bH5(x0:Γ c7)(hw:Wf (.sl dX) x0):R82 (x0.length+1+1) x0 [⟨.bool,Wa x0⟩]:=by
 rw[R82];have key:=tG x0 ((0:Int),(0:Int),(0:Int),()) ED [(⟨.bool,false⟩:aS)] [⟨.bool,decide (x0.length<=48)⟩] (λn i ds=>W9 n i x0 ds) (λn=>?_) (λn i hi hok ds hr=>?_) (λn i hi hok=>?_)
 ·unfold Wa;cases h:x0.all ED <;> rw[h]at key <;> simpa using key
 ·rw[W9,ν (by simp)];simp only[aS.mk.injEq,heq_eq_eq,true_and,List.cons.injEq,and_true]
  congr 1
  exact propext ⟨λh=>by omega,λh=>by omega⟩
 ·rw[W9,π (by simp;omega)];simp only[aI];refine⟨by omega,by omega,?_⟩;rw[ν (by rw[hok];simp)];exact⟨jZ hw.1 hi,hr⟩
 ·rw[W9,π (by simp;omega)];simp only[aI];refine⟨by omega,by omega,?_⟩;rw[π (by rw[hok];simp)] <;> trivial
def bH6:KK:=mL d82 (DO aHp) nP (Wa,()) (λ⟨x0,_⟩ h hwf K q =>
 (bH4 _ K q _).1 (bH5 x0 hwf.1))
def aPL(x0:c7)(x1:Int):Prop:=if x1==1 then True else if x1==2 then True else if x1==3 then True else bA .i64 (0-x0.2.1)/\True
def Wb(x0:c7)(x1:Int):Bool:=if x1==1 then(if decide (x0.1>0)then decide (x0.2.1>10)else false)else if x1==2 then(if decide (x0.1>0)then decide (x0.2.1<=10)else false)else if x1==3 then decide (x0.2.2.1>150)else decide (x0.2.1 < -100)
def Wc(x0:c7)(x1:Int):Int:=if x1==1 then(if decide (x0.1>0)then x0.1 else x0.1)else if x1==2 then(if decide (x0.1>0)then x0.1 else x0.1)else if x1==3 then x0.2.2.1 else 0-x0.2.1
def bH7:KK:=mB Tryz.func193 [.p dX,.v (.int .i64)] [.bool,.int .i64] [] aPL (Wb,Wc,()) λ_=>dP (vD pr pr)<|dP (vD pr pr)<|dP pr<|aO pr
def EE(x0:Int)(x1:Int):Int:=if decide (x0<x1)then x0 else x1
def aWz:KK:=mB Tryz.func194 [.v (.int .i64),.v (.int .i64)] [.int .i64] [] nP (EE,()) λ_=>fP pr pr
def d83:jB:=D0 aHq [.v (.sl dX),.p dX,.v (.int .i64)] [.int .i64] [bH7,aWz]
mutual
def R83:Nat->Γ c7->Int×Int×Int×Unit->Int->Γ aS->Prop
 | 0,_,_,_,_=>False
 | n+1,x0,x1,x2,ds=>So n 0 x0 x1 x2 ds
def So:Nat->Int->Γ c7->Int×Int×Int×Unit->Int->Γ aS->Prop
 | 0,_,_,_,_,_=>False
 | n+1,v7,x0,x1,x2,ds=>if decide (v7<(x0.length:Int))then 0<=v7/\v7<(x0.length:Int)/\aPL x1 (aD x0 (aE v7) (0,0,0,())).1/\if Wb x1 (aD x0 (aE v7) (0,0,0,())).1 then 0<=v7/\v7<(x0.length:Int)/\if decide (Wc x1 (aD x0 (aE v7) (0,0,0,())).1>(aD x0 (aE v7) (0,0,0,())).2.1)then 0<=v7/\v7<(x0.length:Int)/\bA .i64 (v7+1)/\So n (v7+1) x0 x1 (EE x2 (aD x0 (aE v7) (0,0,0,())).2.2.1) ds else bA .i64 (v7+1)/\So n (v7+1) x0 x1 x2 ds else bA .i64 (v7+1)/\So n (v7+1) x0 x1 x2 ds else ds=[aJ (.int .i64) x2]
end
def bH8(ds:Γ aS)(K:gU)(q:Nat->Value):∀n,(∀ {x0 x1 x2},R83 n x0 x1 x2 ds->St d83 (x0,x1,x2,()) ds [] K q)/\(∀ {v7 x0 x1 x2},So n v7 x0 x1 x2 ds->Cu d83 2 ([eL 0 dX x0,(1,.a (.ptr dX x1)),eI 2 x2,eI 7 v7],[]) ds [] K q):=nI ⟨aH,aH⟩ λn ⟨i,i2⟩=>⟨cX i2,
  bU (eE<|aO<|bU (eE<|bU (eE<|bS<|aO<|cX i2)<|aO<|cX i2)<|dN<|aO<|cX i2) dR⟩
def aNl(x1:Se)(s:Int)(l:Se):Int:=if Wb x1 l.1=true then(if decide (Wc x1 l.1>l.2.1)=true then EE s l.2.2.1 else s)else s
def aKI(x0:Γ Se)(x1:Se)(x2:Int):Int:=x0.foldl (aNl x1) x2
def P83(x0:Γ Se)(x1:Se)(x2:Int):Prop:=∀l∈x0,aPL x1 l.1
theorem bH9(x0:Γ Se)(x1:Se)(hm:x0.length<=maxLen)(hp:∀l∈x0,aPL x1 l.1):∀(k i:Nat) (s:Int),i+k=x0.length->So (k+1) (i:Int) x0 x1 s [⟨.int .i64,(x0.drop i).foldl (aNl x1) s⟩]:=by
 intro k
 induction k with
 | zero =>
  intro i s hi;rw[So,ν (by simp only[ε];omega),bT (by omega)]<;>rfl
 | succ k ih =>
  intro i s hi;have hlt:i<x0.length:=by omega
  have hu:=jZ hm hlt;have e3:(i:Int)+1=((i+1:Nat):Int):=by omega
  have hx:=hp _ (bY x0 i (0,0,0,()) hlt);rw[e3]at hu;rw[So,π (by simp only[ε];omega),eD x0 i (0,0,0,()) hlt,fR,e3,aI];generalize x0.getD i (0,0,0,())=l at *;refine⟨by omega,by omega,hx,?_⟩;unfold aNl;by_cases c:Wb x1 l.1=true
  ·refine(π c).mpr ⟨by omega,by omega,?_⟩;rw[π c];by_cases d:decide (Wc x1 l.1>l.2.1)=true
   ·refine(π d).mpr ⟨by omega,by omega,hu,?_⟩;rw[π d];exact ih (i+1) _ (by omega)
   ·refine(ν d).mpr ⟨hu,?_⟩;rw[ν d];exact ih (i+1) _ (by omega)
  ·refine(ν c).mpr ⟨hu,?_⟩;rw[ν c];exact ih (i+1) _ (by omega)
def bMh:KK:=mL d83 (DO aHq) P83 (aKI,()) (λ⟨x0,x1,x2,_⟩ h hwf K q =>
 (bH8 _ K q ((x0.length+2))).1 (by rw[R83];exact bH9 x0 x1 hwf.1.1 h x0.length 0 x2 (by omega)))
def EF(x0:Int×Int×Int×Int×Unit):Bool:=if cJ x0.1 1000 4000000 then(if cJ x0.2.1 100 20000 then(if cJ x0.2.2.1 6 400 then cJ x0.2.2.2.1 1000 10000000 else false)else false)else false
def aPM:KK:=mB Tryz.func100 [.p YA3] [.bool] [lT] nP (EF,()) λ_=>bS<|fP (bS<|fP (bS<|fP (bS pr) pr)<|dN pr)<|dN<|dN pr
def EG(x0:c7):Bool:=if cJ x0.1 1000 10000000 then(if cJ x0.2.1 100 1000000 then cJ x0.2.2.1 0 500 else false)else false
def aPN:KK:=mB Tryz.func102 [.p dX] [.bool] [lT] nP (EG,()) λ_=>bS<|fP (bS<|fP (bS pr) pr)<|dN pr
def EH(x0:Int×Int×Int×Int×Unit):Bool:=if cJ x0.1 1 20000 then(if cJ x0.2.1 1 1000 then(if cJ x0.2.2.1 0 10000000 then cJ x0.2.2.2.1 0 1000 else false)else false)else false
def aPO:KK:=mB Tryz.func105 [.p YA3] [.bool] [lT] nP (EH,()) λ_=>bS<|fP (bS<|fP (bS<|fP (bS pr) pr)<|dN pr)<|dN<|dN pr
def An(x0:c7):Bool:=if x0.1==0 then(if x0.2.1==0 then x0.2.2.1==0 else false)else if x0.1==2 then(if x0.2.1==0 then x0.2.2.1==0 else false)else if x0.1==1 then(if cJ x0.2.1 0 2 then cJ x0.2.2.1 0 3 else false)else if x0.1==3 then(if cJ x0.2.1 0 2 then cJ x0.2.2.1 0 3 else false)else false
def aPP:KK:=mB Tryz.func203 [.p dX] [.bool] [lT] nP (An,()) λ_=>fP (j0<|fP pr pr)<|fP (fP pr pr)<|fP (j0<|bS<|fP (bS pr) pr)<|fP (bS<|fP (bS pr) pr)<|dN pr
def uE(x0:Int):Bool:=if decide (x0>=97)then decide (x0<=122)else false
def bHA:KK:=mB Tryz.func315 [.v (.int .u8)] [.bool] [] nP (uE,()) λ_=>fP pr pr
def uF(x0:Int):Bool:=if decide (x0>=48)then decide (x0<=57)else false
def aPQ:KK:=mB Tryz.func115 [.v (.int .u8)] [.bool] [] nP (uF,()) λ_=>fP pr pr
def bA8:jB:=D0 aDN [.v (.str)] [.bool] [bHA,aPQ]
mutual
def bA9:Nat->Δ->Γ aS->Prop
 | 0,_,_=>False
 | n+1,x0,ds=>if aB x0==aB (aA #[])then ds=[aJ .bool false] else if decide ((↑(aG x0):Int)>10)then ds=[aJ .bool false] else 0<(↑(aG x0):Int)/\if !uE (↑(cR (aD (cE (bO x0)) 0 0)):Int)then ds=[aJ .bool false] else GS n 0 x0 ds
def GS:Nat->Int->Δ->Γ aS->Prop
 | 0,_,_,_=>False
 | n+1,v3,x0,ds=>if decide (v3<(↑(aG x0):Int))then 0<=v3/\v3<(↑(aG x0):Int)/\if !uE (↑(cR (aD (cE (bO x0)) (aE v3) 0)):Int)then 0<=v3/\v3<(↑(aG x0):Int)/\if !uF (↑(cR (aD (cE (bO x0)) (aE v3) 0)):Int)then ds=[aJ .bool false] else bA .i64 (v3+1)/\GS n (v3+1) x0 ds else bA .i64 (v3+1)/\GS n (v3+1) x0 ds else ds=[aJ .bool true]
end
def bAA(ds:Γ aS)(K:gU)(q:Nat->Value):∀n,(∀ {x0},bA9 n x0 ds->St bA8 (x0,()) ds [] K q)/\(∀ {v3 x0},GS n v3 x0 ds->Cu bA8 4 ([eS 0 x0,eI 3 v3],[]) ds [] K q):=nI ⟨aH,aH⟩ λn ⟨i,i4⟩=>⟨bU (j0<|j0 dR)<|bU (j0 dR)<|pq 0<|aO<|bS<|bU dR<|cX i4,
  bU (eE<|bS<|bU (eE<|bS<|bU dR<|aO<|cX i4)<|dN<|aO<|cX i4) dR⟩
def zP(x0:Δ):Bool:=decide (1<=x0.size)&&decide (x0.size<=10)&&uE ((b9 x0).getD 0 0)&&(b9 x0).all λb=>uE b||uF b
theorem bAB(x0:Δ)(hw:Wf .str x0):bA9 (x0.size+1+1) x0 [⟨.bool,zP x0⟩]:=by
 have hl:=sF x0;rw[bA9];by_cases h0:x0=aA #[]
 ·rw[π ((bE _ _).2 h0)];subst h0;rfl
 ·rw[ν (λh=>h0 ((bE _ _).1 h))];have hs:1<=x0.size:=by
   rcases kJ 0 x0.size with h | h
   ·exact h
   ·exact absurd (aFj (s:=x0) (t:=aA #[]) (List.eq_nil_of_length_eq_zero (by rw[hl];omega))) h0
  by_cases h1:(x0.size:Int)>10
  ·rw[π (by simpa using h1)];have:¬x0.size<=10:=by omega
   simp[zP,this]
  ·rw[ν (by simpa using h1)];refine⟨by omega,?_⟩;rw[I5];cases h2:uE ((b9 x0).getD 0 0)with
   | false =>
    rw[π (by simp)];simp[zP,h2, -bC]
   | true =>
    rw[ν (by simp)];have key:=tG (b9 x0) 0 (λb=>uE b||uF b) [(⟨.bool,false⟩:aS)] [⟨.bool,true⟩] (λn i ds=>GS n i x0 ds) (λn=>?_) (λn i hi hok ds hr=>?_) (λn i hi hok=>?_)
    ·rw[hl]at key;have e:zP x0=(b9 x0).all λb=>uE b||uF b:=by
      have:x0.size<=10:=by omega
      unfold zP;simp only[hs,this,decide_true,Bool.true_and,h2]
     rw[e];cases h:(b9 x0).all λb=>uE b||uF b with
     | true=>rw[π h]at key;exact key
     | false=>rw[ν (by rw[h];simp)]at key;exact key
    ·show GS (n+1) ((b9 x0).length:Int) x0 _;rw[GS,hl,ν (by simp)]
    ·rw[GS,π (by simp;omega)];simp only[aI,I5];generalize (b9 x0).getD i 0=c at *;refine⟨by omega,by omega,?_⟩;have hu:=jZ (xs:=b9 x0) (by rw[hl];exact hw) hi;cases h3:uE c with
     | true=>rw[ν (by simp)];exact⟨hu,hr⟩
     | false =>
      rw[π (by simp)];rw[h3,Bool.false_or]at hok;refine⟨by omega,by omega,?_⟩;rw[ν (by rw[hok];simp)];exact⟨hu,hr⟩
    ·simp only[Bool.or_eq_false_iff]at hok;rw[GS,π (by simp;omega)];simp only[aI,I5];refine⟨by omega,by omega,?_⟩;rw[π (by rw[hok.1];rfl)];refine⟨by omega,by omega,?_⟩;rw[π (by rw[hok.2];rfl)] <;> trivial
def aFK:KK:=mL bA8 (DO aDN) nP (zP,()) (λ⟨x0,_⟩ h hwf K q =>
 (bAA _ K q _).1 (bAB x0 hwf.1))
def aPR(x0:Int):Bool:=cJ x0 0 200
def bHB:KK:=mB Tryz.func206 [.v (.int .i64)] [.bool] [lT] nP (aPR,()) λ_=>bS pr
def Sp(x0:eR):Bool:=if zP x0.1 then(if cJ x0.2.1 10000 10000000 then(if cJ x0.2.2.1 1000 1000000 then aPR x0.2.2.2.1 else false)else false)else false
def bHC:KK:=mB Tryz.func97 [.p fQ] [.bool] [aFK,lT,bHB] nP (Sp,()) λ_=>bS<|fP (bS<|fP (bS<|fP (bS pr) pr)<|dN pr)<|dN<|dN pr
def cI{α:Type}(x y:Δ×α):Bool:=bK (aB x.1) (aB y.1)
def RW{α:Type}(e:α)(g:α->Bool)(b:α->α->Bool)(k:Nat):Nat->Int->Γ α->Γ aS->Prop
 | 0,_,_,_=>False
 | n+1,v,x0,ds=>if decide (v<(x0.length:Int))then 0<=v/\v<(x0.length:Int)/\if !g (aD x0 (aE v) e)then ds=[aJ .bool false] else if decide (v>0)then bA .i64 (v-1)/\0<=v-1/\v-1<(x0.length:Int)/\0<=v/\v<(x0.length:Int)/\if !b (aD x0 (aE (v-1)) e) (aD x0 (aE v) e)then ds=[aJ .bool false] else bA .i64 (v+1)/\RW e g b k n (v+1) x0 ds else bA .i64 (v+1)/\RW e g b k n (v+1) x0 ds else ds=[aJ .bool (decide ((x0.length:Int)<=k))]
def RW0{α:Type}(e:α)(g:α->Bool)(b:α->α->Bool)(k:Nat):Nat->Γ α->Γ aS->Prop
 | 0,_,_=>False
 | n+1,x0,ds=>RW e g b k n 0 x0 ds
theorem aPS{α:Type}{e:α}{g:α->Bool}{b:α->α->Bool}{k:Nat}{x0:Γ α}(hw:x0.length<=maxLen):RW0 e g b k (x0.length+1+1) x0 [⟨.bool,nL (λi x=>g x&&(i==0||b (x0.getD (i-1) e) x)) 0 x0&&decide (x0.length<=k)⟩]:=by
 rw[RW0]
 have st:∀n i,i<x0.length->∀ds,(if(g (x0.getD i e)&&(i==0||b (x0.getD (i-1) e) (x0.getD i e)))=true then RW e g b k n ((i:Int)+1) x0 ds else ds=[⟨.bool,false⟩])->RW e g b k (n+1) (i:Int) x0 ds:=by
  intro n i hi ds h;have hu:=jZ hw hi
  rw[RW,π (by simp;omega)];refine⟨by omega,by omega,?_⟩;simp only[aI]
  cases h1:g (x0.getD i e) <;> rw[h1]at h
  ·simpa using h
  ·rw[ν (by simp)];by_cases h0:(i:Int)>0
   ·have hi0:(i==0)=false:=by simp;omega
    have e:((i:Int)-1).toNat=i-1:=by omega
    rw[π (by simpa using h0)];refine⟨by rw[aK];unfold maxLen at hw;omega,by omega,by omega,by omega,by omega,?_⟩
    rw[e];rw[hi0]at h;split <;> simp_all
   ·have hi0:(i==0)=true:=by simp;omega
    rw[ν (by simpa using h0)];rw[hi0]at h;exact⟨hu,by simpa using h⟩
 have key:=y8 x0 e (λi x=>g x&&(i==0||b (x0.getD (i-1) e) x)) [(⟨.bool,false⟩:aS)] [⟨.bool,decide (x0.length<=k)⟩] (λn i ds=>RW e g b k n i x0 ds) (λn=>?_) (λn i hi hok ds hr=>?_) (λn i hi hok=>?_)
 ·cases h:nL (λi x=>g x&&(i==0||b (x0.getD (i-1) e) x)) 0 x0 <;> rw[h]at key <;> simpa using key
 ·rw[RW,ν (by simp)];congr 3;simp
 ·exact st n i hi ds (by rw[π hok];exact hr)
 ·exact st n i hi _ (by rw[ν (by rw[hok];simp)])
def bAD:jB:=D0 aDO [.v (.sl fQ)] [.bool] [bHC]
def bAE(ds:Γ aS)(K:gU)(q:Nat->Value):∀n,(∀ {x0},RW0 (aC,0,0,0,()) Sp cI 12 n x0 ds->St bAD (x0,()) ds [] K q)/\(∀ {v3 x0},RW (aC,0,0,0,()) Sp cI 12 n v3 x0 ds->Cu bAD 2 ([eL 0 fQ x0,eI 3 v3],[]) ds [] K q):=nI ⟨aH,aH⟩ λn ⟨i,i2⟩=>⟨cX i2,
  bU (eE<|bS<|bU (j0 dR)<|bU (aO<|eE<|eE<|bU dR<|aO<|cX i2)<|dN<|aO<|cX i2) dR⟩
def aW0(x0:Γ eR)(i:Nat)(x:eR):Bool :=
 Sp x&&(i==0||bK (aB (x0.getD (i-1) (aC,(0:Int),(0:Int),(0:Int),())).1) (aB x.1))
def Wd(x0:Γ eR):Bool:=nL (aW0 x0) 0 x0&&decide (x0.length<=12)
def aW1:KK:=mL bAD (DO aDO) nP (Wd,()) (λ⟨x0,_⟩ h hwf K q =>
 (bAE _ K q _).1 (aPS hwf.1.1))
def JU(x0:Int):Bool:=cJ x0 0 1440
def aW2:KK:=mB Tryz.func208 [.v (.int .i64)] [.bool] [lT] nP (JU,()) λ_=>bS pr
def CR(x0:b6):Bool:=if zP x0.1 then(if JU x0.2.1 then(if JU x0.2.2.1 then decide (x0.2.1<x0.2.2.1)else false)else false)else false
def aW3:KK:=mB Tryz.func104 [.p eC] [.bool] [aFK,aW2] nP (CR,()) λ_=>bS<|fP (bS<|fP (bS<|fP pr pr)<|dN pr)<|dN<|dN pr
def bAF:jB:=D0 aDP [.v (.sl eC)] [.bool] [aW3]
def bAG(ds:Γ aS)(K:gU)(q:Nat->Value):∀n,(∀ {x0},RW0 (aC,0,0,()) CR cI 12 n x0 ds->St bAF (x0,()) ds [] K q)/\(∀ {v3 x0},RW (aC,0,0,()) CR cI 12 n v3 x0 ds->Cu bAF 2 ([eL 0 eC x0,eI 3 v3],[]) ds [] K q):=nI ⟨aH,aH⟩ λn ⟨i,i2⟩=>⟨cX i2,
  bU (eE<|bS<|bU (j0 dR)<|bU (aO<|eE<|eE<|bU dR<|aO<|cX i2)<|dN<|aO<|cX i2) dR⟩
def aW4(x0:Γ b6)(i:Nat)(x:b6):Bool :=
 CR x&&(i==0||bK (aB (x0.getD (i-1) (aC,(0:Int),(0:Int),())).1) (aB x.1))
def We(x0:Γ b6):Bool:=nL (aW4 x0) 0 x0&&decide (x0.length<=12)
def aW5:KK:=mL bAF (DO aDP) nP (We,()) (λ⟨x0,_⟩ h hwf K q =>
 (bAG _ K q _).1 (aPS hwf.1.1))
def JV(x0:eR):Bool:=if zP x0.1 then(if cJ x0.2.1 0 100000 then(if cJ x0.2.2.1 1 1000 then cJ x0.2.2.2.1 1 400 else false)else false)else false
def aW6:KK:=mB Tryz.func209 [.p fQ] [.bool] [aFK,lT] nP (JV,()) λ_=>bS<|fP (bS<|fP (bS<|fP (bS pr) pr)<|dN pr)<|dN<|dN pr
def bAH:jB:=D0 aDQ [.v (.sl fQ)] [.bool] [aW6]
def bAI(ds:Γ aS)(K:gU)(q:Nat->Value):∀n,(∀ {x0},RW0 (aC,0,0,0,()) JV cI 8 n x0 ds->St bAH (x0,()) ds [] K q)/\(∀ {v3 x0},RW (aC,0,0,0,()) JV cI 8 n v3 x0 ds->Cu bAH 2 ([eL 0 fQ x0,eI 3 v3],[]) ds [] K q):=nI ⟨aH,aH⟩ λn ⟨i,i2⟩=>⟨cX i2,
  bU (eE<|bS<|bU (j0 dR)<|bU (aO<|eE<|eE<|bU dR<|aO<|cX i2)<|dN<|aO<|cX i2) dR⟩
def aW7(x0:Γ eR)(i:Nat)(x:eR):Bool :=
 JV x&&(i==0||bK (aB (x0.getD (i-1) (aC,(0:Int),(0:Int),(0:Int),())).1) (aB x.1))
def Wg(x0:Γ eR):Bool:=nL (aW7 x0) 0 x0&&decide (x0.length<=8)
def aW8:KK:=mL bAH (DO aDQ) nP (Wg,()) (λ⟨x0,_⟩ h hwf K q =>
 (bAI _ K q _).1 (aPS hwf.1.1))
def My(x0:Int):Bool:=cJ x0 0 36524
def aPT:KK:=mB Tryz.func119 [.v (.int .i64)] [.bool] [lT] nP (My,()) λ_=>bS pr
def RB(x0:Int):Bool:=cJ x0 0 24000
def aW9:KK:=mB Tryz.func232 [.v (.int .i64)] [.bool] [lT] nP (RB,()) λ_=>bS pr
def vS(x0:c7):Bool:=if My x0.1 then(if RB x0.2.1 then cJ x0.2.2.1 0 1000 else false)else false
def aPU:KK:=mB Tryz.func211 [.p dX] [.bool] [aPT,aW9,lT] nP (vS,()) λ_=>bS<|fP (bS<|fP (bS pr) pr)<|dN pr
def bAJ:jB:=D0 aDR [.v (.sl dX)] [.bool] [aPU]
mutual
def bAK:Nat->Γ c7->Γ aS->Prop
 | 0,_,_=>False
 | n+1,x0,ds=>GT n 0 x0 ds
def GT:Nat->Int->Γ c7->Γ aS->Prop
 | 0,_,_,_=>False
 | n+1,v3,x0,ds=>if decide (v3<(x0.length:Int))then 0<=v3/\v3<(x0.length:Int)/\if !vS (aD x0 (aE v3) (0,0,0,()))then ds=[aJ .bool false] else if decide (v3>0)then bA .i64 (v3-1)/\0<=v3-1/\v3-1<(x0.length:Int)/\0<=v3/\v3<(x0.length:Int)/\if decide ((aD x0 (aE (v3-1)) (0,0,0,())).1>=(aD x0 (aE v3) (0,0,0,())).1)then ds=[aJ .bool false] else bA .i64 (v3-1)/\0<=v3-1/\v3-1<(x0.length:Int)/\0<=v3/\v3<(x0.length:Int)/\if decide ((aD x0 (aE (v3-1)) (0,0,0,())).2.1>(aD x0 (aE v3) (0,0,0,())).2.1)then ds=[aJ .bool false] else bA .i64 (v3-1)/\0<=v3-1/\v3-1<(x0.length:Int)/\0<=v3/\v3<(x0.length:Int)/\if decide ((aD x0 (aE (v3-1)) (0,0,0,())).2.2.1>(aD x0 (aE v3) (0,0,0,())).2.2.1)then ds=[aJ .bool false] else bA .i64 (v3+1)/\GT n (v3+1) x0 ds else bA .i64 (v3+1)/\GT n (v3+1) x0 ds else ds=[aJ .bool true]
end
def bAL(ds:Γ aS)(K:gU)(q:Nat->Value):∀n,(∀ {x0},bAK n x0 ds->St bAJ (x0,()) ds [] K q)/\(∀ {v3 x0},GT n v3 x0 ds->Cu bAJ 2 ([eL 0 dX x0,eI 3 v3],[]) ds [] K q):=nI ⟨aH,aH⟩ λn ⟨i,i2⟩=>⟨cX i2,
  bU (eE<|bS<|bU dR<|bU (aO<|eE<|eE<|bU (j0<|j0 dR)<|aO<|eE<|eE<|bU (j0 dR)<|aO<|eE<|eE<|bU dR<|aO<|cX i2)<|dN<|aO<|cX i2) dR⟩
def aAi(x0:Γ c7)(i:Nat)(x:c7):Bool:=vS x&&(i==0||aIw (x0.getD (i-1) ((0:Int),(0:Int),(0:Int),())) x)
def JW(x0:Γ c7):Bool:=nL (aAi x0) 0 x0
theorem aKJ(n i:Nat)(x0:Γ c7)(hm:x0.length<=maxLen)(hi:i<x0.length)(ds:Γ aS)
  (h:if aAi x0 i (x0.getD i ((0:Int),(0:Int),(0:Int),()))=true then GT n ((i:Int)+1) x0 ds else ds=[⟨.bool,false⟩]):GT (n+1) (i:Int) x0 ds:=by
 have hu:=jZ hm hi;have hmx:maxLen<=9223372036854775807:=by decide
 rw[GT,π (by simp;omega)];refine⟨by omega,by omega,?_⟩;simp only[aI];unfold aAi aIw at h;by_cases hv:vS (x0.getD i ((0:Int),(0:Int),(0:Int),()))=true
 case neg=>rw[Dm hv]at h;rw[π (by rw[Dm hv]<;>rfl)];simpa using h
 rw[ν (by rw[hv];simp)];rw[hv]at h;by_cases h0:(i:Int)>0
 case neg =>
  rw[ν (by simpa using h0)];have hi0:(i==0)=true:=by simp;omega
  rw[hi0]at h;exact⟨hu,by simpa using h⟩
 rw[π (by simpa using h0)];have hi0:(i==0)=false:=by simp;omega
 have e:((i:Int)-1).toNat=i-1:=by omega
 have hd:bA .i64 ((i:Int)-1):=by rw[aK];omega
 rw[hi0]at h;simp only[e];refine⟨hd,by omega,by omega,by omega,by omega,?_⟩;by_cases c0:(x0.getD (i-1) ((0:Int),(0:Int),(0:Int),())).1>=(x0.getD i ((0:Int),(0:Int),(0:Int),())).1
 case pos =>
  rw[π (decide_eq_true c0)];have:decide ((x0.getD (i-1) ((0:Int),(0:Int),(0:Int),())).1<(x0.getD i ((0:Int),(0:Int),(0:Int),())).1)=false:=decide_eq_false (by omega);rw[this]at h;simpa using h
 rw[ν (by simpa using c0)];refine⟨hd,by omega,by omega,by omega,by omega,?_⟩;by_cases c1:(x0.getD (i-1) ((0:Int),(0:Int),(0:Int),())).2.1>(x0.getD i ((0:Int),(0:Int),(0:Int),())).2.1
 case pos =>
  rw[π (decide_eq_true c1)];have:decide ((x0.getD (i-1) ((0:Int),(0:Int),(0:Int),())).2.1<=(x0.getD i ((0:Int),(0:Int),(0:Int),())).2.1)=false:=decide_eq_false (by omega);rw[this]at h;simpa using h
 rw[ν (by simpa using c1)];refine⟨hd,by omega,by omega,by omega,by omega,?_⟩;by_cases c2:(x0.getD (i-1) ((0:Int),(0:Int),(0:Int),())).2.2.1>(x0.getD i ((0:Int),(0:Int),(0:Int),())).2.2.1
 case pos =>
  rw[π (decide_eq_true c2)];have:decide ((x0.getD (i-1) ((0:Int),(0:Int),(0:Int),())).2.2.1<=(x0.getD i ((0:Int),(0:Int),(0:Int),())).2.2.1)=false:=decide_eq_false (by omega);rw[this]at h;simpa using h
 rw[ν (by simpa using c2)];have d0:decide ((x0.getD (i-1) ((0:Int),(0:Int),(0:Int),())).1<(x0.getD i ((0:Int),(0:Int),(0:Int),())).1)=true:=decide_eq_true (by omega);have d1:decide ((x0.getD (i-1) ((0:Int),(0:Int),(0:Int),())).2.1<=(x0.getD i ((0:Int),(0:Int),(0:Int),())).2.1)=true:=decide_eq_true (by omega);have d2:decide ((x0.getD (i-1) ((0:Int),(0:Int),(0:Int),())).2.2.1<=(x0.getD i ((0:Int),(0:Int),(0:Int),())).2.2.1)=true:=decide_eq_true (by omega);rw[d0,d1,d2]at h;exact⟨hu,by simpa using h⟩
theorem bAM(x0:Γ c7)(hw:x0.length<=maxLen):bAK (x0.length+1+1) x0 [⟨.bool,JW x0⟩]:=by
 rw[bAK];have key:=y8 x0 ((0:Int),(0:Int),(0:Int),()) (aAi x0) [(⟨.bool,false⟩:aS)] [⟨.bool,true⟩] (λn i ds=>GT n i x0 ds) (λn=>?_) (λn i hi hok ds hr=>?_) (λn i hi hok=>?_)
 ·unfold JW;cases h:nL (aAi x0) 0 x0 with
  | true=>rw[π h]at key;simpa using key
  | false=>rw[ν (by rw[h];simp)]at key;simpa using key
 ·rw[GT,ν (by simp)]
 ·exact aKJ n i x0 hw hi ds (by rw[π hok];exact hr)
 ·exact aKJ n i x0 hw hi _ (by rw[ν (by rw[hok];simp)])
def aWA:KK:=mL bAJ (DO aDR) nP (JW,()) (λ⟨x0,_⟩ h hwf K q =>
 (bAL _ K q _).1 (bAM x0 hwf.1.1))
def wF(x0:Γ c7):Bool:=if decide ((x0.length:Int)<=24)then JW x0 else false
def aTI:KK:=mB Tryz.func90 [.v (.sl dX)] [.bool] [aWA] nP (wF,()) λ_=>fP (bS pr) pr
def aJm(x0:Int):Bool:=cJ x0 0 7
def aWB:KK:=mB Tryz.func311 [.v (.int .i64)] [.bool] [lT] nP (aJm,()) λ_=>bS pr
def aJn(x0:Int):Bool:=cJ x0 0 1000
def aWC:KK:=mB Tryz.func312 [.v (.int .i64)] [.bool] [lT] nP (aJn,()) λ_=>bS pr
def JX(x0:b6):Bool:=if zP x0.1 then(if aJm x0.2.1 then aJn x0.2.2.1 else false)else false
def aWD:KK:=mB Tryz.func195 [.p eC] [.bool] [aFK,aWB,aWC] nP (JX,()) λ_=>bS<|fP (bS<|fP (bS pr) pr)<|dN pr
def d85:jB:=D0 aHr [.v (.sl eC)] [.bool] [aWD]
def bHD(ds:Γ aS)(K:gU)(q:Nat->Value):∀n,(∀ {x0},RW0 (aC,0,0,()) JX cI 10 n x0 ds->St d85 (x0,()) ds [] K q)/\(∀ {v3 x0},RW (aC,0,0,()) JX cI 10 n v3 x0 ds->Cu d85 2 ([eL 0 eC x0,eI 3 v3],[]) ds [] K q):=nI ⟨aH,aH⟩ λn ⟨i,i2⟩=>⟨cX i2,
  bU (eE<|bS<|bU (j0 dR)<|bU (aO<|eE<|eE<|bU dR<|aO<|cX i2)<|dN<|aO<|cX i2) dR⟩
def bHE(x0:Γ b6)(i:Nat)(x:b6):Bool :=
 JX x&&(i==0||bK (aB (x0.getD (i-1) (aC,(0:Int),(0:Int),())).1) (aB x.1))
def aFL(x0:Γ b6):Bool:=nL (bHE x0) 0 x0&&decide (x0.length<=10)
def bHF:KK:=mL d85 (DO aHr) nP (aFL,()) (λ⟨x0,_⟩ h hwf K q =>
 (bHD _ K q _).1 (aPS hwf.1.1))
def aWE:KK:=mB Tryz.func196 [.p eC] [.bool] [aFK,aWB,aWC] nP (JX,()) λ_=>bS<|fP (bS<|fP (bS pr) pr)<|dN pr
def d86:jB:=D0 aHs [.v (.sl eC)] [.bool] [aWE]
def bHG(ds:Γ aS)(K:gU)(q:Nat->Value):∀n,(∀ {x0},RW0 (aC,0,0,()) JX cI 8 n x0 ds->St d86 (x0,()) ds [] K q)/\(∀ {v3 x0},RW (aC,0,0,()) JX cI 8 n v3 x0 ds->Cu d86 2 ([eL 0 eC x0,eI 3 v3],[]) ds [] K q):=nI ⟨aH,aH⟩ λn ⟨i,i2⟩=>⟨cX i2,
  bU (eE<|bS<|bU (j0 dR)<|bU (aO<|eE<|eE<|bU dR<|aO<|cX i2)<|dN<|aO<|cX i2) dR⟩
def aFM(x0:Γ b6):Bool:=nL (bHE x0) 0 x0&&decide (x0.length<=8)
def bHI:KK:=mL d86 (DO aHs) nP (aFM,()) (λ⟨x0,_⟩ h hwf K q =>
 (bHG _ K q _).1 (aPS hwf.1.1))
def Wh(x0:bV):Bool:=if Wd x0.1 then(if EF x0.2.1 then(if Wa x0.2.2.1 then(if CP x0.2.2.2.1 then(if EG x0.2.2.2.2.1 then(if An x0.2.2.2.2.2.1 then(if We x0.2.2.2.2.2.2.1 then(if EH x0.2.2.2.2.2.2.2.1 then(if Wg x0.2.2.2.2.2.2.2.2.1 then(if wF x0.2.2.2.2.2.2.2.2.2.1 then(if aFL x0.2.2.2.2.2.2.2.2.2.2.1 then aFM x0.2.2.2.2.2.2.2.2.2.2.2.1 else false)else false)else false)else false)else false)else false)else false)else false)else false)else false)else false
def bMk:KK:=mB Tryz.func95 [.p iU] [.bool] [aW1,aPM,bH6,bA7,aPN,aPP,aW5,aPO,aW8,aTI,bHF,bHI] nP (Wh,()) λ_=>bS<|fP (bS<|fP (bS<|fP (bS<|fP (bS<|fP (bS<|fP (bS<|fP (bS<|fP (bS<|fP (bS<|fP (bS<|fP (bS pr) pr)<|dN pr)<|dN<|dN pr)<|dN<|dN<|dN pr)<|dN<|dN<|dN<|dN pr)<|dN<|dN<|dN<|dN<|dN pr)<|dN<|dN<|dN<|dN<|dN<|dN pr)<|dN<|dN<|dN<|dN<|dN<|dN<|dN pr)<|dN<|dN<|dN<|dN<|dN<|dN<|dN<|dN pr)<|dN<|dN<|dN<|dN<|dN<|dN<|dN<|dN<|dN pr)<|dN<|dN<|dN<|dN<|dN<|dN<|dN<|dN<|dN<|dN pr
end
theorem Ka(s:Δ):sI s=zP s:=by
 have hs:∀c,uE c=(decide (97<=c)&&decide (c<=122)):=λc=>by
  simp[uE]
 have hd:∀c,uF c=(decide (48<=c)&&decide (c<=57)):=λc=>by
  simp[uF]
 unfold sI zP;have hl:=sF s;by_cases h1:1<=s.size
 ·cases hb:b9 s with
  | nil=>grind
  | cons c r =>
   have hr:nL LK 1 r=r.all λb=>uE b||uF b:=by
    rw[<- VA (λb=>uE b||uF b) r 1];refine vB r 1 λj x hj=>?_;have:(j==0)=false:=by lia
    simp[LK,this,hs,hd]
   have h0:LK 0 c=uE c:=by simp[LK,hs]
   simp[nL,hr,h0];cases uE c <;> simp
 lia
theorem aTJ{x y:Γ UInt8}(h:bK x y=true):bK y x=false:=by
 grind [VB,K3]
theorem EI(a b:Δ):(!(bK (aB a) (aB b)||aB a==aB b))=bK (aB b) (aB a):=by
 grind [aTJ,aIq]
theorem CS{α:Type}{p:Nat->α->Bool}:∀(l:Γ α) (i:Nat),nL p i l=true->∀x∈l,∃j,p j x=true
 | [],_,_,x,hx=>by grind
 | y::r,i,h,x,hx=>by
  simp[nL]at h;rcases aW.1 hx with rfl | hx
  ·exact⟨i,h.1⟩
  ·exact CS r (i+1) h.2 x hx
theorem Wi(x:eR):oV x=Sp x:=by
 unfold oV Sp;rw[Ka];rfl
theorem Ev(xs:Γ eR):uP xs=Wd xs:=by
 unfold uP Wd
 grind [vB,aXH,aW0,Wi,EI]
theorem Wj(x:eR):sJ x=JV x:=by
 unfold sJ JV;rw[Ka];rfl
theorem Ew(xs:Γ eR):rB xs=Wg xs:=by
 unfold rB Wg
 grind [vB,aXM,aW7,Wj,EI]
theorem aJo(x:b6):qL x=CR x:=by
 unfold qL CR;rw[Ka];rfl
theorem Sq(xs:Γ b6):uQ xs=We xs:=by
 unfold uQ We
 grind [vB,bDX,aW4,aJo,EI]
theorem Wk(x:b6):xI x=JX x:=by
 unfold xI JX;rw[Ka]<;>rfl
theorem AO(xs:Γ b6):xJ xs=aFL xs:=by
 unfold xJ aFL
 grind [vB,aXR,bHE,Wk,EI]
theorem Ex(xs:Γ b6):xL xs=aFM xs:=by
 unfold xL aFM
 grind [vB,aXS,bHE,Wk,EI]
theorem aPW(x:c7):sK x=vS x:=by
 rfl
theorem Wl(xs:Γ c7):Dn xs=JW xs:=by
 rfl
theorem Ey(xs:Γ c7):jG xs=wF xs:=by
 grind [jG,wF,Wl]
theorem aFO(x:c7):xF x=ED x:=by
 rfl
theorem Kb(xs:Γ c7):BA xs=Wa xs:=by
 unfold BA Wa Bx;rw[MG];have hq:(!xs.any I7)=xs.all ED:=by
  simp[pV,I7,aFO]
 lia
theorem aAj(x:c7):qK x=Od x:=by
 unfold qK Od;have e1:aIu x.1=cJ x.1 1 4:=rfl;have e2:bH x.2.1 0 1000=cJ x.2.1 0 1000:=rfl;have e3:Fp x.2.2.1=W8 x.2.2.1:=rfl
 lia
theorem GU(xs:Γ c7):xG xs=CP xs:=by
 unfold xG CP By;rw[MI];have hq:(!xs.any I8)=xs.all Od:=by
  simp[pV,I8,aAj]
 lia
theorem aTK(x:Int×Int×Int×Int×Unit):Bw x=EF x:=rfl
theorem aPX(x:c7):yK x=EG x:=rfl
theorem aPY(x:Int×Int×Int×Int×Unit):xH x=EH x:=rfl
theorem aB9{x a b:Int}:bH x a b=decide (a<=x/\x<=b):=by
 simp[bH]
theorem aTL(x a b:Int):cJ x a b=bH x a b:=rfl
theorem Tp(x:c7):lA x=An x:=by
 grind [lA,An,I9,aTL,aB9]
theorem aJp(x:bV):Bz x=Wh x:=by
 unfold Bz Wh;rw[Ev,Ew,Sq,AO,Ex,Ey,Kb,GU,aTK,aPX,aPY,Tp]
 lia
noncomputable section
def bAN:jB:=D0 aDS [.v (.str)] [.int .i64,.bool] [aPQ]
mutual
def bAO:Nat->Δ->Γ aS->Prop
 | 0,_,_=>False
 | n+1,x0,ds=>RC n 0 0 x0 ds
def RC:Nat->Int->Int->Δ->Γ aS->Prop
 | 0,_,_,_,_=>False
 | n+1,v4,v5,x0,ds=>if decide (v5<(↑(aG x0):Int))then 0<=v5/\v5<(↑(aG x0):Int)/\if !uF (↑(cR (aD (cE (bO x0)) (aE v5) 0)):Int)then ds=[aJ (.int .i64) 0,aJ .bool false] else bA .i64 (10*v4)/\0<=v5/\v5<(↑(aG x0):Int)/\bA .u8 ((↑(cR (aD (cE (bO x0)) (aE v5) 0)):Int)-48)/\bA .i64 ((↑(cR (aD (cE (bO x0)) (aE v5) 0)):Int)-48)/\bA .i64 (10*v4+((↑(cR (aD (cE (bO x0)) (aE v5) 0)):Int)-48))/\bA .i64 (v5+1)/\RC n (10*v4+((↑(cR (aD (cE (bO x0)) (aE v5) 0)):Int)-48)) (v5+1) x0 ds else ds=[aJ (.int .i64) v4,aJ .bool true]
end
def bAP(ds:Γ aS)(K:gU)(q:Nat->Value):∀n,(∀ {x0},bAO n x0 ds->St bAN (x0,()) ds [] K q)/\(∀ {v4 v5 x0},RC n v4 v5 x0 ds->Cu bAN 3 ([eS 0 x0,eI 4 v4,eI 5 v5],[]) ds [] K q):=nI ⟨aH,aH⟩ λn ⟨i,i3⟩=>⟨cX i3,
  bU (eE<|bS<|bU dR<|aO<|eE<|aO<|aO<|aO<|aO<|cX i3) dR⟩
def LP(b:UInt8):Bool:=decide (48<=b.toNat)&&decide (b.toNat<=57)
def vT:Γ UInt8->Int->Int×Bool
 | [],n=>(n,true)
 | b::r,n=>if LP b then vT r (10*n+((b.toNat:Int)-48))else(0,false)
def kH(x0:Δ):Int:=(vT x0.data.toList 0).1
def oF(x0:Δ):Bool:=(vT x0.data.toList 0).2
def aFP(x0:Δ):Prop:=x0.size<=18
theorem bAQ(x0:Δ)(hs:x0.size<=18):∀(k i m:Nat),i+k=x0.size->m<10^i ->
  RC (k+1) (m:Int) (i:Int) x0 [⟨.int .i64,(vT (x0.data.toList.drop i) (m:Int)).1⟩,⟨.bool,(vT (x0.data.toList.drop i) (m:Int)).2⟩]:=by
 intro k;have hll:x0.data.toList.length=x0.size:=rfl
 induction k with
 | zero =>
  intro i m hi hm;rw[RC,ν (by simp;omega),gC (by omega)]<;>rfl
 | succ k ih =>
  intro i m hi hm;have hlt:i<x0.data.toList.length:=by rw[hll];omega
  have hcons:x0.data.toList.drop i=x0.data.toList.getD i 0::x0.data.toList.drop (i+1):=eD _ i 0 hlt;rw[RC,π (by simp;omega),hcons];simp only[aI];generalize x0.data.toList.getD i 0=b at *;refine⟨by omega,by omega,?_⟩;have hg:uF (b.toNat:Int)=LP b:=by
   unfold uF LP;by_cases h1:48<=b.toNat
   ·have h1':(b.toNat:Int)>=48:=by omega
    by_cases h2:b.toNat<=57
    ·have h2':(b.toNat:Int)<=57:=by omega
     simp[h1,h2,h1',h2']
    ·have h2':¬(b.toNat:Int)<=57:=by omega
     simp[h1,h2,h1',h2']
   ·have h1':¬(b.toNat:Int)>=48:=by omega
    simp[h1,h1']
  rw[hg];unfold vT;cases hd:LP b with
  | false=>rfl
  | true =>
   have hd':48<=b.toNat/\b.toNat<=57:=by unfold LP at hd;simpa using hd
   have hp:10^i<=10^17:=lO (by decide) (by omega);have hm2:m<100000000000000000:=cZ hm hp;simp only[u0,fU,if_false,if_true];refine⟨by rw[aK];omega,by omega,by omega,?_,by rw[aK];omega,by rw[aK];omega,by rw[aK];omega,?_⟩
   ·rw[QT];omega
   ·have e1:10*(m:Int)+((b.toNat:Int)-48)=((10*m+(b.toNat-48):Nat):Int):=by omega
    have e2:(i:Int)+1=((i+1:Nat):Int):=by omega
    rw[e1,e2];exact ih (i+1) (10*m+(b.toNat-48)) (by omega) (by rw[BY];omega)
theorem bAR(x0:Δ)(h:aFP x0):bAO (x0.size+1+1) x0 [⟨.int .i64,kH x0⟩,⟨.bool,oF x0⟩]:=by
 rw[bAO];exact bAQ x0 h x0.size 0 0 (by omega) (by decide)
def aWF:KK:=mL bAN (DO aDS) aFP (kH,oF,()) (λ⟨x0,_⟩ h hwf K q =>
 (bAP _ K q _).1 (bAR x0 h))
def aTM(x0:Δ):Prop:=if(↑(aG x0):Int) != 5 then True else 2<(↑(aG x0):Int)/\if(↑(cR (aD (cE (bO x0)) 2 0)):Int) != 58 then True else 2<=(↑(aG x0):Int)/\aFP (aN x0 0 2)/\3<=(↑(aG x0):Int)/\aFP (aN x0 3 (aE (↑(aG x0):Int)))/\if !oF (aN x0 0 2)then True else if !oF (aN x0 3 (aE (↑(aG x0):Int)))then True else if decide (kH (aN x0 0 2)>23)then True else if decide (kH (aN x0 3 (aE (↑(aG x0):Int)))>59)then True else bA .i64 (60*kH (aN x0 0 2))/\bA .i64 (60*kH (aN x0 0 2)+kH (aN x0 3 (aE (↑(aG x0):Int))))/\True
def aBA(x0:Δ):Int:=if(↑(aG x0):Int) != 5 then 0 else if(↑(cR (aD (cE (bO x0)) 2 0)):Int) != 58 then 0 else if !oF (aN x0 0 2)then 0 else if !oF (aN x0 3 (aE (↑(aG x0):Int)))then 0 else if decide (kH (aN x0 0 2)>23)then 0 else if decide (kH (aN x0 3 (aE (↑(aG x0):Int)))>59)then 0 else 60*kH (aN x0 0 2)+kH (aN x0 3 (aE (↑(aG x0):Int)))
def RD(x0:Δ):Bool:=if(↑(aG x0):Int) != 5 then false else if(↑(cR (aD (cE (bO x0)) 2 0)):Int) != 58 then false else if !oF (aN x0 0 2)then false else if !oF (aN x0 3 (aE (↑(aG x0):Int)))then false else if decide (kH (aN x0 0 2)>23)then false else if decide (kH (aN x0 3 (aE (↑(aG x0):Int)))>59)then false else true
def bHJ:KK:=mB Tryz.func207 [.v (.str)] [.int .i64,.bool] [aWF] aTM (aBA,RD,()) λ_=>dP (j0 pr)<|pq 2<|aO<|dP pr<|pq 2<|aO<|aO<|pq 3<|aO<|aO<|dP (j0<|j0<|j0 pr)<|dP (j0<|j0 pr)<|dP (j0 pr)<|dP pr<|aO<|aO pr
def aPZ(x0:Δ):Prop:=if aB x0==aB (aA #[50,52,58,48,48])then True else aTM x0/\True
def CT(x0:Δ):Int:=if aB x0==aB (aA #[50,52,58,48,48])then 1440 else aBA x0
def CU(x0:Δ):Bool:=if aB x0==aB (aA #[50,52,58,48,48])then true else RD x0
def bHK:KK:=mB Tryz.func103 [.v (.str)] [.int .i64,.bool] [bHJ] aPZ (CT,CU,()) λ_=>dP pr<|aO pr
end
def mQ(a:Nat):UInt8:=jU (48+a)
theorem pB{a:Nat}(h:a<10):(mQ a).toNat=48+a:=by grind [mQ,qZ]
theorem RE{b:UInt8}(h:48<=b.toNat/\b.toNat<=57):b=mQ (b.toNat-48):=by
 grind [jL,pB]
theorem Tq{a b:Nat}(ha:a<10)(hb:b<10)(h:mQ a=mQ b):a=b:=by
 grind [pB]
variable {n:Nat}
theorem aKK(h:n<10):l5 (n:Int)=⟨⟨[mQ n]⟩⟩:=by
 unfold l5 Cd;rw[aI,Lib.decDigits_one h];rfl
theorem aKL(h1:10<=n)(h:n<100):l5 (n:Int)=⟨⟨[mQ (n/10),mQ (n%10)]⟩⟩:=by
 unfold l5 Cd;rw[aI,Lib.decDigits_two (by lia) h];rfl
theorem DV(h:n<100):aI3 (n:Int) 2/\xP (n:Int) 2=⟨⟨[mQ (n/10),mQ (n%10)]⟩⟩:=by
 unfold aI3 xP;have e:dF (n:Int)=l5 (n:Int):=rfl;rw[e];by_cases h1:n<10
 ·rw[aKK h1];have e0:n/10=0:=by lia
  have e1:n%10=n:=by lia
  rw[e0,e1];have e2:(aA (aHt [mQ n])).size=1:=rfl;rw[e2];exact⟨⟨⟨rfl,trivial⟩,by simp[aK],⟨by lia,by decide⟩,by show 1+1<=_;lia,trivial⟩,rfl⟩
 ·rw[aKL (by lia) h];have e2:(aA (aHt [mQ (n/10),mQ (n%10)])).size=2:=rfl;rw[e2];exact⟨⟨⟨rfl,trivial⟩,by simp[aK],⟨by lia,by lia⟩,by show 0+2<=_;lia,trivial⟩,rfl⟩
theorem aAk:∀(l:Γ UInt8) (m i:Nat),m<10^i->i+l.length<=12 -> -1<=CE l (m:Int)/\CE l (m:Int)<1000000000000
 | [],m,i,h,hi=>by
  have hp:10^i<=10^12:=lO (by lia) (by lia);show -1<=(m:Int)/\(m:Int)<1000000000000
  lia
 | b::r,m,i,h,hi=>by
  unfold CE;split
  ·have e1:10*(m:Int)+((b.toNat:Int)-48)=((10*m+(b.toNat-48):Nat):Int):=by lia
   rw[e1];exact aAk r _ (i+1) (by lia) (by grind)
  lia
theorem Oe(x:Δ) : -1<=eV x/\eV x<1000000000000:=by
 unfold eV;split
 ·lia
 ·have:x.data.toList.length=x.size:=rfl;exact aAk x.data.toList 0 0 (by lia) (by lia)
theorem GV{a b:Nat}(ha:a<10)(hb:b<10):eV ⟨⟨[mQ a,mQ b]⟩⟩=((10*a+b:Nat):Int):=by
 show CE [mQ a,mQ b] 0=_;simp[CE,pB ha,pB hb]
 lia
theorem GX{a b:Nat}(ha:a<10)(hb:b<10):kH ⟨⟨[mQ a,mQ b]⟩⟩=((10*a+b:Nat):Int)/\oF ⟨⟨[mQ a,mQ b]⟩⟩=true:=by
 unfold kH oF;simp[vT,LP,pB ha,pB hb]
 lia
theorem Mz:∀(l:Γ UInt8) (n:Int),(vT l n).2=true->∀b∈l,48<=b.toNat/\b.toNat<=57
 | [],_,_,b,hb=>by grind
 | c::r,n,h,b,hb=>by
  unfold vT at h;split at h
  ·rename_i hd;rcases aW.1 hb with rfl | hb
   ·unfold LP at hd;simpa using hd
   ·exact Mz r _ h b hb
  lia
def Kx(h m:Nat):Δ:=⟨⟨[mQ (h/10),mQ (h%10),58,mQ (m/10),mQ (m%10)]⟩⟩
theorem aKM{h m h' m':Nat}(h1:h<100)(h2:m<100)(h3:h'<100)(h4:m'<100)(e:Kx h m=Kx h' m'):h=h'/\m=m':=by
 unfold Kx at e;simp at e;obtain⟨e1,e2,e3,e4⟩:=e;have:=Tq (by lia) (by lia) e1;have:=Tq (by lia) (by lia) e2;have:=Tq (by lia) (by lia) e3;have:=Tq (by lia) (by lia) e4
 lia
theorem Wm{k:Nat}(h:k<=1439):Q4 (k:Int)=Kx (k/60) (k%60):=by
 unfold Q4 bH;have e1:aP (k:Int) 60=((k/60:Nat):Int):=rfl;have e2:cP (k:Int) 60=((k%60:Nat):Int):=rfl;rw[e1,e2,(DV (n:=k/60) (by lia)).2,(DV (n:=k%60) (by lia)).2];have c2:(k:Int)<=1439:=by lia
 simp only[c2];rfl
theorem aAl(n:Int):aPi n:=by
 unfold aPi;split
 ·lia
 ·rename_i hw;have hw':0<=n/\n<=1439:=by
   unfold bH at hw
   lia
  obtain⟨k,rfl⟩:∃k:Nat,n=(k:Int):=Int.eq_ofNat_of_zero_le hw'.1;have e1:aP (k:Int) 60=((k/60:Nat):Int):=rfl;have e2:cP (k:Int) 60=((k%60:Nat):Int):=rfl;obtain⟨p1,q1⟩:=DV (n:=k/60) (by lia);obtain⟨p2,q2⟩:=DV (n:=k%60) (by lia);rw[e1,e2,q1,q2];refine⟨by grind [aK],p1,?_,by grind [aK],p2,?_,trivial⟩
  ·show 2+1<=_;lia
  ·show 3+2<=_;lia
theorem aTN{h m:Nat}(h1:h<100)(h2:m<100):lQ (Kx h m) (aA #[58])=⟨⟨[mQ (h/10),mQ (h%10)]⟩⟩/\gG (Kx h m) (aA #[58])=⟨⟨[mQ (m/10),mQ (m%10)]⟩⟩:=by
 have hn:(58:UInt8) ∉ [mQ (h/10),mQ (h%10)]:=λhm=>by
  simp at hm;rcases hm with e | e <;> (have:=congrArg cR e;rw[pB (by lia)]at this;lia)
 have hc:Lib.cut (Kx h m).data.toList (aA #[58]).data.toList=([mQ (h/10),mQ (h%10)],[mQ (m/10),mQ (m%10)],true):=Tl 58 _ hn;unfold lQ gG
 lia
theorem aQa{h m:Nat}(h1:h<=23)(h2:m<=59):aBo (Kx h m)=((60*h+m:Nat):Int)/\aI4 (Kx h m)=true:=by
 obtain⟨c1,c2⟩:=aTN (h:=h) (m:=m) (by lia) (by lia);unfold aBo aI4;rw[c1,c2,GV (by lia) (by lia),GV (by lia) (by lia)];have e:60*((10*(h/10)+h%10:Nat):Int)+((10*(m/10)+m%10:Nat):Int)=((60*h+m:Nat):Int):=by lia
 have e3:(60*h+m)/60=h:=by lia
 have e4:(60*h+m)%60=m:=by lia
 rw[e,Wm (by lia)];have ne:¬(aB (Kx h m)==aB (aA #[]))=true:=by
  rw[bE];intro hh;have:=congrArg aG hh;exact absurd (show (5:Nat)=0 from this) (by lia)
 lia
theorem aQb{x:Δ}(h:x.size<=1048576):aYv x:=by
 have b1:=Oe (lQ x (aA #[58]));have b2:=Oe (gG x (aA #[58]));refine⟨(show x.size<4294967281 from by lia),by grind [aK],by grind [aK],?_⟩;simp[aAl]
def bAS{h m:Nat}:aN (Kx h m) 0 2=⟨⟨[mQ (h/10),mQ (h%10)]⟩⟩/\aN (Kx h m) 3 (aE (((Kx h m).size:Nat):Int))=⟨⟨[mQ (m/10),mQ (m%10)]⟩⟩ :=
 ⟨pU [mQ (h/10),mQ (h%10),58,mQ (m/10),mQ (m%10)] 0 2,pU [mQ (h/10),mQ (h%10),58,mQ (m/10),mQ (m%10)] 3 5⟩
theorem aQc{h m:Nat}(h1:h<=23)(h2:m<=59):aBA (Kx h m)=((60*h+m:Nat):Int)/\RD (Kx h m)=true:=by
 obtain⟨c1,c2⟩:=bAS (h:=h) (m:=m);obtain⟨d1,d2⟩:=GX (a:=h/10) (b:=h%10) (by lia) (by lia);obtain⟨d3,d4⟩:=GX (a:=m/10) (b:=m%10) (by lia) (by lia);unfold aBA RD;have e0:(((Kx h m).size:Int) != 5)=false:=rfl;have e1:(((aD (cE (bO (Kx h m))) 2 0).toNat:Int) != 58)=false:=rfl
 lia
def bMl:∀ {l:Γ UInt8},l.length=5->∃a b c d e,l=[a,b,c,d,e]
 | [a,b,c,d,e],_=>⟨a,b,c,d,e,rfl⟩
theorem aQd{x:Δ}(hx:RD x=true):∃h m:Nat,h<=23/\m<=59/\x=Kx h m:=by
 obtain⟨⟨l⟩⟩:=x;unfold RD at hx;by_cases h5:l.length=5
 ·obtain⟨a,b,c,d,e,rfl⟩:=bMl h5;have x1:aN ⟨⟨[a,b,c,d,e]⟩⟩ 0 2=⟨⟨[a,b]⟩⟩:=pU [a,b,c,d,e] 0 2;have x2:aN ⟨⟨[a,b,c,d,e]⟩⟩ 3 (aE (((aA ⟨[a,b,c,d,e]⟩).size:Nat):Int))=⟨⟨[d,e]⟩⟩:=pU [a,b,c,d,e] 3 5;rw[x1,x2]at hx;split at hx
  ·lia
  ·split at hx
   ·lia
   ·have hc':c=58:=by
     rw[<- jL]
     grind
    split at hx
    ·lia
    ·split at hx
     ·lia
     ·split at hx
      ·lia
      ·rename_i l1;split at hx
       ·lia
       ·rename_i l2;have g1':oF ⟨⟨[a,b]⟩⟩=true:=by lia
        have g2':oF ⟨⟨[d,e]⟩⟩=true:=by lia
        have a1:=Mz [a,b] 0 g1';have a2:=Mz [d,e] 0 g2';have ha:=a1 a (by simp);have hb:=a1 b (by simp);have hd:=a2 d (by simp);have he:=a2 e (by simp);obtain⟨a,la,rfl⟩:∃a':Nat,a'<10/\a=mQ a':=⟨a.toNat-48,by lia,RE ha⟩;obtain⟨b,lb,rfl⟩:∃a':Nat,a'<10/\b=mQ a':=⟨b.toNat-48,by lia,RE hb⟩;obtain⟨d,ld,rfl⟩:∃a':Nat,a'<10/\d=mQ a':=⟨d.toNat-48,by lia,RE hd⟩;obtain⟨e,le,rfl⟩:∃a':Nat,a'<10/\e=mQ a':=⟨e.toNat-48,by lia,RE he⟩;rw[(GX la lb).1]at l1;rw[(GX ld le).1]at l2;refine⟨10*a+b,10*d+e,by lia,by lia,?_⟩;unfold Kx;rw[show (10*a+b)/10=a by lia,show (10*a+b)%10=b by lia,show (10*d+e)/10=d by lia,show (10*d+e)%10=e by lia,hc']
 ·rw[π (by
   have:(aA ⟨l⟩).size=l.length:=rfl
   lia)]at hx
  lia
theorem Wn:∀(l:Γ UInt8) (n:Int),0<=n->0<=(vT l n).1
 | [],_,h=>h
 | c::r,n,h=>by
  unfold vT;split
  ·have hd':48<=c.toNat/\c.toNat<=57:=by grind [LP]
   exact Wn r _ (by lia)
  lia
def LQ(x:Δ):0<=kH x:=Wn _ 0 (dO _)
theorem aQe(x:Δ):aTM x:=by
 unfold aTM;split
 ·lia
 ·have h5:x.size=5:=by
   lia
  have s1:(aN x 0 2).size<=5:=by
   simp_all
  have s2:(aN x 3 (aE (x.size:Int))).size<=5:=by
   simp_all
  refine⟨by lia,?_⟩;split
  ·lia
  ·refine⟨by lia,(show (aN x 0 2).size<=18 from by lia),by lia,(show (aN x 3 (aE (x.size:Int))).size<=18 from by lia),?_⟩;split
   ·lia
   ·split
    ·lia
    ·split
     ·lia
     ·split
      ·lia
      ·have n1:=LQ (aN x 0 2);have n2:=LQ (aN x 3 (aE (x.size:Int)));exact⟨by grind [aK],by grind [aK],trivial⟩
theorem aQf(a b:Δ):(a++b).data.toList=a.data.toList++b.data.toList:=by
 rfl
theorem zQ{a b:Δ}(h:a.data.toList=b.data.toList):a=b:=by
 obtain⟨⟨l⟩⟩:=a;simp_all
theorem aFQ{x:Γ UInt8}{k:UInt8}{a b c:Γ UInt8}(h:cH k x=[a,b,c]):x=a++k::(b++k::c):=by
 have:=AI k x;simp_all
theorem Of{k:UInt8}{a b:Γ UInt8}(ha:k ∉ a)(hb:k ∉ b):cH k (a++k::b)=[a,b]:=by
 grind [nS,lG]
theorem Wo{k:UInt8}{a b c:Γ UInt8}(ha:k ∉ a)(hb:k ∉ b)(hc:k ∉ c):cH k (a++k::(b++k::c))=[a,b,c]:=by
 grind [nS,lG]
def Wp{α:Type}:∀ {l:Γ α},l.length=3->∃a b c,l=[a,b,c]
 | [a,b,c],_=>⟨a,b,c,rfl⟩
def aFR{α:Type}:∀ {l:Γ α},l.length=2->∃a b,l=[a,b]
 | [a,b],_=>⟨a,b,rfl⟩
theorem aQg:Kx 24 0=aA #[50,52,58,48,48]:=rfl
theorem aAm{h m:Nat}(h1:h<100)(h2:m<100):(32:UInt8) ∉ (Kx h m).data.toList:=by
 show (32:UInt8) ∉ [mQ (h/10),mQ (h%10),58,mQ (m/10),mQ (m%10)];intro hm;simp only[aW,dH,or_false]at hm;rcases hm with e | e | e | e | e
 ·have:=congrArg cR e;grind [pB]
 ·have:=congrArg cR e;grind [pB]
 ·lia
 ·have:=congrArg cR e;grind [pB]
 ·have:=congrArg cR e;grind [pB]
theorem aQh(h m:Nat):(Kx h m).size=5:=rfl
theorem Og(h:n<=1440):Do (n:Int)=Kx (n/60) (n%60):=by
 unfold Do;by_cases e:n=1440
 ·subst e;rfl
 ·rw[ν (by lia),Wm (by lia)]
theorem Tr(n:Int):aPk n:=by
 simp[aPk,aAl]
theorem bHL(h:n<=1440):qO (Kx (n/60) (n%60))=(n:Int):=by
 unfold qO;by_cases e:n=1440
 ·subst e;have e24:(aB (Kx (1440/60) (1440%60))==aB (aA #[50,52,58,48,48]))=true:=(bE _ _).2 rfl
  lia
 ·rw[ν (λhh=>by
   rw[bE, <- aQg]at hh;have:=aKM (by lia) (by lia) (by lia) (by lia) hh
   lia)]
  grind [aQa]
theorem aWG(h:n<=1440):CT (Kx (n/60) (n%60))=(n:Int)/\CU (Kx (n/60) (n%60))=true:=by
 unfold CT CU;by_cases e:n=1440
 ·subst e;have e24:(aB (Kx (1440/60) (1440%60))==aB (aA #[50,52,58,48,48]))=true:=(bE _ _).2 rfl
  lia
 ·have hne:¬(aB (Kx (n/60) (n%60))==aB (aA #[50,52,58,48,48]))=true:=λhh=>by
   rw[bE, <- aQg]at hh;have:=aKM (by lia) (by lia) (by lia) (by lia) hh
   lia
  obtain⟨e0,e1⟩:=aQc (h:=n/60) (m:=n%60) (by lia) (by lia)
  lia
theorem aQi{x:Δ}(hx:CU x=true):∃n:Nat,n<=1440/\x=Kx (n/60) (n%60):=by
 unfold CU at hx;split at hx
 ·rename_i h;exact⟨1440,aT _,(bE _ _).1 h⟩
 ·obtain⟨h,m,h1,h2,rfl⟩:=aQd hx;exact⟨60*h+m,by lia,by grind⟩
theorem aJq{x:Δ}(h:x.size<=1048576):aPj x:=by
 unfold aPj;split
 ·lia
 ·exact⟨aQb h,trivial⟩
theorem aQj(x:Δ):aPZ x:=by
 simp[aPZ,aQe]
theorem aFS(n:Int):Aa n=(decide (0<=n)&&decide (n<=1440)):=by
 simp[Aa,bH]
theorem aQk(n:Int):JU n=(decide (0<=n)&&decide (n<=1440)):=by
 simp[JU,cJ]
theorem aAn(x:b6):CR x=qL x:=by
 simp[CR,qL,Ka,aFS,aQk]
theorem JZ{a:Δ}{n m:Int}(h:qL (a,n,m,())=true):0<=n/\n<=1440/\0<=m/\m<=1440:=by
 unfold qL at h;simp[aFS]at h
 lia
theorem wi{x a b:Int}(h:bH x a b=true):a<=x/\x<=b:=by rw[aB9]at h;lia
theorem mb{a b A B:Int}(h1 : -A<=a/\a<=A)(h2 : -B<=b/\b<=B) : -(A*B)<=a*b/\a*b<=A*B:=by
 have h:(a*b).natAbs<=A.toNat*B.toNat:=by
  rw[Int.natAbs_mul];exact Nat.mul_le_mul (by lia) (by lia)
 grind
theorem tdb{a A:Int}(b:Int)(h : -A<=a/\a<=A) : -A<=aP a b/\aP a b<=A:=by
 have h1:(aP a b).natAbs<=a.natAbs:=by rw[Int.natAbs_tdiv];exact Nat.div_le_self _ _
 lia
theorem tmb{a A:Int}(b:Int)(h : -A<=a/\a<=A) : -A<=cP a b/\cP a b<=A:=by
 have h1:(cP a b).natAbs<=a.natAbs:=by simp[Nat.mod_le]
 lia
theorem F0{c:Prop}[Decidable c]{Q:Prop}(h:¬c->Q):if c then True else Q:=by
 lia
theorem nb{b:Bool}(h:¬(!b)=true):b=true:=by lia
theorem Tt{x:Int}(h : -1000000000000000<=x/\x<=1000000000000000):T1 x/\0<=mX x/\mX x<=1000000000000000/\(mX x=x\/mX x=0-x):=by
 unfold T1 mX;by_cases c:x<0
 ·rw[π (decide_eq_true c),π (decide_eq_true c)];exact⟨⟨by grind [aK],trivial⟩,by lia,by lia,.inr rfl⟩
 lia
theorem J0{x y:Int}(h : -1000000000000000<=x/\x<=1000000000000000)(k : -1000000000000000<=y/\y<=1000000000000000)(hy:y≠0):Qe x y /\ -1000000000000001<=o6 x y/\o6 x y<=1000000000000001:=by
 have d:=tdb y h;have m:=tmb y h;obtain⟨p1,p2,p3,_⟩:=Tt m;obtain⟨q1,q2,q3,_⟩:=Tt k;unfold Qe o6;refine⟨⟨hy,by grind [aK],hy,by grind [aK],p1,q1,by grind [aK],?_⟩,?_⟩
 ·split
  ·split <;> exact⟨by grind [aK],trivial⟩
  lia
 lia
theorem aQl{d:c7}(h:lA d=true) : -1<=d.2.1/\d.2.1<=3 /\ -1<=d.2.2.1/\d.2.2.1<=4:=by
 unfold lA at h;split at h
 ·lia
 ·split at h
  ·lia
  ·split at h
   ·rename_i c;have:=wi c;have:=wi h
    lia
   lia
theorem Yn(d:c7)(e:Int):aYY d e:=by
 refine F0 λc=>F0 λ_=>⟨?_,trivial⟩;have hd:=aQl (nb c);have i1:bA .i64 (d.2.1+1):=by grind [aK]
 have i2:bA .i64 (d.2.2.1+1):=by grind [aK]
 unfold aYX aYW
 lia
theorem J1{x:Int}(h:bA .i64 x):(dF x).size<=21:=wC x (by grind [aK]) (by grind [aK])
theorem aQm{l:Γ c7}(hl:l.length<=1000)(x:c7)(m:Int):aY7 l x m:=by
 exact F0 λc=>⟨show l.length<=1048576 by lia,show (l.length+1)*24<=140737488355328 by lia,trivial⟩
theorem aQo{l:Γ c7}(hl:l.length<=1000)(x:c7):aYG l x :=
 ⟨show l.length<=1048576 by lia,show (l.length+1)*24<=140737488355328 by lia,trivial⟩
theorem aFT(r:Int×Int×Int×Int×Unit)(n:Int):aTq r n:=by
 unfold aTq M2;refine F0 λc=>?_;by_cases v:Bw r=true
 ·by_cases q:JB n=true
  ·have hq:=wi (show bH n 1 10000000=true from q);unfold Bw at v;split at v
   ·split at v
    ·split at v
     ·have hv:=wi v;have t:=tdb n (a:=1000*r.2.2.2.1) (A:=10000000000) (by lia);exact⟨by grind [aK],by lia,by grind [aK],trivial⟩
     lia
    lia
   lia
  lia
 lia
theorem zS{a b:Bool}(h:(if a=true then b else false)=true):a=true/\b=true:=by
 lia
theorem Wq{m:c7}(h:yK m=true):(1000<=m.1/\m.1<=10000000)/\(100<=m.2.1/\m.2.1<=1000000)/\0<=m.2.2.1/\m.2.2.1<=500:=by
 obtain⟨a,h⟩:=zS h;obtain⟨b,h⟩:=zS h;exact⟨wi a,wi b,wi h⟩
theorem aTP{m:c7}(h:yK m=true){f s:Int}(hf : -1000000<=f/\f<=1000000)(hs:0<=s/\s<=20000):aPx m f s:=by
 obtain⟨_,_,m3⟩:=Wq h;have b1:=mb (A:=1000000) (B:=20000) (a:=f) (b:=s) (by lia) (by lia);have b3:=mb (A:=20000000000) (B:=1000) (a:=0-aP (f*s) 1000) (b:=1000-m.2.2.1) (by lia) (by lia);refine⟨by grind [aK],by grind [aK],?_⟩;split
 ·have t:=tdb (1000-m.2.2.1) (a:=1000*aP (f*s) 1000+(1000-m.2.2.1)-1) (A:=30000000000000) (by lia);exact⟨by grind [aK],by grind [aK],⟨by grind [aK],by grind [aK],by lia,by grind [aK],trivial⟩,trivial⟩
 ·exact⟨by grind [aK],by grind [aK],by grind [aK],by grind [aK],by grind [aK],trivial⟩
theorem Kc{m:c7}{b:Bool}(h:¬(Ad m b != 0)=true):yK m=true/\b=true:=by
 unfold Ad at h
 lia
theorem aNm(m:c7)(f s:Int):aTs m f s:=by
 unfold aTs;split
 ·rename_i hf;refine F0 λc=>?_;obtain⟨hm,hs⟩:=Kc c;have p:=aTP hm (wi (show bH f (-1000000) 1000000=true from hf)) (wi (show bH s 0 20000=true from hs));unfold aTr
  lia
 ·refine F0 λc=>?_;exact absurd (Kc c).2 (by lia)
theorem aKN{b:eR}(h:oV b=true):sI b.1=true/\(10000<=b.2.1/\b.2.1<=10000000)/\(1000<=b.2.2.1/\b.2.2.1<=1000000)/\0<=b.2.2.2.1/\b.2.2.2.1<=200:=by
 obtain⟨a,h⟩:=zS h;obtain⟨b',h⟩:=zS h;obtain⟨c,h⟩:=zS h;exact⟨a,wi b',wi c,wi h⟩
theorem RF(C:Int->Bool):∀(n:Nat) (lo e:Int),0<=lo->lo<=e->lo<=Nm C n lo e/\Nm C n lo e<=e
 | 0,lo,e,_,h=>⟨dO _,h⟩
 | n+1,lo,e,h0,h=>by
  unfold Nm;split
  ·rename_i c;obtain⟨a,b⟩:=To h0 c;split
   ·have:=RF C n lo _ h0 a;lia
   ·have:=RF C n (aP (lo+e) 2+1) e (by lia) (by lia);lia
  lia
theorem aFU{b:eR}(h:oV b=true)(n:Int):aIN b n /\ -1<=CI b n/\CI b n<=20000:=by
 obtain⟨_,b1,_,b4⟩:=aKN h;have bs:=RF (λx=>xS x b n) (20000+1-0:Int).toNat 0 20001 (by lia) (by lia);have e:CI b n=Nm (λx=>xS x b n) (20000+1-0:Int).toNat 0 20001-1:=rfl;refine⟨⟨⟨⟨by lia,by lia,by lia⟩,λv hv0 hv=>?_⟩,?_,trivial⟩,by lia,by lia⟩
 ·have m1:=mb (A:=20000) (B:=20000) (a:=v) (b:=v) (by lia) (by lia);obtain⟨p1,q1,q2⟩:=J0 (x:=v*v) (y:=b.2.1) (by lia) (by lia) (by lia);obtain⟨p2,r1,r2⟩:=J0 (x:=981*b.2.2.2.1) (y:=100) (by lia) (by lia) (by lia);exact⟨⟨by grind [aK],p1,by grind [aK],p2,by grind [aK],trivial⟩,trivial⟩
 ·show bA .i64 (Nm (λx=>xS x b n) (20000+1-0:Int).toNat 0 20001-1)
  grind [aK]
theorem aFV(l:Γ eR)(n:Int)(h:uP l=true->∀b∈l,oV b=true):aPw l n:=by
 intro hc b hb
 grind [rR,aFU]
theorem aFW{r g t b:Int}(h:JF r g [t,b]=true):(0<=r/\r<=100000)/\(1<=g/\g<=900)/\(0<=t/\t<=100000)/\0<=b/\b<=100000:=by
 obtain⟨a,h⟩:=zS h;obtain⟨c,h⟩:=zS h;unfold GH at a;rw[Vu]at a;have e:∀x,GG x=false->0<=x/\x<=100000:=λx hx=>wi (show bH x 0 100000=true from by
  have:(!bH x 0 100000)=false:=hx
  lia)
 simp at a;exact⟨wi (show bH r 0 100000=true from c),wi h,e t a.1,e b a.2⟩
theorem Oh{x:Int×Int×Int×Int×Unit}(h:xH x=true):1<=x.1/\x.1<=20000:=by
 exact wi (zS h).1
theorem aNn(x:Int×Int×Int×Int×Unit)(t b r g n:Int):aTw x t b r g n:=by
 have key:∀c:Bool,(JF r g [t,b]=true)->¬(zI x c != 0)=true->aTv x t b r g n:=λc hl hc=>by
  obtain⟨l1,l2,l3,l4⟩:=aFW hl;have hx:xH x=true:=by
   unfold zI at hc
   lia
  obtain⟨b1,b2⟩:=Oh hx;refine⟨⟨⟨by lia,by lia,by lia⟩,λv h0 hv=>?_⟩,trivial⟩;have m1:=mb (A:=400000) (B:=900) (a:=t+v-b-r) (b:=g) (by lia) (by lia);obtain⟨p,_⟩:=J0 (x:=(t+v-b-r)*g*981) (y:=100000) (by lia) (by lia) (by lia);exact⟨by grind [aK],⟨by grind [aK],by grind [aK],by grind [aK],by grind [aK],p,trivial⟩,trivial⟩
 unfold aTw;split
 ·grind
 ·grind [zI]
theorem J2{l:Γ Int}{k:Int}(h:JD l k=true):k<=l.length/\l.length<=32/\∀x∈l, -1000000000<=x/\x<=1000000000:=by
 obtain⟨a,h⟩:=zS h;obtain⟨b,h⟩:=zS h;have a:=of_decide_eq_true a;refine⟨a,by lia,λx hx=>?_⟩;unfold GD at h;rw[Vs,Bool.not_eq_true',List.any_eq_false]at h;have q:=h x hx;have w:=wi (show bH x _ _=true from nb q)
 lia
theorem aQp:∀(l:Γ Int) (s:Int),l.foldl aAb s=s\/l.foldl aAb s∈l
 | [],s => .inl rfl
 | a::r,s=>by
  rw[fR];rcases aQp r (aAb s a)with h | h
  ·rw[h];unfold aAb
   grind
  grind
theorem aQq(l:Γ Int)(n:Int):aZt l n:=by
 refine F0 λc=>F0 λc2=>?_;obtain⟨h1,h2,h3⟩:=J2 (nb c);have hl:(kE l n).length=l.length:=by simp[kE]
 have hc:∀x∈kE l n,x<=32:=λx hx=>by
  unfold kE at hx
  grind [Ae]
 have hm:vN (kE l n)∈kE l n:=by
  grind [vN,aQp]
 have h0:∀x∈kE l n,0<=x:=λx hx=>by
  unfold kE at hx
  grind
 refine⟨⟨by lia,λx hx=>h3 x hx⟩,show 1<=(kE l n).length by lia,by grind [aK],F0 λ_=>?_⟩;unfold GE;have hi:∃k,(kE l n).findIdx? (Sd (vN (kE l n)))=some k/\k<l.length:=by
  cases hf:(kE l n).findIdx? (Sd (vN (kE l n)))with
  | none =>
   grind [Sd]
  | some k =>
   rw[List.findIdx?_eq_some_iff_getElem]at hf
   lia
 obtain⟨k,hk,hk2⟩:=hi;rw[hk];show (0:Int)<=(k:Int)/\(k:Int)<_/\True
 lia
noncomputable section
def aBB(x0:Int)(x1:Int):Prop:=if x1==2 then bA .i64 (cP x0 4)/\if cP x0 4==0 then True else bA .i64 (x1-1)/\0<=x1-1/\x1-1<12/\True else bA .i64 (x1-1)/\0<=x1-1/\x1-1<12/\True
def mY(x0:Int)(x1:Int):Int:=if x1==2 then(if cP x0 4==0 then 29 else aD [31,28,31,30,31,30,31,31,30,31,30,31] (aE (x1-1)) 0)else aD [31,28,31,30,31,30,31,31,30,31,30,31] (aE (x1-1)) 0
def aWH:KK:=mB Tryz.func313 [.v (.int .i64),.v (.int .i64)] [.int .i64] [] aBB (mY,()) λ_=>tH (pw 4<|aO<|tH pr<|aO<|eE pr)<|dN<|aO<|eE pr
def aTQ:jB:=D0 aDT [.v (.int .i64),.v (.int .i64),.v (.int .i64)] [.int .i64,.bool] [lT,aWH]
mutual
def aNo:Nat->Int->Int->Int->Γ aS->Prop
 | 0,_,_,_,_=>False
 | n+1,x0,x1,x2,ds=>if !cJ x0 2000 2099 then ds=[aJ (.int .i64) 0,aJ .bool false] else if !cJ x1 1 12 then ds=[aJ (.int .i64) 0,aJ .bool false] else aBB x0 x1/\if !cJ x2 1 (mY x0 x1)then ds=[aJ (.int .i64) 0,aJ .bool false] else bA .i64 (x2-1)/\NA n (x2-1) 2000 x0 x1 ds
def NA:Nat->Int->Int->Int->Int->Γ aS->Prop
 | 0,_,_,_,_,_=>False
 | n+1,v8,v9,x0,x1,ds=>if decide (v9<x0)then bA .i64 (v8+365)/\bA .i64 (cP v9 4)/\if cP v9 4==0 then bA .i64 (v8+365+1)/\bA .i64 (v9+1)/\NA n (v8+365+1) (v9+1) x0 x1 ds else bA .i64 (v9+1)/\NA n (v8+365) (v9+1) x0 x1 ds else Kd n v8 1 x0 x1 ds
def Kd:Nat->Int->Int->Int->Int->Γ aS->Prop
 | 0,_,_,_,_,_=>False
 | n+1,v8,v10,x0,x1,ds=>if decide (v10<x1)then aBB x0 v10/\bA .i64 (v8+mY x0 v10)/\bA .i64 (v10+1)/\Kd n (v8+mY x0 v10) (v10+1) x0 x1 ds else ds=[aJ (.int .i64) v8,aJ .bool true]
end
def bAT(ds:Γ aS)(K:gU)(q:Nat->Value):∀n,(∀ {x0 x1 x2},aNo n x0 x1 x2 ds->St aTQ (x0,x1,x2,()) ds [] K q)/\(∀ {v8 v9 x0 x1},NA n v8 v9 x0 x1 ds->Cu aTQ 5 ([eI 0 x0,eI 1 x1,eI 8 v8,eI 9 v9],[]) ds [] K q)/\(∀ {v8 v10 x0 x1},Kd n v8 v10 x0 x1 ds->Cu aTQ 11 ([eI 0 x0,eI 1 x1,eI 8 v8,eI 10 v10],[]) ds [] K q):=nI ⟨aH,aH,aH⟩ λn ⟨i,i5,i11⟩=>⟨bS<|bU (j0<|j0 dR)<|bS<|bU (j0 dR)<|aO<|bS<|bU dR<|aO<|cX i5,
  bU (aO<|pw 4<|aO<|bU (aO<|aO<|cX i5)<|aO<|cX i5)<|cX i11,
  bU (aO<|aO<|aO<|cX i11) dR⟩
def CV(y:Int):Nat->Int
 | 0=>0
 | k+1=>CV y k+mY y ((k:Int)+1)
def AP:Nat->Int
 | 0=>0
 | k+1=>AP k+365+(if(cP (2000+(k:Int)) 4==0)=true then 1 else 0)
def aAo(x0 x1 x2:Int):Bool:=cJ x0 2000 2099&&(cJ x1 1 12&&cJ x2 1 (mY x0 x1))
def NB(x0 x1 x2:Int):Int:=if aAo x0 x1 x2 then x2-1+AP (x0-2000).toNat+CV x0 (x1-1).toNat else 0
def J3(x0 x1 x2:Int):Bool:=aAo x0 x1 x2
theorem Wr{x a b:Int}:cJ x a b=true↔a<=x/\x<=b:=by
 unfold cJ;by_cases c1:x>=a
 ·by_cases c2:x<=b
  ·simp[c1,c2]
  ·simp[c1,c2]
 ·have:¬a<=x:=c1;simp[c1,this]
theorem aJr{y m:Int}(hy:2000<=y/\y<=2099)(h:1<=m/\m<=12):aBB y m/\28<=mY y m/\mY y m<=31:=by
 have e:cP y 4=y%4:=gR (by omega);have hm:m=1\/m=2\/m=3\/m=4\/m=5\/m=6\/m=7\/m=8\/m=9\/m=10\/m=11\/m=12:=by omega
 unfold aBB mY;rw[e];have hi:bA .i64 (y%4):=by rw[aK];omega
 by_cases hz:(y%4==0)=true
 ·rcases hm with rfl | rfl | rfl | rfl | rfl | rfl | rfl | rfl | rfl | rfl | rfl | rfl <;> simp[hz,hi] <;> decide
 ·rcases hm with rfl | rfl | rfl | rfl | rfl | rfl | rfl | rfl | rfl | rfl | rfl | rfl <;> simp[hz,hi] <;> decide
theorem aQr{y:Int}(hy:2000<=y/\y<=2099):∀k,k<=12->0<=CV y k/\CV y k<=31*k
 | 0,_=>by simp[CV]
 | k+1,h=>by
  have:=aQr hy k (by omega);have:=aJr hy (m:=(k:Int)+1) (by omega);simp only[CV];omega
theorem aJs:∀k,0<=AP k/\AP k<=366*k
 | 0=>by simp[AP]
 | k+1=>by
  have:=aJs k;simp only[AP];split <;> omega
theorem aTR{y m:Int}(hy:2000<=y/\y<=2099)(hm:1<=m/\m<=12)(v:Int)(hv:0<=v/\v<=1000000):∀(k i:Nat),(i:Int)+k=m-1 ->
  Kd (k+1) (v+CV y i) ((i:Int)+1) y m [⟨.int .i64,v+CV y (m-1).toNat⟩,⟨.bool,true⟩]:=by
 intro k
 induction k with
 | zero =>
  intro i hi;rw[Kd,ν (by simp;omega),show (m-1).toNat=i by omega]
 | succ k ih =>
  intro i hi;obtain⟨p,l1,l2⟩:=aJr hy (m:=(i:Int)+1) (by omega);obtain⟨b1,b2⟩:=aQr hy i (by omega);rw[Kd,π (by simp;omega)];have e1:v+CV y i+mY y ((i:Int)+1)=v+CV y (i+1):=by simp only[CV];omega
  have e2:(i:Int)+1+1=((i+1:Nat):Int)+1:=by omega
  refine⟨p,by rw[aK];omega,by rw[aK];omega,?_⟩;rw[e1,e2];exact ih (i+1) (by omega)
theorem aTS{y m:Int}(hy:2000<=y/\y<=2099)(hm:1<=m/\m<=12)(v:Int)(hv:0<=v/\v<=30):∀(k i:Nat),(i:Int)+k=y-2000 ->
  NA (k+1+((m-1).toNat+1)) (v+AP i) (2000+(i:Int)) y m [⟨.int .i64,v+AP (y-2000).toNat+CV y (m-1).toNat⟩,⟨.bool,true⟩]:=by
 intro k
 induction k with
 | zero =>
  intro i hi;obtain⟨b1,b2⟩:=aJs i;rw[show 0+1+((m-1).toNat+1)=((m-1).toNat+1)+1 by omega,NA,ν (by simp;omega),show (y-2000).toNat=i by omega];have:=aTR hy hm (v+AP i) (by omega) (m-1).toNat 0 (by omega);simpa [CV] using this
 | succ k ih =>
  intro i hi;obtain⟨b1,b2⟩:=aJs i;have et:cP (2000+(i:Int)) 4=(2000+(i:Int))%4:=gR (by omega);have hin:=ih (i+1) (by omega);have e2:2000+(i:Int)+1=2000+((i+1:Nat):Int):=by omega
  simp only[AP]at hin;rw[show k+1+1+((m-1).toNat+1)=(k+1+((m-1).toNat+1))+1 by omega,NA,π (by simp;omega)];refine⟨by rw[aK];omega,by rw[aK,et];omega,?_⟩;by_cases hz:(cP (2000+(i:Int)) 4==0)=true
  ·rw[π hz]at hin ⊢;rw[e2,show v+AP i+365+1=v+(AP i+365+1)by omega];exact⟨by rw[aK];omega,by rw[aK];omega,hin⟩
  ·rw[ν hz]at hin ⊢;rw[e2,show v+AP i+365=v+(AP i+365+0)by omega];exact⟨by rw[aK];omega,hin⟩
theorem bAU(x0 x1 x2:Int)(hx:bA .i64 x2):∃n,aNo n x0 x1 x2 [⟨.int .i64,NB x0 x1 x2⟩,⟨.bool,J3 x0 x1 x2⟩]:=by
 unfold NB J3 aAo;cases h0:cJ x0 2000 2099 with
 | false=>exact⟨1,by rw[aNo,π (by rw[h0];rfl)];simp⟩
 | true =>
  have h0':=Wr.1 h0;cases h1:cJ x1 1 12 with
  | false=>exact⟨1,by rw[aNo,ν (by rw[h0];decide),π (by rw[h1];rfl)];simp⟩
  | true =>
   have h1':=Wr.1 h1;obtain⟨p,l1,l2⟩:=aJr h0' h1';cases h2:cJ x2 1 (mY x0 x1)with
   | false=>exact⟨1,by rw[aNo,ν (by rw[h0];decide),ν (by rw[h1];decide)];exact⟨p,by rw[π (by rw[h2];rfl)];simp⟩⟩
   | true =>
    have h2':=Wr.1 h2;refine⟨((x0-2000).toNat+1+((x1-1).toNat+1))+1,?_⟩;rw[aNo,ν (by rw[h0];decide),ν (by rw[h1];decide)];refine⟨p,?_⟩;rw[ν (by rw[h2];decide)];refine⟨by rw[aK];omega,?_⟩;have:=aTS h0' h1' (x2-1) (by omega) (x0-2000).toNat 0 (by omega);simpa [AP] using this
def bHM:KK:=mL aTQ (DO aDT) nP (NB,J3,()) (λ⟨x0,x1,x2,_⟩ h hwf K q =>
 let ⟨n,hn⟩:=bAU x0 x1 x2 hwf.2.2.1
 (bAT _ K q n).1 hn)
end
theorem aBC{y m:Int}(hm:1<=m/\m<=12):mY y m=mW y m:=by
 have hm:m=1\/m=2\/m=3\/m=4\/m=5\/m=6\/m=7\/m=8\/m=9\/m=10\/m=11\/m=12:=by lia
 rcases hm with rfl | rfl | rfl | rfl | rfl | rfl | rfl | rfl | rfl | rfl | rfl | rfl <;> rfl
theorem aWI(y:Int):∀k,k<=12->CV y k=lR y k
 | 0,_=>rfl
 | k+1,h=>by
  simp[CV,lR];rw[aWI y k (by omega),aBC (m:=(k:Int)+1) (by omega)]
theorem aWJ:∀k:Nat,AP k=365*(k:Int)+((k:Int)+3)/4
 | 0=>rfl
 | k+1=>by
  simp[AP];rw[aWJ k]
  lia
def Y6(y m d:Int):Prop:=(2000<=y/\y<=2099)/\(1<=m/\m<=12)/\(1<=d/\d<=mW y m)
def Pl(y:Int):Int:=(y-2000)*365+(y-1997)/4
theorem NC{y m d:Int}(hy:2000<=y):fK y m d=Pl y+lR y (m-1).toNat+d-1:=by
 grind [fK,aAa,Pl]
theorem bAV{y m d:Int}(h:Y6 y m d):NB y m d=fK y m d/\J3 y m d=true:=by
 obtain⟨h0,h1,h2⟩:=h;have ok:aAo y m d=true:=by
  grind [aAo,Wr,aBC]
 refine⟨?_,ok⟩;unfold NB;rw[NC h0.1,aWJ,aWI y _ (by lia)]
 grind [Pl]
theorem bAW{y m d:Int}(h:J3 y m d=true):Y6 y m d:=by
 unfold J3 aAo at h;simp at h;have h1:=Wr.1 h.2.1;refine⟨Wr.1 h.1,h1,?_⟩
 grind [Wr,aBC]
theorem win{x a b:Int}:bH x a b=true↔a<=x/\x<=b:=by
 simp[bH]
theorem aTT{y m d:Int}(h:Y6 y m d):MV y m d=fK y m d/\Ie y m d=0:=by
 obtain⟨h0,h1,h2⟩:=h;unfold MV Ie;rw[win.2 h0,win.2 h1,win.2 h2]
 lia
theorem bAX{y m d:Int}(h:Ie y m d=0):Y6 y m d:=by
 unfold Ie at h;cases h0:bH y 2000 2099 with
 | false=>lia
 | true =>
  cases h1:bH m 1 12 with
  | false=>lia
  | true =>
   cases h2:bH d 1 (mW y m)with
   | false=>lia
   | true=>exact⟨win.1 h0,win.1 h1,win.1 h2⟩
theorem aBD{y:Int}(hy:2000<=y/\y<=2099)(i:Nat):∀j,lR y i<=lR y (i+j)
 | 0=>dO _
 | j+1=>by
  have:=aBD hy i j;have:=(MU hy (m:=((i+j:Nat):Int)+1)).2.1
  grind [lR]
theorem aBE{y:Int}(hy:2000<=y/\y<=2099):Pl y+lR y 12=Pl (y+1):=by
 have et:cP y 4=y%4:=gR (by lia);have e:lR y 12=if y%4=0 then 366 else 365:=by
  by_cases hz:y%4=0 <;> simp[lR,mW,et,hz]
 grind [Pl]
theorem aNq{y day:Int}(hy:2000<=y/\y<=2099)(h1:Pl y<=day)(h2:day<Pl (y+1)):∀(k:Nat) (z:Int),z+k=2099->2000<=z->z<=y->OW day k z=y:=by
 have e1:∀z:Int,2000<=z->fK z 1 1=Pl z:=λz hz=>by
  rw[NC hz];show Pl z+0+1-1=Pl z
  lia
 intro k
 induction k with
 | zero=>intro z hz _ hle;show z=y;lia
 | succ k ih =>
  intro z hz h0 hle;unfold OW;by_cases hlt:z<y
  ·rw[π (by grind [Pl])]
   grind
  grind
theorem aJt{y m day:Int}(hy:2000<=y/\y<=2099)(hm:1<=m/\m<=12)(h1:Pl y+lR y (m-1).toNat<=day)(h2:day<Pl y+lR y m.toNat):∀(k:Nat) (z:Int),z+k=12->1<=z->z<=m->OX day y k z=m:=by
 intro k
 induction k with
 | zero=>intro z hz _ hle;show z=m;lia
 | succ k ih =>
  intro z hz h0 hle;unfold OX;rw[NC hy.1];by_cases hlt:z<m
  ·rw[π (by
    have:=aBD hy z.toNat ((m-1).toNat-z.toNat)
    grind)]
   grind
  grind
theorem RG{y m d:Int}(h:Y6 y m d):(0<=fK y m d/\fK y m d<=36524)/\Ac (fK y m d)=y/\CG (fK y m d)=m/\MX (fK y m d)=d:=by
 obtain⟨h0,h1,h2⟩:=h;have ed:=NC (m:=m) (d:=d) h0.1;have hb:=aBq h0 (m-1).toNat;have hms:lR y m.toNat=lR y (m-1).toNat+mW y m:=by
  obtain⟨k,hk⟩:∃k:Nat,m=(k:Int)+1:=⟨(m-1).toNat,by lia⟩;subst hk;rw[show ((k:Int)+1-1).toNat=k by lia];rfl
 have hy12:=aBE h0;have hmono:=aBD h0 m.toNat (12-m.toNat);rw[show m.toNat+(12-m.toNat)=12 by lia]at hmono;have hbas:0<=Pl y/\Pl (y+1)<=36525:=by grind [Pl]
 have a0:Ac (fK y m d)=y:=aNq h0 (by lia) (by lia) 99 2000 (by lia) (by lia) (by lia);have a1:CG (fK y m d)=m:=by
  grind [CG,aJt]
 unfold MX;rw[a0,a1,NC (m:=m) (d:=1) h0.1]
 lia
def CW(b:UInt8):Prop:=48<=b.toNat/\b.toNat<=57
def xU:Γ UInt8->Nat->Nat
 | [],n=>n
 | b::r,n=>xU r (10*n+(b.toNat-48))
theorem J4:∀(l:Γ UInt8) (b:UInt8) (n:Nat),xU (l++[b]) n=10*xU l n+(b.toNat-48)
 | [],_,_=>rfl
 | c::r,b,n=>J4 r b _
theorem Ws:∀(l:Γ UInt8) (n:Nat),1<=n->1<=xU l n
 | [],_,h=>h
 | b::r,n,h=>Ws r _ (by lia)
theorem aAp{a:Nat}(h:a<10):(jU (48+a)).toNat=48+a:=by grind [qZ]
theorem pN(n:Nat):(∀b∈bN n,CW b)/\xU (bN n) 0=n/\0<(bN n).length/\(1<=n->((bN n).getD 0 0).toNat≠48):=by
 induction n using Nat.strongRecOn with
 | _ n ih =>
  by_cases h:n<10
  ·rw[bN,dif_pos h];have e:=aAp h;refine⟨λb hb=>?_,?_,by simp,λh1=>?_⟩
   ·grind [CW]
   ·show 10*0+((jU (48+n)).toNat-48)=n;lia
   grind
  ·rw[bN,dif_neg h];obtain⟨i1,i2,i3,i4⟩:=ih (n/10) (by omega);have e:=aAp (a:=n%10) (by omega);refine⟨λb hb=>?_,?_,by simp,λh1=>?_⟩
   ·rcases cY.1 hb with hb | hb
    ·exact i1 b hb
    ·rw[dU.1 hb];unfold CW;omega
   ·rw[J4];omega
   ·have i4:=i4 (by omega);cases hd:bN (n/10)with
    | nil=>rw[hd]at i3;simp at i3
    | cons c r=>rw[hd]at i4;exact i4
theorem RH(n:Nat):∀l:Γ UInt8,l.length=n->(∀b∈l,CW b)->0<l.length->((l.getD 0 0).toNat≠48\/l.length=1)->bN (xU l 0)=l:=by
 induction n with
 | zero=>lia
 | succ n ih =>
  intro l hl hd h0 hc;rcases List.eq_nil_or_concat l with rfl | ⟨l',b,rfl⟩
  ·grind
  ·rw[List.concat_eq_append]at *;have hb:CW b:=hd b (by simp);unfold CW at hb;rw[J4];cases l' with
   | nil =>
    rw[bN,dif_pos (by show 10*0+(b.toNat-48)<10;lia)];show [jU (48+(10*0+(b.toNat-48)))]=[b];simp_all
   | cons c r =>
    have hc':c.toNat≠48:=by
     grind
    have hcd:CW c:=hd c (by simp);unfold CW at hcd;have hp:1<=xU (c::r) 0:=Ws r _ (by lia);have hi:=ih (c::r) (by grind) (λx hx=>hd x (dA _ hx)) (by simp) (.inl hc');rw[bN,dif_neg (by lia),show (10*xU (c::r) 0+(b.toNat-48))/10=xU (c::r) 0 by lia,show (10*xU (c::r) 0+(b.toNat-48))%10=b.toNat-48 by lia];simp_all
theorem aBF:∀(k n:Nat),n<10^(k+1)->(bN n).length<=k+1
 | 0,n,h=>by rw[bN,dif_pos (by lia)];simp
 | k+1,n,h=>by
  rw[bN];split
  ·simp
  ·have:=aBF k (n/10) (by lia)
   grind
theorem aJu{n:Nat}(h:n<1000000000000):eV ⟨⟨bN n⟩⟩=(n:Int):=by
 have key:∀(l:Γ UInt8) (m:Nat),(∀b∈l,CW b)->CE l (m:Int)=(xU l m:Nat):=by
  intro l
  induction l with
  | nil=>intro m _;rfl
  | cons b r ih =>
   intro m hd;have hb:CW b:=hd b (aR ..);unfold CW at hb;unfold CE;rw[π (by lia)];have e1:10*(m:Int)+((b.toNat:Int)-48)=((10*m+(b.toNat-48):Nat):Int):=by lia
   rw[e1];exact ih _ (λc hc=>hd c (aM _ hc))
 obtain⟨d1,d2,d3,_⟩:=pN n;have hl:=aBF 11 n (by lia);have hs:(aA ⟨bN n⟩).size=(bN n).length:=rfl;unfold eV
 grind
def y4(y:Nat):Γ UInt8:=[50,48,mQ (y%100/10),mQ (y%10)]
def dT(y m d:Nat):Δ:=⟨⟨y4 y++45::([mQ (m/10),mQ (m%10)]++45 :: [mQ (d/10),mQ (d%10)])⟩⟩
theorem aBG{y:Nat}(h:2000<=y/\y<=2099):bN y=y4 y:=by
 have e1:y/10/10=20:=by lia
 have e2:y/10%10=y%100/10:=by lia
 rw[bN,bN,dif_neg (by lia),e1,e2,bN,dif_neg (by lia),bN];rfl
theorem Tu{y:Nat}(h:2000<=y/\y<=2099):dF (y:Int)=⟨⟨y4 y⟩⟩:=by
 rw[<- aBG h];rfl
theorem aQs{a:Nat}(h:a<10):mQ a≠45:=λe=>by
 have:=congrArg cR e
 grind [pB]
theorem aFX{a b:Nat}(ha:a<10)(hb:b<10):(45:UInt8) ∉ [mQ a,mQ b]:=λhm=>by
 grind [aQs]
theorem aTU(y:Nat):(45:UInt8) ∉ y4 y:=λhm=>by
 unfold y4 at hm
 grind [aQs]
theorem aQt{y m d:Nat}(hm:m<100)(hd:d<100):bJ (dT y m d) (aA #[45])=[⟨⟨y4 y⟩⟩,⟨⟨[mQ (m/10),mQ (m%10)]⟩⟩,⟨⟨[mQ (d/10),mQ (d%10)]⟩⟩]:=by
 have e:bJ (dT y m d) (aA #[45])=bss (cH 45 (dT y m d).data.toList):=vC 45 (dT y m d);rw[e];show bss (cH 45 (y4 y++45::([mQ (m/10),mQ (m%10)]++45 :: [mQ (d/10),mQ (d%10)])))=_;rw[nS 45 _ (aTU y),nS 45 _ (aFX (by lia) (by lia)),lG 45 (aFX (by lia) (by lia))];rfl
theorem J5{y m d:Int}(h:Y6 y m d):∃a b c:Nat,y=(a:Int)/\m=(b:Int)/\d=(c:Int)/\(2000<=a/\a<=2099)/\(1<=b/\b<=12)/\(1<=c/\c<=31):=by
 obtain⟨h0,h1,h2⟩:=h;have:=(MU h0 (m:=m)).2.2;exact⟨y.toNat,m.toNat,d.toNat,by lia,by lia,by lia,by lia,by lia,by lia⟩
theorem Ez{a b c:Nat}(h:Y6 (a:Int) (b:Int) (c:Int))(ha:2000<=a/\a<=2099)(hb:b<=12)(hc:c<=31):oY (fK (a:Int) (b:Int) (c:Int))=dT a b c:=by
 obtain⟨hd,e0,e1,e2⟩:=RG h;have hi:pK (fK (a:Int) (b:Int) (c:Int))=true:=win.2 hd;unfold oY;rw[hi,e0,e1,e2,Tu ha,(DV (n:=b) (by lia)).2,(DV (n:=c) (by lia)).2]<;>rfl
theorem J6{y m d:Int}(h:Y6 y m d):MY (fK y m d):=by
 obtain⟨a,b,c,rfl,rfl,rfl,ha,hb,hc⟩:=J5 h;obtain⟨hd,e0,e1,e2⟩:=RG h;unfold MY;rw[e0,e1,e2,Tu ha];obtain⟨p1,q1⟩:=DV (n:=b) (by lia);obtain⟨p2,q2⟩:=DV (n:=c) (by lia);rw[q1,q2];have s4:(aA ⟨y4 a⟩).size=4:=rfl;have s1:(aA #[45]).size=1:=rfl;have s2:∀u v:UInt8,(aA ⟨[u,v]⟩).size=2:=λ_ _=>rfl;by_cases hc:(!pK (fK (a:Int) (b:Int) (c:Int)))=true
 ·lia
 ·rw[ν hc];simp only[bD,s2];exact⟨⟨by lia,by lia⟩,⟨rfl,trivial⟩,by lia,p1,by lia,by lia,p2,by lia,trivial⟩
theorem aNr{y:Nat}(h:2000<=y/\y<=2099):eV ⟨⟨y4 y⟩⟩=(y:Int):=by
 rw[<- aBG h]
 grind [aJu]
theorem Tv{a b c:Nat}(h:Y6 (a:Int) (b:Int) (c:Int))(ha:2000<=a/\a<=2099)(hb:b<=12)(hc:c<=31):rJ (dT a b c)=fK (a:Int) (b:Int) (c:Int)/\uC (dT a b c)=true:=by
 have n1:=aNr ha;have n2:eV ⟨⟨[mQ (b/10),mQ (b%10)]⟩⟩=(b:Int):=by grind [GV]
 have n3:eV ⟨⟨[mQ (c/10),mQ (c%10)]⟩⟩=(c:Int):=by grind [GV]
 obtain⟨i0,i1⟩:=aTT h;unfold rJ uC;rw[aQt (by lia) (by lia)];simp[n1,n2,n3,i0,i1,Ez h ha hb hc,bne_self_eq_false,beq_self_eq_true,u0,fU,if_false,and_self]
theorem aKO{x:Δ}(hx:uC x=true):∃a b c:Nat,Y6 (a:Int) (b:Int) (c:Int)/\(2000<=a/\a<=2099)/\(1<=b/\b<=12)/\(1<=c/\c<=31)/\x=dT a b c:=by
 unfold uC at hx;generalize eV (aD (bJ x (aA #[45])) 0 aC)=y at hx;generalize eV (aD (bJ x (aA #[45])) 1 aC)=m at hx;generalize eV (aD (bJ x (aA #[45])) 2 aC)=d at hx;split at hx
 ·lia
 ·split at hx
  ·lia
  ·split at hx
   ·lia
   ·have h:Y6 y m d:=bAX (by lia);obtain⟨a,b,c,rfl,rfl,rfl,ha,hb,hc⟩:=J5 h
    grind [bE,aTT,Ez]
theorem chI{c:Prop}[Decidable c]{B:Bool}{A:Int}(h:B=false->A=0)(hx:(if c then false else B)=false):(if c then 0 else A)=0:=by
 lia
theorem aKP{x:Δ}(hx:uC x=false):rJ x=0 :=
 (chI (chI (chI (λh=>by lia)))) hx
theorem Wt:∀(l:Γ UInt8) (m:Nat),(∀b∈l,CW b)->vT l (m:Int)=(((xU l m:Nat):Int),true)
 | [],_,_=>rfl
 | b::r,m,hd=>by
  have hb:CW b:=hd b (aR ..);unfold CW at hb;unfold vT LP;rw[π (by lia)];have e1:10*(m:Int)+((b.toNat:Int)-48)=((10*m+(b.toNat-48):Nat):Int):=by lia
  rw[e1];exact Wt r _ (λc hc=>hd c (aM _ hc))
theorem Wu:∀(l:Γ UInt8) (n:Int),(vT l n).2=true->∀b∈l,CW b
 | [],n,h,b,hb=>by grind
 | c::r,n,h,b,hb=>by
  unfold vT at h;split at h
  ·rename_i hd;rcases aW.1 hb with rfl | hb
   ·unfold LP at hd;unfold CW;simpa using hd
   ·exact Wu r _ h b hb
  lia
theorem aKQ{a b:UInt8}(h:oF ⟨⟨[a,b]⟩⟩=true):∃n:Nat,n<100/\kH ⟨⟨[a,b]⟩⟩=(n:Int)/\[a,b]=[mQ (n/10),mQ (n%10)]:=by
 have hall:=Wu [a,b] 0 h;have ha:CW a:=hall a (by simp);have hb:CW b:=hall b (by simp);have hv:=Wt [a,b] 0 hall;unfold CW at ha hb;refine⟨10*(a.toNat-48)+(b.toNat-48),by lia,?_,?_⟩
 ·have:=congrArg Prod.fst hv;refine Eq.trans this ?_;simp[xU]
 ·rw[show (10*(a.toNat-48)+(b.toNat-48))/10=a.toNat-48 by lia,show (10*(a.toNat-48)+(b.toNat-48))%10=b.toNat-48 by lia, <- RE ha, <- RE hb]
theorem aKR{n:Nat}(h:n<100):kH ⟨⟨[mQ (n/10),mQ (n%10)]⟩⟩=(n:Int)/\oF ⟨⟨[mQ (n/10),mQ (n%10)]⟩⟩=true:=by
 have x1:=pB (a:=n/10) (by lia);have x2:=pB (a:=n%10) (by lia);have hall:∀b∈[mQ (n/10),mQ (n%10)],CW b:=λb hb=>by
  simp at hb;unfold CW
  lia
 have hv:=Wt _ 0 hall;refine⟨?_,congrArg Prod.snd hv⟩;have:=congrArg Prod.fst hv;refine Eq.trans this ?_
 grind [xU]
theorem bAY{y:Nat}(h:2000<=y/\y<=2099):kH ⟨⟨y4 y⟩⟩=(y:Int)/\oF ⟨⟨y4 y⟩⟩=true:=by
 obtain⟨d1,d2,_,_⟩:=pN y;rw[aBG h]at d1 d2;have hv:=Wt (y4 y) 0 d1;rw[d2]at hv;exact⟨congrArg Prod.fst hv,congrArg Prod.snd hv⟩
theorem aQu{l:Γ UInt8}(hl:l.length=4)(h:oF ⟨⟨l⟩⟩=true)(hy:2000<=kH ⟨⟨l⟩⟩/\kH ⟨⟨l⟩⟩<=2099):∃n:Nat,(2000<=n/\n<=2099)/\kH ⟨⟨l⟩⟩=(n:Int)/\l=y4 n:=by
 have hall:=Wu l 0 h;have hv:=Wt l 0 hall;have e:kH ⟨⟨l⟩⟩=((xU l 0:Nat):Int):=congrArg Prod.fst hv;refine⟨xU l 0,by lia,e,?_⟩;rw[<- aBG (by lia)];refine(RH l.length l rfl hall (by lia) (.inl ?_)).symm
 match l,hl with
 | [a,b,c,f],_ =>
  have hb:=hall b (by simp);have hc:=hall c (by simp);have hf:=hall f (by simp)
  grind [CW,xU]
def Ke(l:Γ UInt8)(a b:Nat):aN ⟨⟨l⟩⟩ a b=⟨⟨(l.drop a).take (b-a)⟩⟩:=pU l a b
theorem bHN{b:UInt8}:(((b.toNat:Nat):Int) != 45)=true↔b≠45:=by
 rw[bne_iff_ne];constructor
 ·intro h e;simp_all
 ·intro h e;apply h;apply jL.1
  lia
theorem aKS(x:Δ)(h:x.size<=1048576):aM2 x:=by
 have ifT3:∀ {c:Prop} [Decidable c] {Q:Prop},(¬c->Q)->if c then True else Q:=by
  lia
 refine⟨⟨by lia,aT 1⟩,ifT3 λh0=>?_⟩;generalize eV (aD (bJ x (aA #[45])) 0 aC)=y;generalize eV (aD (bJ x (aA #[45])) 1 aC)=m;generalize eV (aD (bJ x (aA #[45])) 2 aC)=d;refine⟨by lia,by lia,by lia,?_,ifT3 λh1=>?_⟩
 ·refine ifT3 λa1=>ifT3 λa2=>?_;have a1':=win.1 (show bH y 2000 2099=true by lia);have a2':=win.1 (show bH m 1 12=true by lia);obtain⟨l0,l1,l2⟩:=MU a1' (m:=m);refine⟨l0,ifT3 λa3=>?_⟩;have a3':=win.1 (show bH d 1 (mW y m)=true by lia);exact⟨⟨a1',a2',by lia⟩,trivial⟩
 ·have hD:Y6 y m d:=bAX (by lia);rw[(aTT hD).1];exact⟨J6 hD,trivial⟩
theorem aNs:Pl 2000=0:=by rfl
theorem aFY{day:Int}(h:0<=day/\day<=36524):∃y m d:Int,Y6 y m d/\fK y m d=day:=by
 have hy:∀k:Nat,day<Pl (2000+(k:Int))->∃y:Int,(2000<=y/\y<2000+(k:Int))/\Pl y<=day/\day<Pl (y+1):=by
  intro k
  induction k with
  | zero=>grind [Pl]
  | succ k ih =>
   grind
 obtain⟨y,hy1,hy2,hy3⟩:=hy 100 (by grind [Pl]);have hyr:2000<=y/\y<=2099:=by lia
 have hm:∀k:Nat,day<Pl y+lR y k->∃j:Nat,j<k/\Pl y+lR y j<=day/\day<Pl y+lR y (j+1):=by
  intro k
  induction k with
  | zero=>grind [lR]
  | succ k ih =>
   grind
 obtain⟨j,hj,hj1,hj2⟩:=hm 12 (by grind [aBE]);simp[lR]at hj2;refine⟨y,(j:Int)+1,day-(Pl y+lR y j)+1,⟨hyr,by lia,by lia,by lia⟩,?_⟩;rw[NC hyr.1];simp;lia
noncomputable section
def d42:jB:=D0 aHu [.v (.str)] [.int .i64,.bool] [aPQ]
mutual
def R42:Nat->Δ->Γ aS->Prop
 | 0,_,_=>False
 | n+1,x0,ds=>if decide ((↑(aG x0):Int)>0)then 0<(↑(aG x0):Int)/\if(↑(cR (aD (cE (bO x0)) 0 0)):Int)==45 then(if(↑(aG x0):Int)==1 then ds=[aJ (.int .i64) 0,aJ .bool false] else bA .i64 ((↑(aG x0):Int)-1)/\if decide ((↑(aG x0):Int)-1>18)then ds=[aJ (.int .i64) 0,aJ .bool false] else 1<(↑(aG x0):Int)/\if(↑(cR (aD (cE (bO x0)) 1 0)):Int)==48 then(if decide ((↑(aG x0):Int)>1)then ds=[aJ (.int .i64) 0,aJ .bool false] else J7 n 1 0 1 x0 ds)else J7 n 1 0 1 x0 ds)else if(↑(aG x0):Int)==0 then ds=[aJ (.int .i64) 0,aJ .bool false] else bA .i64 ((↑(aG x0):Int)-0)/\if decide ((↑(aG x0):Int)-0>18)then ds=[aJ (.int .i64) 0,aJ .bool false] else 0<(↑(aG x0):Int)/\if(↑(cR (aD (cE (bO x0)) 0 0)):Int)==48 then(if decide ((↑(aG x0):Int)>1)then ds=[aJ (.int .i64) 0,aJ .bool false] else J7 n 0 0 0 x0 ds)else J7 n 0 0 0 x0 ds else if(↑(aG x0):Int)==0 then ds=[aJ (.int .i64) 0,aJ .bool false] else bA .i64 ((↑(aG x0):Int)-0)/\if decide ((↑(aG x0):Int)-0>18)then ds=[aJ (.int .i64) 0,aJ .bool false] else 0<(↑(aG x0):Int)/\if(↑(cR (aD (cE (bO x0)) 0 0)):Int)==48 then(if decide ((↑(aG x0):Int)>1)then ds=[aJ (.int .i64) 0,aJ .bool false] else J7 n 0 0 0 x0 ds)else J7 n 0 0 0 x0 ds
def J7:Nat->Int->Int->Int->Δ->Γ aS->Prop
 | 0,_,_,_,_,_=>False
 | n+1,v4,v5,v6,x0,ds=>if decide (v6<(↑(aG x0):Int))then 0<=v6/\v6<(↑(aG x0):Int)/\if !uF (↑(cR (aD (cE (bO x0)) (aE v6) 0)):Int)then ds=[aJ (.int .i64) 0,aJ .bool false] else bA .i64 (10*v5)/\0<=v6/\v6<(↑(aG x0):Int)/\bA .u8 ((↑(cR (aD (cE (bO x0)) (aE v6) 0)):Int)-48)/\bA .i64 ((↑(cR (aD (cE (bO x0)) (aE v6) 0)):Int)-48)/\bA .i64 (10*v5+((↑(cR (aD (cE (bO x0)) (aE v6) 0)):Int)-48))/\bA .i64 (v6+1)/\J7 n v4 (10*v5+((↑(cR (aD (cE (bO x0)) (aE v6) 0)):Int)-48)) (v6+1) x0 ds else if v4==1 then bA .i64 (0-v5)/\ds=[aJ (.int .i64) (0-v5),aJ .bool true] else ds=[aJ (.int .i64) v5,aJ .bool true]
end
def bHP(ds:Γ aS)(K:gU)(q:Nat->Value):∀n,(∀ {x0},R42 n x0 ds->St d42 (x0,()) ds [] K q)/\(∀ {v4 v5 v6 x0},J7 n v4 v5 v6 x0 ds->Cu d42 8 ([eS 0 x0,eI 4 v4,eI 5 v5,eI 6 v6],[]) ds [] K q):=nI ⟨aH,aH⟩ λn ⟨i,i8⟩=>⟨bU (pq 0<|aO<|bU (bU (j0<|j0 dR)<|aO<|bU (j0 dR)<|pq 1<|aO<|bU (bU dR<|cX i8)<|dN<|cX i8)<|bU (j0<|j0 dR)<|aO<|bU (j0 dR)<|pq 0<|aO<|bU (bU dR<|cX i8)<|dN<|cX i8)<|dN<|bU (j0<|j0 dR)<|aO<|bU (j0 dR)<|pq 0<|aO<|bU (bU dR<|cX i8)<|dN<|cX i8,
  bU (eE<|bS<|bU dR<|aO<|eE<|aO<|aO<|aO<|aO<|cX i8)<|bU (aO dR) dR⟩
def H8(off:Nat)(p:Int×Bool):Int×Bool:=if off=1 then(0-p.1,p.2)else p
def aAq:Γ UInt8->Int×Bool
 | []=>(0,false)
 | b::r=>if b.toNat=45 then(if r.length=0\/18<r.length\/(r.getD 0 0).toNat=48 then(0,false)else H8 1 (vT r 0))
  else if 18<r.length+1\/(b.toNat=48/\0<r.length)then(0,false)else H8 0 (vT (b::r) 0)
def nK(x0:Δ):Int:=(aAq x0.data.toList).1
def wG(x0:Δ):Bool:=(aAq x0.data.toList).2
theorem aQv(x0:Δ)(off:Nat)(hs:x0.size<=off+18)(ho:off<=1):∀(k j m:Nat),off+j+k=x0.size->m<10^j ->
  J7 (k+1) (off:Int) (m:Int) ((off+j:Nat):Int) x0 [⟨.int .i64,(H8 off (vT (x0.data.toList.drop (off+j)) (m:Int))).1⟩,⟨.bool,(H8 off (vT (x0.data.toList.drop (off+j)) (m:Int))).2⟩]:=by
 intro k;have hll:x0.data.toList.length=x0.size:=rfl
 induction k with
 | zero =>
  intro j m hi hm;have hp:10^j<=10^18:=lO (by decide) (by omega);have hm2:m<1000000000000000000:=cZ hm hp;rw[J7,ν (by simp;omega),gC (by omega)];unfold H8 vT;by_cases h1:off=1
  ·subst h1;rw[π (by rfl)];exact⟨by rw[aK];omega,rfl⟩
  ·obtain rfl:off=0:=by omega
   rw[ν (by decide)]<;>rfl
 | succ k ih =>
  intro j m hi hm;have hlt:off+j<x0.data.toList.length:=by rw[hll];omega
  have hcons:x0.data.toList.drop (off+j)=x0.data.toList.getD (off+j) 0::x0.data.toList.drop (off+j+1):=eD _ _ 0 hlt;rw[J7,π (by simp only[ε];omega),hcons];simp only[aI];generalize x0.data.toList.getD (off+j) 0=b at *;refine⟨by omega,by omega,?_⟩;have hg:uF (b.toNat:Int)=LP b:=by
   unfold uF LP;by_cases h1:48<=b.toNat
   ·have h1':(b.toNat:Int)>=48:=by omega
    by_cases h2:b.toNat<=57
    ·have h2':(b.toNat:Int)<=57:=by omega
     simp[h1,h2,h1',h2']
    ·have h2':¬(b.toNat:Int)<=57:=by omega
     simp[h1,h2,h1',h2']
   ·have h1':¬(b.toNat:Int)>=48:=by omega
    simp[h1,h1']
  rw[hg];unfold vT;cases hd:LP b with
  | false=>simp[H8]
  | true =>
   have hd':48<=b.toNat/\b.toNat<=57:=by unfold LP at hd;simpa using hd
   have hp:10^j<=10^17:=lO (by decide) (by omega);have hm2:m<100000000000000000:=cZ hm hp;simp only[u0,fU,if_false,if_true];refine⟨by rw[aK];omega,by omega,by omega,?_,by rw[aK];omega,by rw[aK];omega,by rw[aK];omega,?_⟩
   ·rw[QT];omega
   ·have e1:10*(m:Int)+((b.toNat:Int)-48)=((10*m+(b.toNat-48):Nat):Int):=by omega
    have e2:((off+j:Nat):Int)+1=((off+(j+1):Nat):Int):=by omega
    rw[e1,e2];exact ih (j+1) (10*m+(b.toNat-48)) (by omega) (by rw[BY];omega)
theorem bHQ(x0:Δ)(hm:x0.size<=9223372036854775807):∃n,R42 n x0 [⟨.int .i64,nK x0⟩,⟨.bool,wG x0⟩]:=by
 obtain⟨⟨l⟩⟩:=x0;unfold nK wG;cases l with
 | nil=>exact⟨1,by
   rw[R42,ν (by decide),π (by decide)];rfl⟩
 | cons b r =>
  have hsz:(aA ⟨b::r⟩).size=r.length+1:=rfl;rw[hsz]at hm;have g0:aD (cE (bO (aA ⟨b::r⟩))) 0 0=b:=rfl;have g1:aD (cE (bO (aA ⟨b::r⟩))) 1 0=r.getD 0 0:=rfl;by_cases hb:b.toNat=45
  ·refine⟨(r.length-0+1)+1,?_⟩;rw[R42,hsz,g0,g1,π (by simp only[ε];omega)];refine⟨by omega,?_⟩;rw[π (by rw[hb];rfl)];show _;unfold aAq;simp only[π hb];by_cases h0:r.length=0
   ·rw[π (by rw[h0];rfl),π (.inl h0)]
   ·rw[ν (by simp;omega)];refine⟨by rw[aK];omega,?_⟩;by_cases h18:18<r.length
    ·rw[π (by simp only[ε];omega),π (.inr (.inl h18))]
    ·rw[ν (by simp only[ε];omega)];refine⟨by omega,?_⟩;by_cases h48:(r.getD 0 0).toNat=48
     ·rw[π (by rw[h48];rfl),π (by simp only[ε];omega),π (.inr (.inr h48))]
     ·rw[ν (by rw[beq_iff_eq];omega),ν (by omega)];exact aQv ⟨⟨b::r⟩⟩ 1 (by rw[hsz];omega) (by omega) r.length 0 0 (by rw[hsz];omega) (by decide)
  ·refine⟨(r.length+1+1)+1,?_⟩;rw[R42,hsz,g0,π (by simp only[ε];omega)];refine⟨by omega,?_⟩;rw[ν (by simp;omega)];unfold aAq;simp only[ν hb];rw[ν (by simp;omega)];refine⟨by rw[aK];omega,?_⟩;by_cases h18:18<r.length+1
   ·rw[π (by simp only[ε];omega),π (.inl h18)]
   ·rw[ν (by simp only[ε];omega)];refine⟨by omega,?_⟩;by_cases h48:b.toNat=48
    ·rw[π (by rw[h48];rfl)];by_cases hr:0<r.length
     ·rw[π (by simp only[ε];omega),π (.inr ⟨h48,hr⟩)]
     ·rw[ν (by simp only[ε];omega),ν (by omega)];exact aQv ⟨⟨b::r⟩⟩ 0 (by rw[hsz];omega) (by omega) (r.length+1) 0 0 (by rw[hsz];omega) (by decide)
    ·rw[ν (by simp;omega),ν (by omega)];exact aQv ⟨⟨b::r⟩⟩ 0 (by rw[hsz];omega) (by omega) (r.length+1) 0 0 (by rw[hsz];omega) (by decide)
def aQw:KK:=mL d42 (DO aHu) nP (nK,wG,()) (λ⟨x0,_⟩ h hwf K q=>by
 obtain⟨n,hn⟩:=bHQ x0 hwf.1;exact(bHP _ K q n).1 hn)
def d41:jB:=D0 aHv [.v (.str)] [.sl Jy,.bool] [kx6,aQw,lT]
mutual
def R41:Nat->Δ->Γ aS->Prop
 | 0,_,_=>False
 | n+1,x0,ds=>if aB x0==aB (aA #[45])then ds=[aJ (.sl Jy) [],aJ .bool true] else P6 x0 44/\if decide ((↑(aF (cD x0 44)):Int)>64)then ds=[aJ (.sl Jy) [],aJ .bool false] else aAr n 0 ([]) x0 ds
def aAr:Nat->Int->Γ Int->Δ->Γ aS->Prop
 | 0,_,_,_,_=>False
 | n+1,v6,h1,x0,ds=>if decide (v6<(↑(aF (cD x0 44)):Int))then 0<=v6/\v6<(↑(aF (cD x0 44)):Int)/\if !wG (aD (cD x0 44) (aE v6) aC)then ds=[aJ (.sl Jy) [],aJ .bool false] else if !cJ (nK (aD (cD x0 44) (aE v6) aC)) (-1000000000000) 1000000000000 then ds=[aJ (.sl Jy) [],aJ .bool false] else(aF h1+1)*8<=140737488355328/\bA .i64 (v6+1)/\aAr n (v6+1) (h1++[nK (aD (cD x0 44) (aE v6) aC)]) x0 ds else ds=[aJ (.sl Jy) h1,aJ .bool true]
end
def bHR(ds:Γ aS)(K:gU)(q:Nat->Value):∀n,(∀ {x0},R41 n x0 ds->St d41 (x0,()) ds [] K q)/\(∀ {v6 h1 x0},aAr n v6 h1 x0 ds->Cu d41 8 ([eW 4 0,eW 5 1,eI 6 v6],[cN .str (cD x0 44),cN (.int .i64) h1]) ds [] K q):=nI ⟨aH,aH⟩ λn ⟨i,i8⟩=>⟨bU dR<|aO<|bU dR<|cX i8,
  bU (eE<|bS<|bU (j0 dR)<|bS<|bU dR<|aO<|aO<|cX i8) dR⟩
def aFZ(w:Δ):Bool:=wG w&&cJ (nK w) (-1000000000000) 1000000000000
def Wv:Γ Δ->Option (Γ Int)
 | []=>some []
 | w::r=>if aFZ w=true then(match Wv r with | some l=>some (nK w::l) | none=>none)else none
def ND(x0:Δ):Γ Δ:=cD x0 44
def Ww(x0:Δ):Option (Γ Int):=if x0=aA #[45] then some [] else if(ND x0).length>64 then none else Wv (ND x0)
def dJ(x0:Δ):Γ Int:=(Ww x0).getD []
def pO(x0:Δ):Bool:=(Ww x0).isSome
def P41(x0:Δ):Prop:=x0.size<4294967281
theorem bHS(x0:Δ)(hl:(ND x0).length<=64):∀(k i:Nat) (h:Γ Int),i+k=(ND x0).length->h.length<=i ->
  aAr (k+1) (i:Int) h x0 [⟨.sl Jy,((Wv ((ND x0).drop i)).map (h ++ ·)).getD []⟩,⟨.bool,(Wv ((ND x0).drop i)).isSome⟩]:=by
 have ew:cD x0 44=ND x0:=rfl;intro k
 induction k with
 | zero =>
  intro i h hi hh;rw[aAr,ν (by lia),gC (by lia)];simp[Wv]
 | succ k ih =>
  intro i h hi hh;have hlt:i<(ND x0).length:=by lia
  rw[aAr,ew,π (by lia)];simp only[aI];rw[eD (ND x0) i aC hlt];generalize (ND x0).getD i aC=w at *;refine⟨by lia,by lia,?_⟩;cases h1:wG w with
  | false =>
   grind [aFZ,Wv]
  | true =>
   cases h2:cJ (nK w) (-1000000000000) 1000000000000 with
   | false =>
    grind [aFZ,Wv]
   | true =>
    have hk:aFZ w=true:=by grind [aFZ]
    refine⟨by lia,by grind [aK],?_⟩;have:=ih (i+1) (h++[nK w]) (by lia) (by grind);rw[Wv]
    grind
theorem bHT(x0:Δ)(hp:P41 x0):∃n,R41 n x0 [⟨.sl Jy,dJ x0⟩,⟨.bool,pO x0⟩]:=by
 have ew:cD x0 44=ND x0:=rfl;refine⟨((ND x0).length+1)+1,?_⟩;rw[R41,ew];unfold dJ pO Ww;by_cases h0:x0=aA #[45]
 ·rw[π ((bE _ _).2 h0),π h0];rfl
 ·rw[ν (λh=>h0 ((bE _ _).1 h)),ν h0];refine⟨⟨hp,by omega,by omega⟩,?_⟩;by_cases h1:(ND x0).length>64
  ·rw[π (by simp only[ε];omega),π h1];rfl
  ·rw[ν (by simp only[ε];omega),ν h1];have:=bHS x0 (by omega) (ND x0).length 0 [] (by omega) (by simp);simpa using this
def aJw:KK:=mL d41 (DO aHv) P41 (dJ,pO,()) (λ⟨x0,_⟩ h hwf K q=>by
 obtain⟨n,hn⟩:=bHT x0 h;exact(bHR _ K q n).1 hn)
end
end Go.Proofs.YtgfpjekjhnkbfaaGreatDoor
