/- The functions that this law reaches, and their laws. -/
import Derived.Test.YtbaoaedmbhpolaaGreatDoorZ3C
import Derived.Lib.ParseIntBCases
set_option linter.unusedVariables false
set_option linter.unusedSimpArgs false
set_option linter.defProp false
open Array renaming mk->aAD,toList->cC,toList_append->u7
open BitVec renaming ofInt->fY
open Bool renaming and_eq_true->aT,eq_false_iff->bV,eq_iff_iff->oF,false_and->yP,false_eq_true->gE,not_eq_true'->eZ,not_true->vJ,true_and->Ei
open ByteArray renaming data->bO,data_append->Hz,empty->aC,extract->aO,mk->aA,size->aG,size_append->dH,size_extract->mW,toList->aB
open False renaming elim->aH
open Go.Am.AT renaming own->rE,v->nV
open Go.Am.aS renaming mk->aI
open Go.Am.dD renaming of_below->iR,refl->dI
open Go.Am.jD renaming mk->iX
open Go.Am.Ty renaming int->mX,sl->sM,str->qA
open Go.Lib renaming countB->gX,countB_le->A8,cut->lC,decDigits->bJ,extract_mk->p8,itoa->Cq,join->uC,lens->DD,parseIntB->iS,parseUintB->Yj,parseUintM->Yi,repeatL->xG,splitB_all->yV,trimPrefix->DC,trimRightB->fO
open Go.Op renaming bytesLess->bL
open Go.Proofs.Tryz renaming func117->yW,func118->pi,func148->pn,func150->qb,func151->qh,func152->pu,func153->qi,func157->qk,func162->qm,func165->pm,func166->pk,func194->ph,func236->pt,func237->py,func238->pz,func241->pp,func243->qe,func246->qj,func249->qn,func326->ou,func340->pf,func355->px,func356->qd,func358->qg,func396->rG,func415->ow,func446->pd,func454->qf,func455->oz,func456->pj,func484->H1,ntmps117->A9,prog->aN
open Go.Value renaming string->oR
open Int renaming eq_ofNat_of_zero_le->eG,le_refl->dX,tdiv->aQ,tdiv_eq_ediv_of_nonneg->eY,tmod->bY,tmod_eq_emod_of_nonneg->gN,toNat->aE,toNat_natCast->aK
open List renaming any_eq_false->fC,append_assoc->cK,append_nil->dN,concat_eq_append->IB,count_cons->vT,count_pos_iff->kV,drop->bG,drop_eq_nil_of_le->bT,drop_of_length_le->gW,drop_zero->pZ,eq_nil_of_length_eq_zero->bN,eq_nil_or_concat->IA,filter_append->DF,filter_cons->uL,filter_eq_nil_iff->rK,filter_eq_self->B3,flatten_cons->gR,foldl_cons->iQ,getD->aD,getD_eq_getElem?_getD->bW,getElem?_eq_getElem->aV,getElem?_map->sJ,getElem?_replicate->p9,getElem_map->Sf,getElem_mem->uN,getElem_of_mem->pN,intercalate->F5,length->aF,length_append->bS,length_cons->cH,length_map->eV,length_set->vS,length_singleton->jE,length_take->fL,map->F9,map_append->mF,map_congr_left->pM,map_cons->dY,map_id->Av,map_map->mY,map_nil->Bj,map_singleton->OQ,mem_append->dC,mem_cons->bA,mem_cons_of_mem->aM,mem_cons_self->aR,mem_iff_getElem->Ap,mem_map->cW,mem_nil_iff->uO,mem_range->DE,mem_singleton->dG,nil_append->fV,nodup_cons->jH,nodup_range->Se,not_any_eq_all_not->qB,pairwise_append->K4,pairwise_cons->wY,pairwise_iff_getElem->DK,pairwise_map->QS,range->HN,range'->aAE,replicate->aP,reverse_append->B0,set->eU,size_toArray->gA,take->bK,take_add_one->iC,take_length->nG,take_of_length_le->eA,toArray->rD,zipWith->uQ
open Nat renaming add_zero->oJ,le_refl->aU,le_trans->gI,lt_of_lt_of_le->dZ,lt_or_ge->mS,mul_comm->HY,mul_le_mul->yO,not_lt_zero->Hk,pow_le_pow_right->lM,strongRecOn->Hr,zero_add->cO,zero_le->aY
open Prod renaming fst->eE,snd->tZ
open UInt8 renaming ofNat->kJ,toNat->cN,toNat_inj->jJ,toNat_ofNat'->rF
set_option maxRecDepth 100000
namespace Go.Proofs.YtbaoaedmbhpolaaGreatDoor
open Go Go.Am Go.Proofs
def aUg:Γ AT:=[nV (mX .i64),nV (mX .i64)]
def aJ5(x0 x1:Int):Δ:=lD x0
def bC9(x0 x1:Int):Prop:=x1=10
def bCA:Am.Spec:={ sig:=aUg,pre:=λ⟨x0,x1,_⟩=>bC9 x0 x1,res:=λ⟨x0,x1,_⟩=>[⟨qA,aJ5 x0 x1⟩] }
def aUh:Th 291 bCA:=Ay Tryz.func291<|oU rfl λw ⟨x0,x1,_⟩ vs bss hg hp hw ha=>by
 obtain⟨v0,s0,_,_,rfl,_,⟨_,rfl,hi⟩,v1,s1,_,_,rfl,_,⟨_,rfl,_⟩,rfl,_⟩:=ha;obtain rfl:x1=10:=hp;have hi:aX .i64 x0:=hi;rw[aJ]at hi;refine⟨λd hd=>?_,?_⟩
 ·rw[dG.1 hd];refine⟨rfl,?_⟩;show (lD x0).size<=maxLen;have:=w5 x0 hi.1 hi.2;unfold maxLen;omega
 ·refine(Tryz.strconv_FormatInt_10 x0 hi.1 hi.2 w (aSr hg)).mono ?_;rintro e w' ⟨rfl,n,os,rfl⟩;exact⟨rfl,aFR _ _ _⟩
def bCB:KK:=⟨291,bCA,aUh⟩
noncomputable section
def DH(x0:Int):Prop:=((bC9 x0 10)/\True)
def dA(x0:Int):Δ:=aJ5 x0 10
def PA:KK:=mB Tryz.func193 [.v (.int .i64)] [.str] [bCB] DH (dA,()) λ_=>aL pr
end
def aUi:Γ AT:=[nV (sM cZ)]
def aUj(x0:Γ b6):Prop:=x0.length<=1048576
def bCC:Am.Spec:={ sig:=aUi,pre:=λ⟨x0,_⟩=>aUj x0,res:=λ⟨x0,_⟩=>[⟨sM cZ,aPX x0⟩] }
def aUk:Th 121 bCC:=Ay Tryz.func121<|q6 (Ah 43) rfl rfl (by decide) (by decide) x6.2.1 uI.2.1
def aQJ:KK:=⟨121,bCC,aUk⟩
noncomputable section
def aUl(x0:Γ b6)(x1:b6)(x2:Int):Prop:=if decide ((x0.length:Int)>=x2)then True else aUj x0/\(aF (aPX x0)+1)*24<=140737488355328/\True
def Mj(x0:Γ b6)(x1:b6)(x2:Int):Γ b6:=if decide ((x0.length:Int)>=x2)then x0 else aPX x0++[x1]
def EA(x0:Γ b6)(x1:b6)(x2:Int):Int:=if decide ((x0.length:Int)>=x2)then 5 else 0
def bCE:KK:=mV Tryz.func213 [.own cZ,.v cZ,.v (.int .i64)] [.sl cZ,.int .i64] [aQJ] aUl (λ_=>[none]) (Mj,EA,()) λ⟨⟨x0,x1,x2,_⟩,_⟩=>dL pr<|Hv λs0=>Hv λs1=>sQ s0<|sQ s1<|sQ (aEe [eW 0 0,eT 1 cZ x1,eI 2 x2,eO 4 1 0 [],eW 6 2,eI 7 0,eW 8 0,eI 9 (x0.length:Int),eI 10 x2,eB 11 (decide ((x0.length:Int)>=x2)),eW 13 0,eT 15 cZ x1,eW 16 3,eW 17 2] [cL cZ x0,some (iE.mk cZ [x1] true none (some false)),cL cZ (aPX x0++[x1]),cL cZ [x1]]) pr
end
def aUo:Th 122 bCC:=Ay Tryz.func122<|q6 (Ah 44) rfl rfl (by decide) (by decide) x6.2.2.1 uI.2.2.1
def aQK:KK:=⟨122,bCC,aUo⟩
noncomputable section
def bCH:KK:=mV Tryz.func221 [.own cZ,.v cZ,.v (.int .i64)] [.sl cZ,.int .i64] [aQK] aUl (λ_=>[none]) (Mj,EA,()) λ⟨⟨x0,x1,x2,_⟩,_⟩=>dL pr<|Hv λs0=>Hv λs1=>sQ s0<|sQ s1<|sQ (aEe [eW 0 0,eT 1 cZ x1,eI 2 x2,eO 4 1 0 [],eW 6 2,eI 7 0,eW 8 0,eI 9 (x0.length:Int),eI 10 x2,eB 11 (decide ((x0.length:Int)>=x2)),eW 13 0,eT 15 cZ x1,eW 16 3,eW 17 2] [cL cZ x0,some (iE.mk cZ [x1] true none (some false)),cL cZ (aPX x0++[x1]),cL cZ [x1]]) pr
end
def aUs:Th 125 bCC:=Ay Tryz.func125<|q6 (Ah 50) rfl rfl (by decide) (by decide) x6.2.2.2.2.2.1 uI.2.2.2.2.2.1
def aQL:KK:=⟨125,bCC,aUs⟩
noncomputable section
def aUt(x0:Γ b6)(x1:b6):Prop:=((aUj x0)/\((aF (aPX x0)+1)*24<=140737488355328)/\True)
def JK(x0:Γ b6)(x1:b6):Γ b6:=if !fW x0 then [] else if !tI x1 then [] else if !Dx (aPX x0++[x1])then [] else if decide ((x0.length:Int)>=24)then [] else aPX x0++[x1]
def EC(x0:Γ b6)(x1:b6):Int:=if !fW x0 then 1 else if !tI x1 then 2 else if !Dx (aPX x0++[x1])then 6 else if decide ((x0.length:Int)>=24)then 5 else 0
def bCK:KK:=mB Tryz.func215 [.v (.sl cZ),.v cZ] [.sl cZ,.int .i64] [aQL,bx,aJu,aQD] aUt (JK,EC,()) λ⟨⟨x0,x1,_⟩,_⟩=>Hv λs0=>Hv λs1=>sQ s0<|sQ s1<|sQ (aEe [eL 0 cZ x0,eT 1 cZ x1,eO 3 0 0 [],(4,.a (.val (.slice none 0 0))),eI 5 0,eW 6 1,eL 7 cZ x0,eT 9 cZ x1,eW 10 2,eW 11 1] [some (iE.mk cZ [x1] true none (some false)),cL cZ (aPX x0++[x1]),cL cZ [x1]])<|bH<|vY pr<|bH<|vY pr<|bH<|vY pr<|vY pr pr
def JL(x0:Int):Bool:=bE x0 1 10000000
def bCL:KK:=mB Tryz.func420 [.v (.int .i64)] [.bool] [lF] nP (JL,()) λ_=>bH pr
def wF(x0:Int×Int×Int×Int×Unit):Bool:=if bE x0.1 1000 4000000 then(if bE x0.2.1 100 20000 then(if bE x0.2.2.1 6 400 then bE x0.2.2.2.1 1000 10000000 else false)else false)else false
def aJ6:KK:=mB Tryz.func101 [.v gp] [.bool] [lF] nP (wF,()) λ_=>bH<|dS (bH<|dS (bH<|dS (bH pr) pr)<|dK pr)<|dK<|dK pr
def Ml(x0:Int×Int×Int×Int×Unit)(x1:Bool):Int:=if !wF x0 then 1 else if !x1 then 2 else 0
def bCM:KK:=mB Tryz.func419 [.v gp,.v (.bool)] [.int .i64] [aJ6] nP (Ml,()) λ_=>bH<|dS pr<|dS pr pr
def aNo(x0:Int×Int×Int×Int×Unit)(x1:Int):Prop:=if Ml x0 (JL x1) != 0 then True else aX .i64 (1000*x0.2.2.2.1)/\x1≠0/\aX .i64 (aQ (1000*x0.2.2.2.1) x1)/\True
def RU(x0:Int×Int×Int×Int×Unit)(x1:Int):Int:=if Ml x0 (JL x1) != 0 then 0 else aQ (1000*x0.2.2.2.1) x1
def WP(x0:Int×Int×Int×Int×Unit)(x1:Int):Int:=if Ml x0 (JL x1) != 0 then Ml x0 (JL x1)else 0
def bCN:KK:=mB Tryz.func327 [.v gp,.v (.int .i64)] [.int .i64,.int .i64] [bCL,bCM] aNo (RU,WP,()) λ_=>bH<|bH<|dL pr<|aL<|cP pr
def rX(x0:b6):Bool:=if bE x0.1 1000 10000000 then(if bE x0.2.1 100 1000000 then bE x0.2.2.1 0 500 else false)else false
def aJ7:KK:=mB Tryz.func104 [.v cZ] [.bool] [lF] nP (rX,()) λ_=>bH<|dS (bH<|dS (bH pr) pr)<|dK pr
def bCO(x0:Int)(x1:Int):Prop:=((aX .i64 (x0+x1))/\((aX .i64 (x0+x1-1))/\((x1≠0)/\(aX .i64 (aQ (x0+x1-1) x1))/\True)))
def gz(x0:Int)(x1:Int):Int:=aQ (x0+x1-1) x1
def bCP:KK:=mB Tryz.func487 [.v (.int .i64),.v (.int .i64)] [.int .i64] [] bCO (gz,()) λ_=>aL<|aL<|cP pr
def aJ8(x0:b6)(x1:Int)(x2:Int):Prop:=((aX .i64 (x1*x2))/\((aX .i64 (aQ (x1*x2) 1000))/\(if decide (aQ (x1*x2) 1000>0)=true then((aX .i64 (1000*aQ (x1*x2) 1000))/\((aX .i64 (1000-x0.2.2.1))/\((bCO (1000*aQ (x1*x2) 1000) (1000-x0.2.2.1))/\True)))else((aX .i64 (0-aQ (x1*x2) 1000))/\((aX .i64 (1000-x0.2.2.1))/\((aX .i64 ((0-aQ (x1*x2) 1000)*(1000-x0.2.2.1)))/\((aX .i64 (aQ ((0-aQ (x1*x2) 1000)*(1000-x0.2.2.1)) 1000))/\((aX .i64 (0-aQ ((0-aQ (x1*x2) 1000)*(1000-x0.2.2.1)) 1000))/\True))))))))
def Mm(x0:b6)(x1:Int)(x2:Int):Int:=if decide (aQ (x1*x2) 1000>0)then gz (1000*aQ (x1*x2) 1000) (1000-x0.2.2.1)else 0-aQ ((0-aQ (x1*x2) 1000)*(1000-x0.2.2.1)) 1000
def aQM:KK:=mB Tryz.func424 [.v cZ,.v (.int .i64),.v (.int .i64)] [.int .i64] [bCP] aJ8 (Mm,()) λ_=>aL<|pw 1000<|aL<|lT (aL<|aL<|aL pr)<|aL<|aL<|aL<|pw 1000<|aL<|aL pr
def BG(x0:b6)(x1:Bool):Int:=if !rX x0 then 1 else if !x1 then 2 else 0
def bCQ:KK:=mB Tryz.func421 [.v cZ,.v (.bool)] [.int .i64] [aJ7] nP (BG,()) λ_=>bH<|dS pr<|dS pr pr
def RX(x0:Int):Bool:=bE x0 (-1000000) 1000000
def bCR:KK:=mB Tryz.func422 [.v (.int .i64)] [.bool] [lF] nP (RX,()) λ_=>bH pr
def aNp(x0:b6)(x1:Int)(x2:Int):Prop:=if decide (x1<=x0.2.1)then aJ8 x0 x1 x2/\True else True
def ED(x0:b6)(x1:Int)(x2:Int):Bool:=if decide (x1<=x0.2.1)then decide (Mm x0 x1 x2<=x0.1)else false
def bCS:KK:=mB Tryz.func423 [.v cZ,.v (.int .i64),.v (.int .i64)] [.bool] [aQM] aNp (ED,()) λ_=>lT (aL pr) pr
def aNq(x0:b6)(x1:Int)(x2:Int):Prop:=if RX x1 then(if BG x0 (GD x2) != 0 then True else aNp x0 x1 x2/\if !ED x0 x1 x2 then True else aJ8 x0 x1 x2/\True)else if BG x0 false != 0 then True else aNp x0 x1 x2/\if !ED x0 x1 x2 then True else aJ8 x0 x1 x2/\True
def RY(x0:b6)(x1:Int)(x2:Int):Int:=if RX x1 then(if BG x0 (GD x2) != 0 then 0 else if !ED x0 x1 x2 then 0 else Mm x0 x1 x2)else if BG x0 false != 0 then 0 else if !ED x0 x1 x2 then 0 else Mm x0 x1 x2
def WQ(x0:b6)(x1:Int)(x2:Int):Int:=if RX x1 then(if BG x0 (GD x2) != 0 then BG x0 (GD x2)else if !ED x0 x1 x2 then 6 else 0)else if BG x0 false != 0 then BG x0 false else if !ED x0 x1 x2 then 6 else 0
def bCT:KK:=mB Tryz.func328 [.v cZ,.v (.int .i64),.v (.int .i64)] [.int .i64,.int .i64] [bCR,aQr,bCQ,bCS,aQM] aNq (RY,WQ,()) λ_=>bH<|dL (bH<|bH<|dL pr<|aL<|dL pr<|aL pr)<|bH<|dL pr<|aL<|dL pr<|aL pr
def bCU(x0:Int)(x1:Int)(x2:Int):Prop:=((aX .i64 (x2*x2))/\((RJ (x2*x2) x0)/\((aX .i64 (981*x1))/\((RJ (981*x1) 100)/\((aX .i64 (o0 (x2*x2) x0-o0 (981*x1) 100))/\True)))))
def WR(x0:Int)(x1:Int)(x2:Int):Int:=o0 (x2*x2) x0-o0 (981*x1) 100
def bCV:KK:=mB Tryz.func486 [.v (.int .i64),.v (.int .i64),.v (.int .i64)] [.int .i64] [aJv] bCU (WR,()) λ_=>aL<|aL<|aL<|aL<|aL pr
def aNr(x0:Int)(x1:dO)(x2:Int):Prop:=((bCU x1.2.1 x1.2.2.2.1 x0)/\True)
def x8(x0:Int)(x1:dO)(x2:Int):Bool:=decide (WR x1.2.1 x1.2.2.2.1 x0>x2)
def bCW:KK:=mB Tryz.func485 [.v (.int .i64),.p eC,.p (.int .i64)] [.bool] [bCV] aNr (x8,()) λ_=>aL pr
def WS:gC:=D0 H1 [.v (.int .i64),.v (.int .i64),.fn 485 [(true,eC),(true,(.int .i64))]] [.int .i64] [bCW]
mutual
def WT:Nat->Int->Int->Δ×Int×Int×Int×Unit->Int->Γ aS->Prop
 | 0,_,_,_,_,_=>False
 | n+1,x0,x1,x2,x2c,ds=>aX .i64 (x1+1)/\tL n (x1+1) x0 x2 x2c ds
def tL:Nat->Int->Int->Δ×Int×Int×Int×Unit->Int->Γ aS->Prop
 | 0,_,_,_,_,_=>False
 | n+1,v7,x0,x2,x2c,ds=>if decide (x0<v7)then aX .i64 (x0+v7)/\aX .i64 (aQ (x0+v7) 2)/\aNr (aQ (x0+v7) 2) x2 x2c/\if x8 (aQ (x0+v7) 2) x2 x2c then tL n (aQ (x0+v7) 2) x0 x2 x2c ds else aX .i64 (aQ (x0+v7) 2+1)/\tL n v7 (aQ (x0+v7) 2+1) x2 x2c ds else ds=[aI (.int .i64) x0]
end
def aBR(ds:Γ aS)(K:fG)(q:Nat->Value):∀n,(∀ {x0 x1 x2 x2c},WT n x0 x1 x2 x2c ds->St WS (x0,x1,(x2,x2c,()),()) ds [] K q)/\(∀ {v7 x0 x2 x2c},tL n v7 x0 x2 x2c ds->Cu WS 2 ([eI 0 x0,(2,PV.fn 485 [c7.ptr eC x2,c7.ptr (.int .i64) x2c]),eI 7 v7],[]) ds [] K q):=nI ⟨aH,aH⟩ λn ⟨i,i2⟩=>⟨aL<|bX i2,
  bD (aL<|pw 2<|aL<|aL<|bD (bX i2)<|aL<|bX i2) cM⟩
def GR(x0 x1:Int)(y0:dO)(y1:Int):Int:=Me (λx=>x8 x y0 y1) (x1+1-x0).toNat x0 (x1+1)
def WU(x0 x1:Int)(y0:dO)(y1:Int):Prop:=(0<=x0/\x0<=x1+1/\x1<=1000000000)/\∀v,0<=v->v<=x1->aNr v y0 y1
def aBS(y0:dO)(y1:Int)(e9:Int)(he:e9<=1000000000)(hp:∀v,0<=v->v<=e9->aNr v y0 y1):∀(k:Nat) (lo e:Int),0<=lo->lo<=e->e<=e9+1->e-lo<=(k:Int)->tL (k+1) e lo y0 y1 [⟨.int .i64,Me (λx=>x8 x y0 y1) k lo e⟩]:=by
 intro k
 induction k with
 | zero =>
  intro lo e h0 h1 h2 h3;rw[tL,ν (by lia)];rfl
 | succ k ih =>
  intro lo e h0 h1 h2 h3;unfold Me;by_cases hlt:lo<e
  ·rw[tL]
   grind [aJ]
  ·rw[tL,ν (by lia),ν hlt]
def aBT(x0 x1:Int)(y0:dO)(y1:Int)(h:WU x0 x1 y0 y1):WT ((x1+1-x0).toNat+1+1) x0 x1 y0 y1 [⟨.int .i64,GR x0 x1 y0 y1⟩]:=by
 obtain⟨⟨h1,h2,h3⟩,hp⟩:=h;rw[WT];exact⟨by rw[aJ];omega,aBS y0 y1 x1 h3 hp _ _ _ h1 h2 (by omega) (by omega)⟩
def aGo:KK:=mL WS (DO H1) WU (GR,()) (λ⟨x0,x1,⟨y0,y1,_⟩,_⟩ h hwf K q =>
 (aBR _ K q _).1 (aBT x0 x1 y0 y1 h))
def aBU(x0:dO)(x1:Int):Prop:=((WU 0 20000 x0 x1)/\((aX .i64 (GR 0 20000 x0 x1-1))/\True))
def CY(x0:dO)(x1:Int):Int:=GR 0 20000 x0 x1-1
def bCX:KK:=mB Tryz.func418 [.v eC,.v (.int .i64)] [.int .i64] [aGo] aBU (CY,()) λ_=>aL<|aL pr
def R0(x0:Int):Bool:=bE x0 0 5000
def bCY:KK:=mB Tryz.func417 [.v (.int .i64)] [.bool] [lF] nP (R0,()) λ_=>bH pr
def aUu:gC:=D0 ou [.v (.sl eC),.v (.int .i64)] [.int .i64,.int .i64,.int .i64] [aQA,bCY,bCX]
mutual
def aGp:Nat->Γ dO->Int->Γ aS->Prop
 | 0,_,_,_=>False
 | n+1,x0,x1,ds=>if !oY x0 then ds=[aI (.int .i64) 0,aI (.int .i64) 0,aI (.int .i64) 1] else if !R0 x1 then ds=[aI (.int .i64) 0,aI (.int .i64) 0,aI (.int .i64) 2] else if(x0.length:Int)==0 then ds=[aI (.int .i64) 0,aI (.int .i64) 0,aI (.int .i64) 3] else Mn n 0 0 x0 x1 ds
def Mn:Nat->Int->Int->Γ dO->Int->Γ aS->Prop
 | 0,_,_,_,_,_=>False
 | n+1,v7,v24,x0,x1,ds=>if decide (v24<(x0.length:Int))then 0<=v24/\v24<(x0.length:Int)/\aBU (aD x0 (aE v24) (aC,0,0,0,())) x1/\0<=v7/\v7<(x0.length:Int)/\aBU (aD x0 (aE v7) (aC,0,0,0,())) x1/\if decide (CY (aD x0 (aE v24) (aC,0,0,0,())) x1<CY (aD x0 (aE v7) (aC,0,0,0,())) x1)then aX .i64 (v24+1)/\Mn n v24 (v24+1) x0 x1 ds else aX .i64 (v24+1)/\Mn n v7 (v24+1) x0 x1 ds else 0<=v7/\v7<(x0.length:Int)/\aBU (aD x0 (aE v7) (aC,0,0,0,())) x1/\ds=[aI (.int .i64) v7,aI (.int .i64) (CY (aD x0 (aE v7) (aC,0,0,0,())) x1),aI (.int .i64) 0]
end
def aUv(ds:Γ aS)(K:fG)(q:Nat->Value):∀n,(∀ {x0 x1},aGp n x0 x1 ds->St aUu (x0,x1,()) ds [] K q)/\(∀ {v7 v24 x0 x1},Mn n v7 v24 x0 x1 ds->Cu aUu 9 ([eL 0 eC x0,eI 1 x1,eI 7 v7,eL 22 eC x0,eI 23 (x0.length:Int),eI 24 v24],[]) ds [] K q):=nI ⟨aH,aH⟩ λn ⟨i,i9⟩=>⟨bH<|bD cM<|bH<|bD cM<|bD cM<|bX i9,
  bD (cP<|aL<|cP<|aL<|bD (aL<|bX i9)<|aL<|bX i9)<|cP<|aL cM⟩
def D3(x0:Γ F4)(x1:Int)(i:Int):Int:=CY (x0.getD i.toNat (aC,0,0,0,())) x1
def vO(x0:Γ F4)(x1:Int):Nat->Nat->Int->Int
 | 0,_,s=>s
 | k+1,i,s=>vO x0 x1 k (i+1) (if decide (D3 x0 x1 (i:Int)<D3 x0 x1 s)=true then(i:Int)else s)
def sI(x0:Γ F4)(x1:Int):Int:=if(!oY x0)=true then 1 else if(!R0 x1)=true then 2 else if((x0.length:Int)==0)=true then 3 else 0
def WV(x0:Γ F4)(x1:Int):Int:=if sI x0 x1=0 then vO x0 x1 x0.length 0 0 else 0
def GS(x0:Γ F4)(x1:Int):Int:=if sI x0 x1=0 then D3 x0 x1 (vO x0 x1 x0.length 0 0)else 0
def Mo(x0:Γ F4)(x1:Int):Int:=sI x0 x1
def aJ9(x0:Γ F4)(x1:Int):Prop:=sI x0 x1=0->∀b∈x0,aBU b x1
def aUw(x0:Γ F4)(x1:Int)(hm:x0.length<=maxLen)(hp:∀b∈x0,aBU b x1):∀(k i:Nat) (s:Int),i+k=x0.length->0<=s->s<(x0.length:Int)->Mn (k+1) s (i:Int) x0 x1 [⟨.int .i64,vO x0 x1 k i s⟩,⟨.int .i64,D3 x0 x1 (vO x0 x1 k i s)⟩,⟨.int .i64,0⟩]:=by
 intro k
 induction k with
 | zero =>
  intro i s hi h1 h2;rw[Mn,ν (by lia)];exact⟨h1,h2,hp _ (cF x0 s.toNat _ (by lia)),rfl⟩
 | succ k ih =>
  intro i s hi h1 h2;have hlt:i<x0.length:=by lia
  have hu:=iJ hm hlt;rw[Mn,π (by lia)];refine⟨by lia,by lia,hp _ (cF x0 _ _ (by lia)),h1,h2,hp _ (cF x0 _ _ (by lia)),?_⟩;unfold vO;by_cases c:decide (D3 x0 x1 (i:Int)<D3 x0 x1 s)=true
  ·rw[π c];exact(π c).mpr ⟨hu,ih (i+1) _ (by lia) (by lia) (by lia)⟩
  ·rw[ν c];exact(ν c).mpr ⟨hu,ih (i+1) _ (by lia) h1 h2⟩
def aUx(x0:Γ F4)(x1:Int)(hm:x0.length<=maxLen)(h:aJ9 x0 x1):∃n,aGp n x0 x1 [⟨.int .i64,WV x0 x1⟩,⟨.int .i64,GS x0 x1⟩,⟨.int .i64,Mo x0 x1⟩]:=by
 unfold aJ9 at h;unfold WV GS Mo;unfold sI at h ⊢;by_cases c1:(!oY x0)=true
 ·exact⟨1,by rw[aGp,π c1,π c1,ν (by decide),ν (by decide)]⟩
 ·rw[ν c1]at h ⊢;by_cases c2:(!R0 x1)=true
  ·exact⟨1,by rw[aGp,ν c1,π c2,π c2,ν (by decide),ν (by decide)]⟩
  ·rw[ν c2]at h ⊢;by_cases c3:((x0.length:Int)==0)=true
   ·exact⟨1,by rw[aGp,ν c1,ν c2,π c3,π c3,ν (by decide),ν (by decide)]⟩
   ·rw[ν c3]at h ⊢;have hn:x0.length≠0:=λe=>c3 (by rw[e]<;>rfl);refine⟨x0.length+1+1,?_⟩;rw[aGp,ν c1,ν c2,ν c3,π rfl,π rfl];exact aUw x0 x1 hm (h rfl) x0.length 0 0 (by omega) (dX _) (by omega)
def bCZ:KK:=mL aUu (DO ou) aJ9 (WV,GS,Mo,()) (λ⟨x0,x1,_⟩ h hwf K q =>
 let ⟨n,hn⟩:=aUx x0 x1 hwf.1.1 h
 (aUv _ K q n).1 hn)
def zC(x0:bF):Bool:=if oY x0.1 then(if wF x0.2.1 then(if u0 x0.2.2.1 then(if qW x0.2.2.2.1 then(if iF x0.2.2.2.2.2.1 then(if oW x0.2.2.2.2.2.2.1 then(if q8 x0.2.2.2.2.2.2.2.1 then(if rX x0.2.2.2.2.1 then(if lU x0.2.2.2.2.2.2.2.2.1 then(if fW x0.2.2.2.2.2.2.2.2.2.1 then(if qX x0.2.2.2.2.2.2.2.2.2.2.1 then qY x0.2.2.2.2.2.2.2.2.2.2.2.1 else false)else false)else false)else false)else if rX x0.2.2.2.2.1 then false else false)else if rX x0.2.2.2.2.1 then false else false)else if rX x0.2.2.2.2.1 then false else false)else if iF x0.2.2.2.2.2.1 then(if oW x0.2.2.2.2.2.2.1 then(if q8 x0.2.2.2.2.2.2.2.1 then false else false)else false)else false)else if iF x0.2.2.2.2.2.1 then(if oW x0.2.2.2.2.2.2.1 then(if q8 x0.2.2.2.2.2.2.2.1 then false else false)else false)else false)else if iF x0.2.2.2.2.2.1 then(if oW x0.2.2.2.2.2.2.1 then(if q8 x0.2.2.2.2.2.2.2.1 then false else false)else false)else false)else if iF x0.2.2.2.2.2.1 then(if oW x0.2.2.2.2.2.2.1 then(if q8 x0.2.2.2.2.2.2.2.1 then false else false)else false)else false
def bDa:KK:=mB Tryz.func37 [.v iT] [.bool] [aQA,aJ6,aQx,aQu,aJ7,aJ4,aQ6,aJz,aQ8,bx,aQ0,aQ2] nP (zC,()) λ_=>bH<|dS (bH<|dS (bH<|dS (bH<|dS (bH<|bH<|dS (bH<|dS (bH<|dS (bH<|dS (dS (bH<|dS (bH<|dS (bH pr) pr)<|dK pr)<|dK<|dK pr)<|dK<|dK<|dK pr)<|dS (dK<|dK<|dK pr)<|dK<|dK<|dK pr)<|dK<|dS (dK<|dK<|dK pr)<|dK<|dK<|dK pr)<|dK<|dK<|dS (dK<|dK<|dK pr)<|dK<|dK<|dK pr)<|bH<|dS (bH<|dS (bH<|dS (bH<|dK<|dK<|dK<|dK pr)<|dK<|dK<|dK<|dK pr)<|dK<|dK<|dK<|dK<|dK pr)<|dK<|dK<|dK<|dK<|dK<|dK pr)<|dK<|bH<|dS (bH<|dS (bH<|dS (bH<|dK<|dK<|dK<|dK pr)<|dK<|dK<|dK<|dK pr)<|dK<|dK<|dK<|dK<|dK pr)<|dK<|dK<|dK<|dK<|dK<|dK pr)<|dK<|dK<|bH<|dS (bH<|dS (bH<|dS (bH<|dK<|dK<|dK<|dK pr)<|dK<|dK<|dK<|dK pr)<|dK<|dK<|dK<|dK<|dK pr)<|dK<|dK<|dK<|dK<|dK<|dK pr)<|dK<|dK<|dK<|bH<|dS (bH<|dS (bH<|dS (bH<|dK<|dK<|dK<|dK pr)<|dK<|dK<|dK<|dK pr)<|dK<|dK<|dK<|dK<|dK pr)<|dK<|dK<|dK<|dK<|dK<|dK pr
end
theorem Ko(s:Δ):s6 s=zX s:=by
 have hs:∀c,uY c=(decide (97<=c)&&decide (c<=122)):=λc=>by
  simp[uY]
 have hd:∀c,uZ c=(decide (48<=c)&&decide (c<=57)):=λc=>by
  simp[uZ]
 unfold s6 zX;have hl:=sW s;by_cases h1:1<=s.size
 ·cases hb:cD s with
  | nil=>grind
  | cons c r =>
   have hr:nF La 1 r=r.all λb=>uY b||uZ b:=by
    rw[<- VV (λb=>uY b||uZ b) r 1];refine vW r 1 λj x hj=>?_;have:(j==0)=false:=by lia
    simp[La,this,hs,hd]
   have h0:La 0 c=uY c:=by simp[La,hs]
   simp[nF,hr,h0];cases uY c <;> simp
 lia
theorem aNs{x y:Γ UInt8}(h:bL x y=true):bL y x=false:=by
 grind [VW,Kk]
theorem EE(a b:Δ):(!(bL (aB a) (aB b)||aB a==aB b))=bL (aB b) (aB a):=by
 grind [aNs,aB1]
theorem CZ{α:Type}{p:Nat->α->Bool}:∀(l:Γ α) (i:Nat),nF p i l=true->∀x∈l,∃j,p j x=true
 | [],_,_,x,hx=>by grind
 | y::r,i,h,x,hx=>by
  simp[nF]at h;rcases bA.1 hx with rfl | hx
  ·exact⟨i,h.1⟩
  ·exact CZ r (i+1) h.2 x hx
theorem WW(x:dO):oX x=Ij x:=by
 unfold oX Ij;rw[Ko];rfl
theorem FI(xs:Γ dO):oY xs=wm xs:=by
 unfold oY wm
 grind [vW,aJk,bBn,WW,EE]
theorem WX(x:dO):s8 x=Il x:=by
 unfold s8 Il;rw[Ko];rfl
theorem FJ(xs:Γ dO):lU xs=wo xs:=by
 unfold lU wo
 grind [vW,aJi,bBz,WX,EE]
theorem aBV(x:bP):qZ x=CS x:=by
 unfold qZ CS;rw[Ko];rfl
theorem TO(xs:Γ bP):oW xs=wn xs:=by
 unfold oW wn
 grind [vW,aQ5,bBw,aBV,EE]
theorem WY(x:bP):xY x=Ip x:=by
 unfold xY Ip;rw[Ko]<;>rfl
theorem Ai(xs:Γ bP):qX xs=wq xs:=by
 unfold qX wq
 grind [vW,aJg,bB2,WY,EE]
theorem FK(xs:Γ bP):qY xs=wt xs:=by
 unfold qY wt
 grind [vW,aJh,bB2,WY,EE]
theorem aJA(x:b6):tI x=vZ x:=by
 rfl
theorem WZ(xs:Γ b6):Dx xs=Im xs:=by
 rfl
theorem FL(xs:Γ b6):fW xs=w7 xs:=by
 grind [fW,w7,WZ]
theorem wy(x:b6):xW x=Ds x:=by
 rfl
theorem Kp(xs:Γ b6):u0 xs=Vg xs:=by
 unfold u0 Vg CU;rw[MZ];have hq:(!xs.any Iu)=xs.all Ds:=by
  simp[qB,Iu,wy]
 lia
theorem cf(x:b6):qV x=Ow x:=by
 unfold qV Ow;have e1:aBA x.1=cG x.1 1 4:=rfl;have e2:bE x.2.1 0 1000=cG x.2.1 0 1000:=rfl;have e3:GD x.2.2.1=Vh x.2.2.1:=rfl
 lia
theorem GT(xs:Γ b6):qW xs=CR xs:=by
 unfold qW CR CT;rw[MX];have hq:(!xs.any It)=xs.all Ow:=by
  simp[qB,It,cf]
 lia
theorem aNt(x:Int×Int×Int×Int×Unit):wF x=L7 x:=rfl
theorem aJB(x:b6):rX x=L8 x:=rfl
theorem aJC(x:Int×Int×Int×Int×Unit):q8 x=L9 x:=rfl
theorem ia{x a b:Int}:bE x a b=decide (a<=x/\x<=b):=by
 simp[bE]
theorem aNu(x a b:Int):cG x a b=bE x a b:=rfl
theorem UG(x:b6):iF x=He x:=by
 grind [iF,He,JI,aNu,ia]
theorem W0(x:bF):zC x=Ir x:=by
 unfold zC Ir;rw[FI,FJ,TO,Ai,FK,FL,Kp,GT,aNt,aJB,aJC,UG]
 lia
def aUy:Γ AT:=[nV qA,nV (mX .i64)]
def GU(x0:Δ)(x1:Int):Δ:=⟨(xG x0.data.toList x1.toNat).toArray⟩
def aUz(x0:Δ)(x1:Int):Prop:=0<=x1/\(x0.size:Int)*x1<=140737488355328
def bDb:Am.Spec:={ sig:=aUy,pre:=λ⟨x0,x1,_⟩=>aUz x0 x1,res:=λ⟨x0,x1,_⟩=>[⟨qA,GU x0 x1⟩] }
def aU0:Th 447 bDb:=Ay Tryz.func447<|oU rfl λw ⟨x0,x1,_⟩ vs bss hg hp hw ha=>by
 obtain⟨v0,s0,_,_,rfl,_,⟨_,rfl,_⟩,v1,s1,_,_,rfl,_,⟨_,rfl,_⟩,rfl,_⟩:=ha;obtain⟨h0,h1⟩:=hp;obtain⟨c,rfl⟩:∃c:Nat,x1=(c:Int):=eG h0;have hi:aX .i64 (c:Int):=hw.2.1;rw[aJ]at hi;have hm:x0.size*c<=140737488355328:=by
  have:((x0.size*c:Nat):Int)=(x0.size:Int)*(c:Int):=Int.natCast_mul _ _;omega
 refine⟨λd hd=>?_,?_⟩
 ·rw[dG.1 hd];refine⟨rfl,?_⟩;show (aA (xG x0.data.toList c).toArray).size<=maxLen;have:(aA (xG x0.data.toList c).toArray).size=c*x0.data.toList.length:=by
   show (xG x0.data.toList c).toArray.size=_;rw[gA,Lib.repeatL_length]
  rw[this,HY];have e:x0.data.toList.length=x0.size:=rfl;rw[e];unfold maxLen;omega
 ·refine(Tryz.strings_Repeat x0 c w (by omega) hm).mono ?_;rintro e w' ⟨rfl,hb⟩;exact⟨rfl,iR hb⟩
def aQN:KK:=⟨447,bDb,aU0⟩
noncomputable section
def aBW(x0:Int)(x1:Int):Prop:=((DH x0)/\((aX .i64 (x1-(↑(aG (dA x0)):Int)))/\((aUz (aA #[48]) (if 0<x1-(↑(aG (dA x0)):Int)then x1-(↑(aG (dA x0)):Int)else 0))/\((aG (GU (aA #[48]) (if 0<x1-(↑(aG (dA x0)):Int)then x1-(↑(aG (dA x0)):Int)else 0))+aG (dA x0)<=9223372036854775807)/\True))))
def x9(x0:Int)(x1:Int):Δ:=GU (aA #[48]) (if 0<x1-(↑(aG (dA x0)):Int)then x1-(↑(aG (dA x0)):Int)else 0)++dA x0
def aQO:KK:=mB Tryz.func341 [.v (.int .i64),.v (.int .i64)] [.str] [PA,aQN] aBW (x9,()) λ_=>aL<|aL<|aL<|aL pr
def aJD(x0:Int):Prop:=if !bE x0 0 1439 then True else aX .i64 (aQ x0 60)/\aBW (aQ x0 60) 2/\aG (x9 (aQ x0 60) 2)+1<=9223372036854775807/\aX .i64 (bY x0 60)/\aBW (bY x0 60) 2/\aG (x9 (aQ x0 60) 2++aA #[58])+aG (x9 (bY x0 60) 2)<=9223372036854775807/\True
def R3(x0:Int):Δ:=if !bE x0 0 1439 then aA #[] else x9 (aQ x0 60) 2++aA #[58]++x9 (bY x0 60) 2
def aQP:KK:=mB Tryz.func477 [.v (.int .i64)] [.str] [lF,aQO] aJD (R3,()) λ_=>bH<|lT pr<|pw 60<|aL<|aL<|aL<|pw 60<|aL<|aL<|aL pr
def aJE(x0:Int):Prop:=if x0==1440 then True else aJD x0/\True
def EF(x0:Int):Δ:=if x0==1440 then aA #[50,52,58,48,48] else R3 x0
def bDc:KK:=mB Tryz.func404 [.v (.int .i64)] [.str] [aQP] aJE (EF,()) λ_=>lT pr<|aL pr
end
def aU1:Γ AT:=[nV qA,nV qA]
def iV(x0 x1:Δ):Δ:=⟨(lC x0.data.toList x1.data.toList).1.toArray⟩
def eD(x0 x1:Δ):Δ:=⟨(lC x0.data.toList x1.data.toList).2.1.toArray⟩
def EG(x0 x1:Δ):Bool:=(lC x0.data.toList x1.data.toList).2.2
def aGq(x0 x1:Δ):Prop:=x0.size<4294967281
def aU2:Am.Spec:={ sig:=aU1,pre:=λ⟨x0,x1,_⟩=>aGq x0 x1,res:=λ⟨x0,x1,_⟩=>[⟨qA,iV x0 x1⟩,⟨qA,eD x0 x1⟩,⟨Ty.bool,EG x0 x1⟩] }
def cg(s sep:Γ UInt8):(lC s sep).1.length<=s.length/\(lC s sep).2.1.length<=s.length:=by
 unfold lC
 grind
def aU3:Th 116 aU2:=Ay Tryz.func116<|oU rfl λw ⟨x0,x1,_⟩ vs bss hg hp hw ha=>by
 obtain⟨v0,s0,_,_,rfl,_,⟨_,rfl,_⟩,v1,s1,_,_,rfl,_,⟨_,rfl,_⟩,rfl,_⟩:=ha;have hp:x0.size<4294967281:=hp;obtain⟨l1,l2⟩:=cg x0.data.toList x1.data.toList;have e:x0.data.toList.length=x0.size:=rfl;refine⟨λd hd=>?_,?_⟩
 ·simp only[aU2,bA,uO,or_false]at hd;rcases hd with rfl | rfl | rfl
  ·refine⟨rfl,?_⟩;show (rD _).size<=maxLen;rw[gA];unfold maxLen;omega
  ·refine⟨rfl,?_⟩;show (rD _).size<=maxLen;rw[gA];unfold maxLen;omega
  ·exact⟨rfl,trivial⟩
 ·obtain⟨m,hm⟩:=aDO hg;refine(Tryz.strings_Cut x0 x1 m w hp hm).mono ?_;rintro e w' ⟨rfl,n,rfl⟩;exact⟨rfl,⟨rfl,rfl,rfl,aU _,λ_ _ _=>rfl⟩⟩
def aEi:KK:=⟨116,aU2,aU3⟩
noncomputable section
def aU4:gC:=D0 ow [.v (.str)] [.int .i64] []
mutual
def aU5:Nat->Δ->Γ aS->Prop
 | 0,_,_=>False
 | n+1,x0,ds=>if decide ((↑(aG x0):Int)<1)then ds=[aI (.int .i64) (-1)] else if decide ((↑(aG x0):Int)>12)then ds=[aI (.int .i64) (-1)] else R4 n 0 0 x0 ds
def R4:Nat->Int->Int->Δ->Γ aS->Prop
 | 0,_,_,_,_=>False
 | n+1,v3,v17,x0,ds=>if decide (v17<(↑(aF (cD x0)):Int))then 0<=v17/\v17<(↑(aF (cD x0)):Int)/\if decide (aD (cD x0) (aE v17) 0<48)then ds=[aI (.int .i64) (-1)] else if decide (aD (cD x0) (aE v17) 0>57)then ds=[aI (.int .i64) (-1)] else aX .i64 (10*v3)/\aX .u8 (aD (cD x0) (aE v17) 0-48)/\aX .i64 (aD (cD x0) (aE v17) 0-48)/\aX .i64 (10*v3+(aD (cD x0) (aE v17) 0-48))/\aX .i64 (v17+1)/\R4 n (10*v3+(aD (cD x0) (aE v17) 0-48)) (v17+1) x0 ds else ds=[aI (.int .i64) v3]
end
def aU6(ds:Γ aS)(K:fG)(q:Nat->Value):∀n,(∀ {x0},aU5 n x0 ds->St aU4 (x0,()) ds [] K q)/\(∀ {v3 v17 x0},R4 n v3 v17 x0 ds->Cu aU4 5 ([eI 3 v3,eW 15 0,eI 16 (↑(aF (cD x0)):Int),eI 17 v17],[cL (.int .u8) (cD x0)]) ds [] K q):=nI ⟨aH,aH⟩ λn ⟨i,i5⟩=>⟨bD (jM cM)<|bD cM<|bX i5,
  bD (cP<|bD (jM cM)<|bD cM<|aL<|aL<|aL<|aL<|aL<|bX i5) cM⟩
def C0:Γ UInt8->Int->Int
 | [],n=>n
 | b::r,n=>if decide (48<=b.toNat)&&decide (b.toNat<=57)then C0 r (10*n+((b.toNat:Int)-48))else -1
def eJ(x0:Δ):Int:=if x0.size<1\/12<x0.size then -1 else C0 x0.data.toList 0
def aU7(x0:Δ)(hs:x0.size<=12):∀(k i m:Nat),i+k=x0.size->m<10^i ->
  R4 (k+1) (m:Int) (i:Int) x0 [⟨.int .i64,C0 (x0.data.toList.drop i) (m:Int)⟩]:=by
 intro k;have hll:x0.data.toList.length=x0.size:=rfl;have hbl:(cD x0).length=x0.size:=by simp[cD,eV]
 induction k with
 | zero =>
  intro i m hi hm;rw[R4,ν (by lia),gW (by lia)];rfl
 | succ k ih =>
  intro i m hi hm;have hlt:i<x0.data.toList.length:=by lia
  have hcons:x0.data.toList.drop i=x0.data.toList.getD i 0::x0.data.toList.drop (i+1):=dQ _ i 0 hlt;have hbyte:(cD x0).getD i 0=((x0.data.toList.getD i 0).toNat:Int):=by
   unfold cD;simp_all
  rw[R4,π (by lia),hcons];simp only[aK,hbyte,hbl];generalize x0.data.toList.getD i 0=b at *;refine⟨by lia,by lia,?_⟩;unfold C0;by_cases h1:b.toNat<48
  ·lia
  ·have h1':¬(b.toNat:Int)<48:=by lia
   have h1'':48<=b.toNat:=by lia
   by_cases h2:b.toNat>57
   ·lia
   ·have h2':¬(b.toNat:Int)>57:=by lia
    have h2'':b.toNat<=57:=by lia
    have hp:10^i<=10^11:=lM (by lia) (by lia);simp only[h1',h1'',h2',h2'',decide_true,decide_false,Bool.and_self,gE,if_false,if_true];refine⟨by grind [aJ],by grind [MQ],by grind [aJ],by grind [aJ],by grind [aJ],?_⟩;have e1:10*(m:Int)+((b.toNat:Int)-48)=((10*m+(b.toNat-48):Nat):Int):=by lia
    have e2:(i:Int)+1=((i+1:Nat):Int):=by lia
    rw[e1,e2];exact ih (i+1) (10*m+(b.toNat-48)) (by lia) (by lia)
def aU8(x0:Δ):aU5 (x0.size+1+1) x0 [⟨.int .i64,eJ x0⟩]:=by
 rw[aU5];unfold eJ;by_cases h1:x0.size<1
 ·rw[π (by simp;omega),π (.inl h1)]
 ·rw[ν (by simp;omega)];by_cases h2:12<x0.size
  ·rw[π (by simp;omega),π (.inr h2)]
  ·rw[ν (by simp;omega),ν (by omega)];exact aU7 x0 (by omega) x0.size 0 0 (by omega) (by decide)
def aQQ:KK:=mL aU4 (DO ow) nP (eJ,()) (λ⟨x0,_⟩ h hwf K q =>
 (aU6 _ K q _).1 (aU8 x0))
def aU9(x0:Δ):Prop:=((aGq x0 (aA #[58]))/\((aX .i64 (60*eJ (iV x0 (aA #[58]))))/\((aX .i64 (60*eJ (iV x0 (aA #[58]))+eJ (eD x0 (aA #[58]))))/\(if(aB x0==aB (aA #[]))=true then True else((aJD (60*eJ (iV x0 (aA #[58]))+eJ (eD x0 (aA #[58]))))/\True)))))
def ib(x0:Δ):Int:=if aB x0==aB (aA #[])then 0 else if !aB (R3 (60*eJ (iV x0 (aA #[58]))+eJ (eD x0 (aA #[58]))))==aB x0 then 0 else 60*eJ (iV x0 (aA #[58]))+eJ (eD x0 (aA #[58]))
def aBX(x0:Δ):Bool:=if aB x0==aB (aA #[])then false else if !aB (R3 (60*eJ (iV x0 (aA #[58]))+eJ (eD x0 (aA #[58]))))==aB x0 then false else true
def bDd:KK:=mB Tryz.func403 [.v (.str)] [.int .i64,.bool] [aEi,aQQ,aQP] aU9 (ib,aBX,()) λ_=>aL<|bH<|aL<|bH<|aL<|dL (jM pr)<|aL<|vY pr pr
def aJF(x0:Δ):Prop:=if aB x0==aB (aA #[50,52,58,48,48])then True else aU9 x0/\True
def q9(x0:Δ):Int:=if aB x0==aB (aA #[50,52,58,48,48])then 1440 else ib x0
def bDe:KK:=mB Tryz.func304 [.v (.str)] [.int .i64] [bDd] aJF (q9,()) λ_=>lT pr<|aL pr
def aUA:gC:=D0 oz [.v (.str)] [.int .i64,.bool] [aIS]
mutual
def aUB:Nat->Δ->Γ aS->Prop
 | 0,_,_=>False
 | n+1,x0,ds=>R5 n 0 0 x0 ds
def R5:Nat->Int->Int->Δ->Γ aS->Prop
 | 0,_,_,_,_=>False
 | n+1,v4,v5,x0,ds=>if decide (v5<(↑(aG x0):Int))then 0<=v5/\v5<(↑(aG x0):Int)/\if !uZ (↑(cN (aD (cC (bO x0)) (aE v5) 0)):Int)then ds=[aI (.int .i64) 0,aI .bool false] else aX .i64 (10*v4)/\0<=v5/\v5<(↑(aG x0):Int)/\aX .u8 ((↑(cN (aD (cC (bO x0)) (aE v5) 0)):Int)-48)/\aX .i64 ((↑(cN (aD (cC (bO x0)) (aE v5) 0)):Int)-48)/\aX .i64 (10*v4+((↑(cN (aD (cC (bO x0)) (aE v5) 0)):Int)-48))/\aX .i64 (v5+1)/\R5 n (10*v4+((↑(cN (aD (cC (bO x0)) (aE v5) 0)):Int)-48)) (v5+1) x0 ds else ds=[aI (.int .i64) v4,aI .bool true]
end
def aUC(ds:Γ aS)(K:fG)(q:Nat->Value):∀n,(∀ {x0},aUB n x0 ds->St aUA (x0,()) ds [] K q)/\(∀ {v4 v5 x0},R5 n v4 v5 x0 ds->Cu aUA 3 ([eS 0 x0,eI 4 v4,eI 5 v5],[]) ds [] K q):=nI ⟨aH,aH⟩ λn ⟨i,i3⟩=>⟨bX i3,
  bD (cP<|bH<|bD cM<|aL<|cP<|aL<|aL<|aL<|aL<|bX i3) cM⟩
def Lc(b:UInt8):Bool:=decide (48<=b.toNat)&&decide (b.toNat<=57)
def wG:Γ UInt8->Int->Int×Bool
 | [],n=>(n,true)
 | b::r,n=>if Lc b then wG r (10*n+((b.toNat:Int)-48))else(0,false)
def j8(x0:Δ):Int:=(wG x0.data.toList 0).1
def oB(x0:Δ):Bool:=(wG x0.data.toList 0).2
def wz(x0:Δ):Prop:=x0.size<=18
def aUD(x0:Δ)(hs:x0.size<=18):∀(k i m:Nat),i+k=x0.size->m<10^i ->
  R5 (k+1) (m:Int) (i:Int) x0 [⟨.int .i64,(wG (x0.data.toList.drop i) (m:Int)).1⟩,⟨.bool,(wG (x0.data.toList.drop i) (m:Int)).2⟩]:=by
 intro k;have hll:x0.data.toList.length=x0.size:=rfl
 induction k with
 | zero =>
  intro i m hi hm;rw[R5,ν (by lia),gW (by lia)]<;>rfl
 | succ k ih =>
  intro i m hi hm;have hlt:i<x0.data.toList.length:=by lia
  have hcons:x0.data.toList.drop i=x0.data.toList.getD i 0::x0.data.toList.drop (i+1):=dQ _ i 0 hlt;rw[R5,π (by lia),hcons];simp only[aK];generalize x0.data.toList.getD i 0=b at *;refine⟨by lia,by lia,?_⟩;have hg:uZ (b.toNat:Int)=Lc b:=by
   grind [uZ,Lc]
  rw[hg];unfold wG;cases hd:Lc b with
  | false=>rfl
  | true =>
   have hd':48<=b.toNat/\b.toNat<=57:=by grind [Lc]
   have hp:10^i<=10^17:=lM (by lia) (by lia);have hm2:m<100000000000000000:=dZ hm hp;refine⟨by grind [aJ],by lia,by lia,?_,by grind [aJ],by grind [aJ],by grind [aJ],?_⟩
   ·grind [MQ]
   ·have e1:10*(m:Int)+((b.toNat:Int)-48)=((10*m+(b.toNat-48):Nat):Int):=by lia
    have e2:(i:Int)+1=((i+1:Nat):Int):=by lia
    rw[e1,e2];exact ih (i+1) (10*m+(b.toNat-48)) (by lia) (by lia)
def aUE(x0:Δ)(h:wz x0):aUB (x0.size+1+1) x0 [⟨.int .i64,j8 x0⟩,⟨.bool,oB x0⟩]:=by
 rw[aUB];exact aUD x0 h x0.size 0 0 (by omega) (by decide)
def aQR:KK:=mL aUA (DO oz) wz (j8,oB,()) (λ⟨x0,_⟩ h hwf K q =>
 (aUC _ K q _).1 (aUE x0 h))
def aNv(x0:Δ):Prop:=if(↑(aG x0):Int) != 5 then True else 2<(↑(aG x0):Int)/\if(↑(cN (aD (cC (bO x0)) 2 0)):Int) != 58 then True else 2<=(↑(aG x0):Int)/\wz (aO x0 0 2)/\3<=(↑(aG x0):Int)/\wz (aO x0 3 (aE (↑(aG x0):Int)))/\if !oB (aO x0 0 2)then True else if !oB (aO x0 3 (aE (↑(aG x0):Int)))then True else if decide (j8 (aO x0 0 2)>23)then True else if decide (j8 (aO x0 3 (aE (↑(aG x0):Int)))>59)then True else aX .i64 (60*j8 (aO x0 0 2))/\aX .i64 (60*j8 (aO x0 0 2)+j8 (aO x0 3 (aE (↑(aG x0):Int))))/\True
def ic(x0:Δ):Int:=if(↑(aG x0):Int) != 5 then 0 else if(↑(cN (aD (cC (bO x0)) 2 0)):Int) != 58 then 0 else if !oB (aO x0 0 2)then 0 else if !oB (aO x0 3 (aE (↑(aG x0):Int)))then 0 else if decide (j8 (aO x0 0 2)>23)then 0 else if decide (j8 (aO x0 3 (aE (↑(aG x0):Int)))>59)then 0 else 60*j8 (aO x0 0 2)+j8 (aO x0 3 (aE (↑(aG x0):Int)))
def R6(x0:Δ):Bool:=if(↑(aG x0):Int) != 5 then false else if(↑(cN (aD (cC (bO x0)) 2 0)):Int) != 58 then false else if !oB (aO x0 0 2)then false else if !oB (aO x0 3 (aE (↑(aG x0):Int)))then false else if decide (j8 (aO x0 0 2)>23)then false else if decide (j8 (aO x0 3 (aE (↑(aG x0):Int)))>59)then false else true
def bDf:KK:=mB Tryz.func359 [.v (.str)] [.int .i64,.bool] [aQR] aNv (ic,R6,()) λ_=>dL (jM pr)<|pq 2<|aL<|dL pr<|pq 2<|aL<|aL<|pq 3<|aL<|aL<|dL (jM<|jM<|jM pr)<|dL (jM<|jM pr)<|dL (jM pr)<|dL pr<|aL<|aL pr
def aJG(x0:Δ):Prop:=if aB x0==aB (aA #[50,52,58,48,48])then True else aNv x0/\True
def C3(x0:Δ):Int:=if aB x0==aB (aA #[50,52,58,48,48])then 1440 else ic x0
def C4(x0:Δ):Bool:=if aB x0==aB (aA #[50,52,58,48,48])then true else R6 x0
def bDg:KK:=mB Tryz.func247 [.v (.str)] [.int .i64,.bool] [bDf] aJG (C3,C4,()) λ_=>dL pr<|aL pr
end
def mJ(a:Nat):UInt8:=kJ (48+a)
theorem pH{a:Nat}(h:a<10):(mJ a).toNat=48+a:=by grind [mJ,rF]
theorem R7{b:UInt8}(h:48<=b.toNat/\b.toNat<=57):b=mJ (b.toNat-48):=by
 grind [jJ,pH]
def UH{a b:Nat}(ha:a<10)(hb:b<10)(h:mJ a=mJ b):a=b:=by
 grind [pH]
variable {n:Nat}
theorem aEj(h:n<10):lD (n:Int)=⟨⟨[mJ n]⟩⟩:=by
 unfold lD Cq;rw[aK,Lib.decDigits_one h];rfl
theorem aEk(h1:10<=n)(h:n<100):lD (n:Int)=⟨⟨[mJ (n/10),mJ (n%10)]⟩⟩:=by
 unfold lD Cq;rw[aK,Lib.decDigits_two (by lia) h];rfl
theorem D4(h:n<100):aBW (n:Int) 2/\x9 (n:Int) 2=⟨⟨[mJ (n/10),mJ (n%10)]⟩⟩:=by
 unfold aBW x9;have e:dA (n:Int)=lD (n:Int):=rfl;rw[e];by_cases h1:n<10
 ·rw[aEj h1];have e0:n/10=0:=by lia
  have e1:n%10=n:=by lia
  rw[e0,e1];have e2:(aA (aAD [mJ n])).size=1:=rfl;rw[e2];exact⟨⟨⟨rfl,trivial⟩,by simp[aJ],⟨by lia,by decide⟩,by show 1+1<=_;lia,trivial⟩,rfl⟩
 ·rw[aEk (by lia) h];have e2:(aA (aAD [mJ (n/10),mJ (n%10)])).size=2:=rfl;rw[e2];exact⟨⟨⟨rfl,trivial⟩,by simp[aJ],⟨by lia,by lia⟩,by show 0+2<=_;lia,trivial⟩,rfl⟩
theorem cj:∀(l:Γ UInt8) (m i:Nat),m<10^i->i+l.length<=12 -> -1<=C0 l (m:Int)/\C0 l (m:Int)<1000000000000
 | [],m,i,h,hi=>by
  have hp:10^i<=10^12:=lM (by lia) (by lia);show -1<=(m:Int)/\(m:Int)<1000000000000
  lia
 | b::r,m,i,h,hi=>by
  unfold C0;split
  ·have e1:10*(m:Int)+((b.toNat:Int)-48)=((10*m+(b.toNat-48):Nat):Int):=by lia
   rw[e1];exact cj r _ (i+1) (by lia) (by grind)
  lia
theorem PC(x:Δ) : -1<=eJ x/\eJ x<1000000000000:=by
 unfold eJ;split
 ·lia
 ·have:x.data.toList.length=x.size:=rfl;exact cj x.data.toList 0 0 (by lia) (by lia)
theorem GV{a b:Nat}(ha:a<10)(hb:b<10):eJ ⟨⟨[mJ a,mJ b]⟩⟩=((10*a+b:Nat):Int):=by
 show C0 [mJ a,mJ b] 0=_;simp[C0,pH ha,pH hb]
 lia
theorem GX{a b:Nat}(ha:a<10)(hb:b<10):j8 ⟨⟨[mJ a,mJ b]⟩⟩=((10*a+b:Nat):Int)/\oB ⟨⟨[mJ a,mJ b]⟩⟩=true:=by
 unfold j8 oB;simp[wG,Lc,pH ha,pH hb]
 lia
theorem Mp:∀(l:Γ UInt8) (n:Int),(wG l n).2=true->∀b∈l,48<=b.toNat/\b.toNat<=57
 | [],_,_,b,hb=>by grind
 | c::r,n,h,b,hb=>by
  unfold wG at h;split at h
  ·rename_i hd;rcases bA.1 hb with rfl | hb
   ·unfold Lc at hd;simpa using hd
   ·exact Mp r _ h b hb
  lia
def LQ(h m:Nat):Δ:=⟨⟨[mJ (h/10),mJ (h%10),58,mJ (m/10),mJ (m%10)]⟩⟩
theorem aEl{h m h' m':Nat}(h1:h<100)(h2:m<100)(h3:h'<100)(h4:m'<100)(e:LQ h m=LQ h' m'):h=h'/\m=m':=by
 unfold LQ at e;simp at e;obtain⟨e1,e2,e3,e4⟩:=e;have:=UH (by lia) (by lia) e1;have:=UH (by lia) (by lia) e2;have:=UH (by lia) (by lia) e3;have:=UH (by lia) (by lia) e4
 lia
theorem W2{k:Nat}(h:k<=1439):R3 (k:Int)=LQ (k/60) (k%60):=by
 unfold R3 bE;have e1:aQ (k:Int) 60=((k/60:Nat):Int):=rfl;have e2:bY (k:Int) 60=((k%60:Nat):Int):=rfl;rw[e1,e2,(D4 (n:=k/60) (by lia)).2,(D4 (n:=k%60) (by lia)).2];have c2:(k:Int)<=1439:=by lia
 simp only[c2];rfl
theorem ck(n:Int):aJD n:=by
 unfold aJD;split
 ·lia
 ·rename_i hw;have hw':0<=n/\n<=1439:=by
   unfold bE at hw
   lia
  obtain⟨k,rfl⟩:∃k:Nat,n=(k:Int):=eG hw'.1;have e1:aQ (k:Int) 60=((k/60:Nat):Int):=rfl;have e2:bY (k:Int) 60=((k%60:Nat):Int):=rfl;obtain⟨p1,q1⟩:=D4 (n:=k/60) (by lia);obtain⟨p2,q2⟩:=D4 (n:=k%60) (by lia);rw[e1,e2,q1,q2];refine⟨by grind [aJ],p1,?_,by grind [aJ],p2,?_,trivial⟩
  ·show 2+1<=_;lia
  ·show 3+2<=_;lia
theorem aNw{h m:Nat}(h1:h<100)(h2:m<100):iV (LQ h m) (aA #[58])=⟨⟨[mJ (h/10),mJ (h%10)]⟩⟩/\eD (LQ h m) (aA #[58])=⟨⟨[mJ (m/10),mJ (m%10)]⟩⟩:=by
 have hn:(58:UInt8) ∉ [mJ (h/10),mJ (h%10)]:=λhm=>by
  simp at hm;rcases hm with e | e <;> (have:=congrArg cN e;rw[pH (by lia)]at this;lia)
 have hc:lC (LQ h m).data.toList (aA #[58]).data.toList=([mJ (h/10),mJ (h%10)],[mJ (m/10),mJ (m%10)],true):=UC 58 _ hn;unfold iV eD
 lia
theorem aJH{h m:Nat}(h1:h<=23)(h2:m<=59):ib (LQ h m)=((60*h+m:Nat):Int)/\aBX (LQ h m)=true:=by
 obtain⟨c1,c2⟩:=aNw (h:=h) (m:=m) (by lia) (by lia);unfold ib aBX;rw[c1,c2,GV (by lia) (by lia),GV (by lia) (by lia)];have e:60*((10*(h/10)+h%10:Nat):Int)+((10*(m/10)+m%10:Nat):Int)=((60*h+m:Nat):Int):=by lia
 have e3:(60*h+m)/60=h:=by lia
 have e4:(60*h+m)%60=m:=by lia
 rw[e,W2 (by lia)];have ne:¬(aB (LQ h m)==aB (aA #[]))=true:=by
  rw[bC];intro hh;have:=congrArg aG hh;exact absurd (show (5:Nat)=0 from this) (by lia)
 lia
theorem aJI{x:Δ}(h:x.size<=1048576):aU9 x:=by
 have b1:=PC (iV x (aA #[58]));have b2:=PC (eD x (aA #[58]));refine⟨(show x.size<4294967281 from by lia),by grind [aJ],by grind [aJ],?_⟩;simp[ck]
def aUF{h m:Nat}:aO (LQ h m) 0 2=⟨⟨[mJ (h/10),mJ (h%10)]⟩⟩/\aO (LQ h m) 3 (aE (((LQ h m).size:Nat):Int))=⟨⟨[mJ (m/10),mJ (m%10)]⟩⟩ :=
 ⟨p8 [mJ (h/10),mJ (h%10),58,mJ (m/10),mJ (m%10)] 0 2,p8 [mJ (h/10),mJ (h%10),58,mJ (m/10),mJ (m%10)] 3 5⟩
theorem aJJ{h m:Nat}(h1:h<=23)(h2:m<=59):ic (LQ h m)=((60*h+m:Nat):Int)/\R6 (LQ h m)=true:=by
 obtain⟨c1,c2⟩:=aUF (h:=h) (m:=m);obtain⟨d1,d2⟩:=GX (a:=h/10) (b:=h%10) (by lia) (by lia);obtain⟨d3,d4⟩:=GX (a:=m/10) (b:=m%10) (by lia) (by lia);unfold ic R6;have e0:(((LQ h m).size:Int) != 5)=false:=rfl;have e1:(((aD (cC (bO (LQ h m))) 2 0).toNat:Int) != 58)=false:=rfl
 lia
def bJu:∀ {l:Γ UInt8},l.length=5->∃a b c d e,l=[a,b,c,d,e]
 | [a,b,c,d,e],_=>⟨a,b,c,d,e,rfl⟩
theorem aJK{x:Δ}(hx:R6 x=true):∃h m:Nat,h<=23/\m<=59/\x=LQ h m:=by
 obtain⟨⟨l⟩⟩:=x;unfold R6 at hx;by_cases h5:l.length=5
 ·obtain⟨a,b,c,d,e,rfl⟩:=bJu h5;have x1:aO ⟨⟨[a,b,c,d,e]⟩⟩ 0 2=⟨⟨[a,b]⟩⟩:=p8 [a,b,c,d,e] 0 2;have x2:aO ⟨⟨[a,b,c,d,e]⟩⟩ 3 (aE (((aA ⟨[a,b,c,d,e]⟩).size:Nat):Int))=⟨⟨[d,e]⟩⟩:=p8 [a,b,c,d,e] 3 5;rw[x1,x2]at hx;split at hx
  ·lia
  ·split at hx
   ·lia
   ·have hc':c=58:=by
     rw[<- jJ]
     grind
    split at hx
    ·lia
    ·split at hx
     ·lia
     ·split at hx
      ·lia
      ·rename_i l1;split at hx
       ·lia
       ·rename_i l2;have g1':oB ⟨⟨[a,b]⟩⟩=true:=by lia
        have g2':oB ⟨⟨[d,e]⟩⟩=true:=by lia
        have a1:=Mp [a,b] 0 g1';have a2:=Mp [d,e] 0 g2';have ha:=a1 a (by simp);have hb:=a1 b (by simp);have hd:=a2 d (by simp);have he:=a2 e (by simp);obtain⟨a,la,rfl⟩:∃a':Nat,a'<10/\a=mJ a':=⟨a.toNat-48,by lia,R7 ha⟩;obtain⟨b,lb,rfl⟩:∃a':Nat,a'<10/\b=mJ a':=⟨b.toNat-48,by lia,R7 hb⟩;obtain⟨d,ld,rfl⟩:∃a':Nat,a'<10/\d=mJ a':=⟨d.toNat-48,by lia,R7 hd⟩;obtain⟨e,le,rfl⟩:∃a':Nat,a'<10/\e=mJ a':=⟨e.toNat-48,by lia,R7 he⟩;rw[(GX la lb).1]at l1;rw[(GX ld le).1]at l2;refine⟨10*a+b,10*d+e,by lia,by lia,?_⟩;unfold LQ;rw[show (10*a+b)/10=a by lia,show (10*a+b)%10=b by lia,show (10*d+e)/10=d by lia,show (10*d+e)%10=e by lia,hc']
 ·rw[π (by
   have:(aA ⟨l⟩).size=l.length:=rfl
   lia)]at hx
  lia
theorem W3:∀(l:Γ UInt8) (n:Int),0<=n->0<=(wG l n).1
 | [],_,h=>h
 | c::r,n,h=>by
  unfold wG;split
  ·have hd':48<=c.toNat/\c.toNat<=57:=by grind [Lc]
   exact W3 r _ (by lia)
  lia
def Ld(x:Δ):0<=j8 x:=W3 _ 0 (dX _)
theorem aJL(x:Δ):aNv x:=by
 unfold aNv;split
 ·lia
 ·have h5:x.size=5:=by
   lia
  have s1:(aO x 0 2).size<=5:=by
   simp_all
  have s2:(aO x 3 (aE (x.size:Int))).size<=5:=by
   simp_all
  refine⟨by lia,?_⟩;split
  ·lia
  ·refine⟨by lia,(show (aO x 0 2).size<=18 from by lia),by lia,(show (aO x 3 (aE (x.size:Int))).size<=18 from by lia),?_⟩;split
   ·lia
   ·split
    ·lia
    ·split
     ·lia
     ·split
      ·lia
      ·have n1:=Ld (aO x 0 2);have n2:=Ld (aO x 3 (aE (x.size:Int)));exact⟨by grind [aJ],by grind [aJ],trivial⟩
theorem W4(a b:Δ):(a++b).data.toList=a.data.toList++b.data.toList:=by
 rw[Hz,u7]
theorem z6{a b:Δ}(h:a.data.toList=b.data.toList):a=b:=by
 obtain⟨⟨l⟩⟩:=a;simp_all
theorem xa{x:Γ UInt8}{k:UInt8}{a b c:Γ UInt8}(h:dB k x=[a,b,c]):x=a++k::(b++k::c):=by
 have:=Ag k x;simp_all
theorem PD{k:UInt8}{a b:Γ UInt8}(ha:k ∉ a)(hb:k ∉ b):dB k (a++k::b)=[a,b]:=by
 grind [nJ,lE]
theorem W5{k:UInt8}{a b c:Γ UInt8}(ha:k ∉ a)(hb:k ∉ b)(hc:k ∉ c):dB k (a++k::(b++k::c))=[a,b,c]:=by
 grind [nJ,lE]
def W6{α:Type}:∀ {l:Γ α},l.length=3->∃a b c,l=[a,b,c]
 | [a,b,c],_=>⟨a,b,c,rfl⟩
def xb{α:Type}:∀ {l:Γ α},l.length=2->∃a b,l=[a,b]
 | [a,b],_=>⟨a,b,rfl⟩
theorem aJM:LQ 24 0=aA #[50,52,58,48,48]:=rfl
theorem cl{h m:Nat}(h1:h<100)(h2:m<100):(32:UInt8) ∉ (LQ h m).data.toList:=by
 show (32:UInt8) ∉ [mJ (h/10),mJ (h%10),58,mJ (m/10),mJ (m%10)];intro hm;simp only[bA,uO,or_false]at hm;rcases hm with e | e | e | e | e
 ·have:=congrArg cN e;grind [pH]
 ·have:=congrArg cN e;grind [pH]
 ·lia
 ·have:=congrArg cN e;grind [pH]
 ·have:=congrArg cN e;grind [pH]
theorem aJN(h m:Nat):(LQ h m).size=5:=rfl
theorem PE(h:n<=1440):EF (n:Int)=LQ (n/60) (n%60):=by
 unfold EF;by_cases e:n=1440
 ·subst e;rw[π (by decide)];rfl
 ·rw[ν (by rw[beq_iff_eq];omega),W2 (by omega)]
def UI(n:Int):aJE n:=by
 simp[aJE,ck]
theorem bDh(h:n<=1440):q9 (LQ (n/60) (n%60))=(n:Int):=by
 unfold q9;by_cases e:n=1440
 ·subst e;have e24:(aB (LQ (1440/60) (1440%60))==aB (aA #[50,52,58,48,48]))=true:=(bC _ _).2 rfl
  lia
 ·rw[ν (λhh=>by
   rw[bC, <- aJM]at hh;have:=aEl (by lia) (by lia) (by lia) (by lia) hh
   lia)]
  grind [aJH]
theorem aQS(h:n<=1440):C3 (LQ (n/60) (n%60))=(n:Int)/\C4 (LQ (n/60) (n%60))=true:=by
 unfold C3 C4;by_cases e:n=1440
 ·subst e;have e24:(aB (LQ (1440/60) (1440%60))==aB (aA #[50,52,58,48,48]))=true:=(bC _ _).2 rfl
  lia
 ·have hne:¬(aB (LQ (n/60) (n%60))==aB (aA #[50,52,58,48,48]))=true:=λhh=>by
   rw[bC, <- aJM]at hh;have:=aEl (by lia) (by lia) (by lia) (by lia) hh
   lia
  obtain⟨e0,e1⟩:=aJJ (h:=n/60) (m:=n%60) (by lia) (by lia)
  lia
def aJO{x:Δ}(hx:C4 x=true):∃n:Nat,n<=1440/\x=LQ (n/60) (n%60):=by
 unfold C4 at hx;split at hx
 ·rename_i h;exact⟨1440,aU _,(bC _ _).1 h⟩
 ·obtain⟨h,m,h1,h2,rfl⟩:=aJK hx;exact⟨60*h+m,by lia,by grind⟩
theorem aBY{x:Δ}(h:x.size<=1048576):aJF x:=by
 unfold aJF;split
 ·lia
 ·exact⟨aJI h,trivial⟩
theorem aJP(x:Δ):aJG x:=by
 simp[aJG,aJL]
theorem xc(n:Int):BA n=(decide (0<=n)&&decide (n<=1440)):=by
 simp[BA,bE]
theorem aJQ(n:Int):Ik n=(decide (0<=n)&&decide (n<=1440)):=by
 simp[Ik,cG]
theorem cm(x:bP):CS x=qZ x:=by
 simp[CS,qZ,Ko,xc,aJQ]
def JM{a:Δ}{n m:Int}(h:qZ (a,n,m,())=true):0<=n/\n<=1440/\0<=m/\m<=1440:=by
 unfold qZ at h;simp[xc]at h
 lia
noncomputable section
def BH(x0:Int)(x1:Int):Bool:=if BA x0 then(if BA x1 then decide (x0<=x1)else false)else false
def bDi:KK:=mB Tryz.func435 [.v (.int .i64),.v (.int .i64)] [.bool] [aQ3] nP (BH,()) λ_=>bH<|dS (bH<|dS pr pr)<|dK pr
def BI(x0:Γ bP)(x1:Bool):Int:=if !oW x0 then 1 else if !x1 then 2 else 0
def bDj:KK:=mB Tryz.func434 [.v (.sl c8),.v (.bool)] [.int .i64] [aQ6] nP (BI,()) λ_=>bH<|dS pr<|dS pr pr
end
theorem aJR{x:Int}(h:BA x=true):0<=x/\x<=1440:=by
 unfold BA bE at h
 lia
theorem aEm{a b:Int}(h:BH a b=true):0<=a/\a<=1440/\0<=b/\b<=1440/\a<=b:=by
 unfold BH at h;split at h
 ·rename_i h1;split at h
  ·rename_i h2;obtain⟨a1,a2⟩:=aJR h1;obtain⟨a3,a4⟩:=aJR h2
   lia
  lia
 lia
theorem W7{x0:Γ bP}{b:Bool}(h:BI x0 b=0):oW x0=true/\b=true:=by
 unfold BI at h
 lia
theorem wi{x a b:Int}(h:bE x a b=true):a<=x/\x<=b:=by rw[ia]at h;lia
theorem mb{a b A B:Int}(h1 : -A<=a/\a<=A)(h2 : -B<=b/\b<=B) : -(A*B)<=a*b/\a*b<=A*B:=by
 have h:(a*b).natAbs<=A.toNat*B.toNat:=by
  rw[Int.natAbs_mul];exact yO (by lia) (by lia)
 grind
theorem tdb{a A:Int}(b:Int)(h : -A<=a/\a<=A) : -A<=aQ a b/\aQ a b<=A:=by
 have h1:(aQ a b).natAbs<=a.natAbs:=by rw[Int.natAbs_tdiv];exact Nat.div_le_self _ _
 lia
theorem tmb{a A:Int}(b:Int)(h : -A<=a/\a<=A) : -A<=bY a b/\bY a b<=A:=by
 have h1:(bY a b).natAbs<=a.natAbs:=by simp[Nat.mod_le]
 lia
theorem Fc{c:Prop}[Decidable c]{Q:Prop}(h:¬c->Q):if c then True else Q:=by
 lia
theorem nb{b:Bool}(h:¬(!b)=true):b=true:=by lia
theorem UJ{x:Int}(h : -1000000000000000<=x/\x<=1000000000000000):Tk x/\0<=mO x/\mO x<=1000000000000000/\(mO x=x\/mO x=0-x):=by
 unfold Tk mO;by_cases c:x<0
 ·rw[π (decide_eq_true c),π (decide_eq_true c)];exact⟨⟨by grind [aJ],trivial⟩,by lia,by lia,.inr rfl⟩
 lia
theorem JN{x y:Int}(h : -1000000000000000<=x/\x<=1000000000000000)(k : -1000000000000000<=y/\y<=1000000000000000)(hy:y≠0):RJ x y /\ -1000000000000001<=o0 x y/\o0 x y<=1000000000000001:=by
 have d:=tdb y h;have m:=tmb y h;obtain⟨p1,p2,p3,_⟩:=UJ m;obtain⟨q1,q2,q3,_⟩:=UJ k;unfold RJ o0;refine⟨⟨hy,by grind [aJ],hy,by grind [aJ],p1,q1,by grind [aJ],?_⟩,?_⟩
 ·split
  ·split <;> exact⟨by grind [aJ],trivial⟩
  lia
 lia
theorem aJS{d:b6}(h:iF d=true) : -1<=d.2.1/\d.2.1<=3 /\ -1<=d.2.2.1/\d.2.2.1<=4:=by
 unfold iF at h;split at h
 ·lia
 ·split at h
  ·lia
  ·split at h
   ·rename_i c;have:=wi c;have:=wi h
    lia
   lia
theorem ZB(d:b6)(e:Int):aUf d e:=by
 refine Fc λc=>Fc λ_=>⟨?_,trivial⟩;have hd:=aJS (nb c);have i1:aX .i64 (d.2.1+1):=by grind [aJ]
 have i2:aX .i64 (d.2.2.1+1):=by grind [aJ]
 unfold aUe aUd
 lia
theorem JO{x:Int}(h:aX .i64 x):(dA x).size<=21:=w5 x (by grind [aJ]) (by grind [aJ])
def B9(x:Int):DH x:=⟨rfl,trivial⟩
theorem aJT{l:Γ b6}(hl:l.length<=1000)(x:b6)(m:Int):aUl l x m:=by
 exact Fc λc=>⟨show l.length<=1048576 by lia,show (l.length+1)*24<=140737488355328 by lia,trivial⟩
theorem aJV{l:Γ b6}(hl:l.length<=1000)(x:b6):aUt l x :=
 ⟨show l.length<=1048576 by lia,show (l.length+1)*24<=140737488355328 by lia,trivial⟩
def xd(r:Int×Int×Int×Int×Unit)(n:Int):aNo r n:=by
 unfold aNo Ml;refine Fc λc=>?_;by_cases v:wF r=true
 ·by_cases q:JL n=true
  ·have hq:=wi (show bE n 1 10000000=true from q);unfold wF at v;split at v
   ·split at v
    ·split at v
     ·have hv:=wi v;have t:=tdb n (a:=1000*r.2.2.2.1) (A:=10000000000) (by lia);exact⟨by grind [aJ],by lia,by grind [aJ],trivial⟩
     lia
    lia
   lia
  lia
 lia
theorem z7{a b:Bool}(h:(if a=true then b else false)=true):a=true/\b=true:=by
 lia
theorem W8{m:b6}(h:rX m=true):(1000<=m.1/\m.1<=10000000)/\(100<=m.2.1/\m.2.1<=1000000)/\0<=m.2.2.1/\m.2.2.1<=500:=by
 obtain⟨a,h⟩:=z7 h;obtain⟨b,h⟩:=z7 h;exact⟨wi a,wi b,wi h⟩
theorem aNy{m:b6}(h:rX m=true){f s:Int}(hf : -1000000<=f/\f<=1000000)(hs:0<=s/\s<=20000):aJ8 m f s:=by
 obtain⟨_,_,m3⟩:=W8 h;have b1:=mb (A:=1000000) (B:=20000) (a:=f) (b:=s) (by lia) (by lia);have b3:=mb (A:=20000000000) (B:=1000) (a:=0-aQ (f*s) 1000) (b:=1000-m.2.2.1) (by lia) (by lia);refine⟨by grind [aJ],by grind [aJ],?_⟩;split
 ·have t:=tdb (1000-m.2.2.1) (a:=1000*aQ (f*s) 1000+(1000-m.2.2.1)-1) (A:=30000000000000) (by lia);exact⟨by grind [aJ],by grind [aJ],⟨by grind [aJ],by grind [aJ],by lia,by grind [aJ],trivial⟩,trivial⟩
 ·exact⟨by grind [aJ],by grind [aJ],by grind [aJ],by grind [aJ],by grind [aJ],trivial⟩
theorem Kq{m:b6}{b:Bool}(h:¬(BG m b != 0)=true):rX m=true/\b=true:=by
 unfold BG at h
 lia
theorem aGr(m:b6)(f s:Int):aNq m f s:=by
 unfold aNq;split
 ·rename_i hf;refine Fc λc=>?_;obtain⟨hm,hs⟩:=Kq c;have p:=aNy hm (wi (show bE f (-1000000) 1000000=true from hf)) (wi (show bE s 0 20000=true from hs));unfold aNp
  lia
 ·refine Fc λc=>?_;exact absurd (Kq c).2 (by lia)
theorem aEn{b:dO}(h:oX b=true):s6 b.1=true/\(10000<=b.2.1/\b.2.1<=10000000)/\(1000<=b.2.2.1/\b.2.2.1<=1000000)/\0<=b.2.2.2.1/\b.2.2.2.1<=200:=by
 obtain⟨a,h⟩:=z7 h;obtain⟨b',h⟩:=z7 h;obtain⟨c,h⟩:=z7 h;exact⟨a,wi b',wi c,wi h⟩
theorem R8(C:Int->Bool):∀(n:Nat) (lo e:Int),0<=lo->lo<=e->lo<=Me C n lo e/\Me C n lo e<=e
 | 0,lo,e,_,h=>⟨dX _,h⟩
 | n+1,lo,e,h0,h=>by
  unfold Me;split
  ·rename_i c;obtain⟨a,b⟩:=aEh h0 c;split
   ·have:=R8 C n lo _ h0 a;lia
   ·have:=R8 C n (aQ (lo+e) 2+1) e (by lia) (by lia);lia
  lia
theorem xe{b:dO}(h:oX b=true)(n:Int):aBU b n /\ -1<=CY b n/\CY b n<=20000:=by
 obtain⟨_,b1,_,b4⟩:=aEn h;have bs:=R8 (λx=>x8 x b n) (20000+1-0:Int).toNat 0 20001 (by lia) (by lia);have e:CY b n=Me (λx=>x8 x b n) (20000+1-0:Int).toNat 0 20001-1:=rfl;refine⟨⟨⟨⟨by lia,by lia,by lia⟩,λv hv0 hv=>?_⟩,?_,trivial⟩,by lia,by lia⟩
 ·have m1:=mb (A:=20000) (B:=20000) (a:=v) (b:=v) (by lia) (by lia);obtain⟨p1,q1,q2⟩:=JN (x:=v*v) (y:=b.2.1) (by lia) (by lia) (by lia);obtain⟨p2,r1,r2⟩:=JN (x:=981*b.2.2.2.1) (y:=100) (by lia) (by lia) (by lia);exact⟨⟨by grind [aJ],p1,by grind [aJ],p2,by grind [aJ],trivial⟩,trivial⟩
 ·show aX .i64 (Me (λx=>x8 x b n) (20000+1-0:Int).toNat 0 20001-1)
  grind [aJ]
def xf(l:Γ dO)(n:Int)(h:oY l=true->∀b∈l,oX b=true):aJ9 l n:=by
 intro hc b hb
 grind [sI,xe]
theorem xg{r g t b:Int}(h:JE r g [t,b]=true):(0<=r/\r<=100000)/\(1<=g/\g<=900)/\(0<=t/\t<=100000)/\0<=b/\b<=100000:=by
 obtain⟨a,h⟩:=z7 h;obtain⟨c,h⟩:=z7 h;unfold GL at a;rw[WE]at a;have e:∀x,GJ x=false->0<=x/\x<=100000:=λx hx=>wi (show bE x 0 100000=true from by
  have:(!bE x 0 100000)=false:=hx
  lia)
 simp at a;exact⟨wi (show bE r 0 100000=true from c),wi h,e t a.1,e b a.2⟩
theorem PF{x:Int×Int×Int×Int×Unit}(h:q8 x=true):1<=x.1/\x.1<=20000:=by
 exact wi (z7 h).1
def aGs(x:Int×Int×Int×Int×Unit)(t b r g n:Int):aNm x t b r g n:=by
 have key:∀c:Bool,(JE r g [t,b]=true)->¬(zZ x c != 0)=true->aNl x t b r g n:=λc hl hc=>by
  obtain⟨l1,l2,l3,l4⟩:=xg hl;have hx:q8 x=true:=by
   unfold zZ at hc
   lia
  obtain⟨b1,b2⟩:=PF hx;refine⟨⟨⟨by lia,by lia,by lia⟩,λv h0 hv=>?_⟩,trivial⟩;have m1:=mb (A:=400000) (B:=900) (a:=t+v-b-r) (b:=g) (by lia) (by lia);obtain⟨p,_⟩:=JN (x:=(t+v-b-r)*g*981) (y:=100000) (by lia) (by lia) (by lia);exact⟨by grind [aJ],⟨by grind [aJ],by grind [aJ],by grind [aJ],by grind [aJ],p,trivial⟩,trivial⟩
 unfold aNm;split
 ·grind
 ·grind [zZ]
theorem JP{l:Γ Int}{k:Int}(h:JG l k=true):k<=l.length/\l.length<=32/\∀x∈l, -1000000000<=x/\x<=1000000000:=by
 obtain⟨a,h⟩:=z7 h;obtain⟨b,h⟩:=z7 h;have a:=of_decide_eq_true a;refine⟨a,by lia,λx hx=>?_⟩;unfold GO at h;rw[WK,eZ,fC]at h;have q:=h x hx;have w:=wi (show bE x _ _=true from nb q)
 lia
theorem aJW:∀(l:Γ Int) (s:Int),l.foldl ce s=s\/l.foldl ce s∈l
 | [],s => .inl rfl
 | a::r,s=>by
  rw[iQ];rcases aJW r (ce s a)with h | h
  ·rw[h];unfold ce
   grind
  grind
def aJX(l:Γ Int)(n:Int):aUc l n:=by
 refine Fc λc=>Fc λc2=>?_;obtain⟨h1,h2,h3⟩:=JP (nb c);have hl:(j7 l n).length=l.length:=by simp[j7]
 have hc:∀x∈j7 l n,x<=32:=λx hx=>by
  unfold j7 at hx
  grind [BF]
 have hm:wE (j7 l n)∈j7 l n:=by
  grind [wE,aJW]
 have h0:∀x∈j7 l n,0<=x:=λx hx=>by
  unfold j7 at hx
  grind
 refine⟨⟨by lia,λx hx=>h3 x hx⟩,show 1<=(j7 l n).length by lia,by grind [aJ],Fc λ_=>?_⟩;unfold RD;have hi:∃k,(j7 l n).findIdx? (TL (wE (j7 l n)))=some k/\k<l.length:=by
  cases hf:(j7 l n).findIdx? (TL (wE (j7 l n)))with
  | none =>
   grind [TL]
  | some k =>
   rw[List.findIdx?_eq_some_iff_getElem]at hf
   lia
 obtain⟨k,hk,hk2⟩:=hi;rw[hk];show (0:Int)<=(k:Int)/\(k:Int)<_/\True
 lia
noncomputable section
def aJY(x0:Int)(x1:Int):Prop:=if x1==2 then aX .i64 (bY x0 4)/\True else True
def mP(x0:Int)(x1:Int):Int:=if x1==2 then(if bY x0 4==0 then 29 else 28)else if x1==4 then 30 else if x1==6 then 30 else if x1==9 then 30 else if x1==11 then 30 else 31
def aQT:KK:=mB Tryz.func483 [.v (.int .i64),.v (.int .i64)] [.int .i64] [] aJY (mP,()) λ_=>lT (pw 4<|aL<|dS pr pr)<|dS pr<|dS pr<|dS pr<|dS pr pr
def aUG:gC:=D0 pd [.v (.int .i64),.v (.int .i64),.v (.int .i64)] [.int .i64] [aQT]
mutual
def aUH:Nat->Int->Int->Int->Γ aS->Prop
 | 0,_,_,_,_=>False
 | n+1,x0,x1,x2,ds=>aX .i64 (x0-2000)/\aX .i64 ((x0-2000)*365)/\aX .i64 (x0-1997)/\aX .i64 (aQ (x0-1997) 4)/\aX .i64 ((x0-2000)*365+aQ (x0-1997) 4)/\aX .i64 ((x0-2000)*365+aQ (x0-1997) 4+x2)/\aX .i64 ((x0-2000)*365+aQ (x0-1997) 4+x2-1)/\R9 n ((x0-2000)*365+aQ (x0-1997) 4+x2-1) 1 x0 x1 ds
def R9:Nat->Int->Int->Int->Int->Γ aS->Prop
 | 0,_,_,_,_,_=>False
 | n+1,v7,v8,x0,x1,ds=>if decide (v8<x1)then aJY x0 v8/\aX .i64 (v7+mP x0 v8)/\aX .i64 (v8+1)/\R9 n (v7+mP x0 v8) (v8+1) x0 x1 ds else ds=[aI (.int .i64) v7]
end
def aUI(ds:Γ aS)(K:fG)(q:Nat->Value):∀n,(∀ {x0 x1 x2},aUH n x0 x1 x2 ds->St aUG (x0,x1,x2,()) ds [] K q)/\(∀ {v7 v8 x0 x1},R9 n v7 v8 x0 x1 ds->Cu aUG 3 ([eI 0 x0,eI 1 x1,eI 7 v7,eI 8 v8],[]) ds [] K q):=nI ⟨aH,aH⟩ λn ⟨i,i3⟩=>⟨aL<|aL<|aL<|pw 4<|aL<|aL<|aL<|aL<|bX i3,
  bD (aL<|aL<|aL<|bX i3) cM⟩
def lI(y:Int):Nat->Int
 | 0=>0
 | k+1=>lI y k+mP y ((k:Int)+1)
def cn(y d:Int):Int:=(y-2000)*365+aQ (y-1997) 4+d-1
def fH(x0 x1 x2:Int):Int:=cn x0 x2+lI x0 (x1-1).toNat
def xh(x0 x1 x2:Int):Prop:=(2000<=x0/\x0<=2099)/\(1<=x1/\x1<=12)/\(1<=x2/\x2<=31)
theorem Mq{y m:Int}(hy:2000<=y/\y<=2099):aJY y m/\28<=mP y m/\mP y m<=31:=by
 have e:bY y 4=y%4:=gN (by lia);unfold aJY mP;rw[e];have hi:aX .i64 (y%4):=by grind [aJ]
 lia
theorem ie{y:Int}(hy:2000<=y/\y<=2099):∀k,0<=lI y k/\lI y k<=31*k
 | 0=>by simp[lI]
 | k+1=>by
  have:=ie hy k;have:=Mq hy (m:=(k:Int)+1)
  grind [lI]
theorem aNz{y m:Int}(hy:2000<=y/\y<=2099)(hm:1<=m/\m<=12)(v:Int)(hv:0<=v/\v<=1000000):∀(k i:Nat),(i:Int)+k=m-1 ->
  R9 (k+1) (v+lI y i) ((i:Int)+1) y m [⟨.int .i64,v+lI y (m-1).toNat⟩]:=by
 intro k
 induction k with
 | zero =>
  intro i hi;rw[R9,ν (by lia),show (m-1).toNat=i by lia]
 | succ k ih =>
  intro i hi;obtain⟨p,l1,l2⟩:=Mq hy (m:=(i:Int)+1);obtain⟨b1,b2⟩:=ie hy i;rw[R9,π (by lia)];have e1:v+lI y i+mP y ((i:Int)+1)=v+lI y (i+1):=by grind [lI]
  refine⟨p,by grind [aJ],by grind [aJ],?_⟩
  grind
theorem aUJ(x0 x1 x2:Int)(h:xh x0 x1 x2):aUH ((x1-1).toNat+1+1) x0 x1 x2 [⟨.int .i64,fH x0 x1 x2⟩]:=by
 obtain⟨h0,h1,h2⟩:=h;have e:aQ (x0-1997) 4=(x0-1997)/4:=eY (by omega);rw[aUH];have:=aNz h0 h1 (cn x0 x2) (by unfold cn;rw[e];omega) (x1-1).toNat 0 (by omega);refine⟨by rw[aJ];omega,by rw[aJ];omega,by rw[aJ];omega,by rw[aJ,e];omega,by rw[aJ,e];omega,by rw[aJ,e];omega,by rw[aJ,e];omega,?_⟩;simpa [lI,fH,cn] using this
def aQU:KK:=mL aUG (DO pd) xh (fH,()) (λ⟨x0,x1,x2,_⟩ h hwf K q =>
 (aUI _ K q _).1 (aUJ x0 x1 x2 h))
def aN0:gC:=D0 pf [.v (.int .i64)] [.int .i64,.int .i64,.int .i64] [aQU]
mutual
def aUK:Nat->Int->Γ aS->Prop
 | 0,_,_=>False
 | n+1,x0,ds=>Ra n 2000 x0 ds
def Ra:Nat->Int->Int->Γ aS->Prop
 | 0,_,_,_=>False
 | n+1,v5,x0,ds=>if decide (v5<2099)then aX .i64 (v5+1)/\xh (v5+1) 1 1/\if decide (fH (v5+1) 1 1<=x0)then aX .i64 (v5+1)/\Ra n (v5+1) x0 ds else Mr n 1 x0 v5 ds else Mr n 1 x0 v5 ds
def Mr:Nat->Int->Int->Int->Γ aS->Prop
 | 0,_,_,_,_=>False
 | n+1,v6,x0,v5,ds=>if decide (v6<12)then aX .i64 (v6+1)/\xh v5 (v6+1) 1/\if decide (fH v5 (v6+1) 1<=x0)then aX .i64 (v6+1)/\Mr n (v6+1) x0 v5 ds else xh v5 v6 1/\aX .i64 (x0-fH v5 v6 1)/\aX .i64 (x0-fH v5 v6 1+1)/\ds=[aI (.int .i64) v5,aI (.int .i64) v6,aI (.int .i64) (x0-fH v5 v6 1+1)] else xh v5 v6 1/\aX .i64 (x0-fH v5 v6 1)/\aX .i64 (x0-fH v5 v6 1+1)/\ds=[aI (.int .i64) v5,aI (.int .i64) v6,aI (.int .i64) (x0-fH v5 v6 1+1)]
end
def aUL(ds:Γ aS)(K:fG)(q:Nat->Value):∀n,(∀ {x0},aUK n x0 ds->St aN0 (x0,()) ds [] K q)/\(∀ {v5 x0},Ra n v5 x0 ds->Cu aN0 2 ([eI 0 x0,eI 5 v5,eI 6 1],[]) ds [] K q)/\(∀ {v6 x0 v5},Mr n v6 x0 v5 ds->Cu aN0 4 ([eI 0 x0,eI 5 v5,eI 6 v6],[]) ds [] K q):=nI ⟨aH,aH,aH⟩ λn ⟨i,i2,i4⟩=>⟨bX i2,
  bD (aL<|aL<|bD (aL<|bX i2)<|bX i4)<|dK<|bX i4,
  bD (aL<|aL<|bD (aL<|bX i4)<|aL<|aL<|aL cM)<|dK<|aL<|aL<|aL cM⟩
def PG(day:Int):Nat->Int->Int
 | 0,y=>y
 | k+1,y=>if fH (y+1) 1 1<=day then PG day k (y+1)else y
def PI(day y:Int):Nat->Int->Int
 | 0,m=>m
 | k+1,m=>if fH y (m+1) 1<=day then PI day y k (m+1)else m
def BJ(x0:Int):Int:=PG x0 99 2000
def C5(x0:Int):Int:=PI x0 (BJ x0) 11 1
def Ms(x0:Int):Int:=x0-fH (BJ x0) (C5 x0) 1+1
def aUM(x0:Int):Prop:=0<=x0/\x0<=1000000
theorem ig{y m:Int}(hy:2000<=y/\y<=2099)(hm:1<=m/\m<=12):xh y m 1/\0<=fH y m 1/\fH y m 1<=1000000:=by
 have e:aQ (y-1997) 4=(y-1997)/4:=eY (by lia);have:=ie hy (m-1).toNat;refine⟨⟨hy,hm,by lia⟩,?_,?_⟩ <;> unfold fH cn <;> rw[e] <;> omega
theorem aEo{y day:Int}(hy:2000<=y/\y<=2099)(hd:0<=day/\day<=1000000)(e:Nat):∀(k:Nat) (m:Int),m+k=12->1<=m ->
  Mr (k+1+e) m day y [⟨.int .i64,y⟩,⟨.int .i64,PI day y k m⟩,⟨.int .i64,day-fH y (PI day y k m) 1+1⟩]:=by
 intro k
 induction k with
 | zero =>
  intro m hm h1;obtain⟨p,b1,b2⟩:=ig hy (m:=m) (by lia);rw[show 0+1+e=e+1 by lia,Mr,ν (by lia)];exact⟨p,by grind [aJ],by grind [aJ],rfl⟩
 | succ k ih =>
  intro m hm h1;obtain⟨p,b1,b2⟩:=ig hy (m:=m) (by lia);obtain⟨q,c1,c2⟩:=ig hy (m:=m+1) (by lia);rw[show k+1+1+e=(k+1+e)+1 by lia,Mr,π (by lia)];refine⟨by grind [aJ],q,?_⟩;unfold PI;by_cases hc:fH y (m+1) 1<=day
  ·grind [aJ]
  ·rw[ν (by lia),ν hc];exact⟨p,by grind [aJ],by grind [aJ],rfl⟩
theorem aN1{day:Int}(hd:0<=day/\day<=1000000):∀(k:Nat) (y:Int),y+k=2099->2000<=y ->
  Ra (k+1+12) y day [⟨.int .i64,PG day k y⟩,⟨.int .i64,PI day (PG day k y) 11 1⟩,⟨.int .i64,day-fH (PG day k y) (PI day (PG day k y) 11 1) 1+1⟩]:=by
 intro k
 induction k with
 | zero =>
  intro y hy h1;rw[Ra,ν (by lia)];exact aEo (by lia) hd 0 11 1 (by lia) (by lia)
 | succ k ih =>
  intro y hy h1;obtain⟨q,c1,c2⟩:=ig (y:=y+1) (m:=1) (by lia) (by lia);rw[Ra,π (by lia)];refine⟨by grind [aJ],q,?_⟩;unfold PG;by_cases hc:fH (y+1) 1 1<=day
  ·grind [aJ]
  ·rw[ν (by lia),ν hc,show k+1+12=11+1+(k+1)by lia];exact aEo (by lia) hd (k+1) 11 1 (by lia) (by lia)
theorem aUN(x0:Int)(h:aUM x0):aUK (99+1+12+1) x0 [⟨.int .i64,BJ x0⟩,⟨.int .i64,C5 x0⟩,⟨.int .i64,Ms x0⟩]:=by
 rw[aUK];exact aN1 h 99 2000 (by omega) (by omega)
def bDk:KK:=mL aN0 (DO pf) aUM (BJ,C5,Ms,()) (λ⟨x0,_⟩ h hwf K q =>
 (aUL _ K q _).1 (aUN x0 h))
def Mu(x0:Int):Prop:=if !pU x0 then True else aUM x0/\DH (BJ x0)/\aG (dA (BJ x0))+1<=9223372036854775807/\aBW (C5 x0) 2/\aG (dA (BJ x0)++aA #[45])+aG (x9 (C5 x0) 2)<=9223372036854775807/\aG (dA (BJ x0)++aA #[45]++x9 (C5 x0) 2)+1<=9223372036854775807/\aBW (Ms x0) 2/\aG (dA (BJ x0)++aA #[45]++x9 (C5 x0) 2++aA #[45])+aG (x9 (Ms x0) 2)<=9223372036854775807/\True
def o3(x0:Int):Δ:=if !pU x0 then aA #[] else dA (BJ x0)++aA #[45]++x9 (C5 x0) 2++aA #[45]++x9 (Ms x0) 2
def aEp:KK:=mB Tryz.func226 [.v (.int .i64)] [.str] [aEc,bDk,PA,aQO] Mu (o3,()) λ_=>bH<|lT pr<|aL<|aL<|aL<|aL<|aL<|aL<|aL<|aL pr
end
def aW(x0 x1:Δ):Γ Δ:=Lib.splitB x1 0 (gX x0 x1) x0
def xi(x0 x1:Δ):Prop:=x0.size<4294967281/\1<=x1.size
def bDl:Am.Spec:={ sig:=aU1,pre:=λ⟨x0,x1,_⟩=>xi x0 x1,res:=λ⟨x0,x1,_⟩=>[⟨sM qA,aW x0 x1⟩] }
theorem aUP:Th 112 bDl:=Ay Tryz.func112<|by
 refine Br.up rfl rfl ?_;rintro w ⟨x0,x1,u⟩ vs bss hgo hp ⟨v0,s0,b0,bs0,rfl,rfl,⟨rfl,rfl,_⟩,v1,s1,b1,bs1,rfl,rfl,⟨rfl,rfl,_⟩,rfl,rfl⟩ hn;obtain⟨hs,h1⟩:x0.size<4294967281/\1<=x1.size:=hp;obtain⟨m,hm⟩:=aDO hgo.inv;refine(Tryz.strings_Split x0 x1 m w hs hm h1).mono ?_;rintro e w' ⟨rfl,rfl⟩;have hlen:(aW x0 x1).length=gX x0 x1+1:=yV x1 h1 0 _ _ rfl;have hle:=A8 x1 h1 x0.size x0 (aU _);have hparts:∀y∈aW x0 x1,y.size<=maxLen:=λy hy=>by
  have:=sX x1 0 _ _ y hy;unfold maxLen;omega
 have e1:∀xs:Γ Δ,rN .str xs=xs.map oR:=by
  intro xs
  induction xs with
  | nil=>rfl
  | cons a r ih=>unfold rN at ih ⊢;rw[dY,gR,ih];rfl
 have ho:iH (w.alloc (.cells ((aW x0 x1).map oR).toArray 9)) (.sl .str) (aW x0 x1) [.slice (some ⟨w.heap.size,0,none⟩) (gX x0 x1+1) (gX x0 x1+1)] [w.heap.size] :=
  TB rfl hparts hlen.symm (Nat.le_of_eq hlen) (by unfold maxLen;omega) (by rw[gA,eV,hlen];simp[Ty.size]) (FC w _) (CH _ _) (λj u hj=>by
   rw[e1]at hj;rw[cO, <- Array.getElem?_toList];exact hj)
 refine⟨[_],[],[[w.heap.size]],rfl,(dI _ _).alloc _,⟨_,_,_,_,_,rfl,rfl,ho,rfl,rfl,rfl⟩,⟨rfl,rfl⟩,by simp,λb hb hg=>?_⟩;simp at hb;have:=hg.1;omega
def co:KK:=⟨112,bDl,aUP⟩
noncomputable section
def bDm(x0:Int)(x1:Int)(x2:Int):Prop:=if !bE x0 2000 2099 then True else if !bE x1 1 12 then True else aJY x0 x1/\if !bE x2 1 (mP x0 x1)then True else xh x0 x1 x2/\True
def Mv(x0:Int)(x1:Int)(x2:Int):Int:=if !bE x0 2000 2099 then 0 else if !bE x1 1 12 then 0 else if !bE x2 1 (mP x0 x1)then 0 else fH x0 x1 x2
def JQ(x0:Int)(x1:Int)(x2:Int):Int:=if !bE x0 2000 2099 then 2 else if !bE x1 1 12 then 2 else if !bE x2 1 (mP x0 x1)then 2 else 0
def bDn:KK:=mB Tryz.func414 [.v (.int .i64),.v (.int .i64),.v (.int .i64)] [.int .i64,.int .i64] [lF,aQT,aQU] bDm (Mv,JQ,()) λ_=>bH<|dL (jM<|jM pr)<|bH<|dL (jM pr)<|aL<|bH<|dL pr<|aL pr
def aGt(x0:Δ):Prop:=((xi x0 (aA #[45]))/\(if((↑(aF (aW x0 (aA #[45]))):Int) != 3)=true then True else((0<(↑(aF (aW x0 (aA #[45]))):Int))/\((1<(↑(aF (aW x0 (aA #[45]))):Int))/\((2<(↑(aF (aW x0 (aA #[45]))):Int))/\((bDm (eJ (aD (aW x0 (aA #[45])) 0 aC)) (eJ (aD (aW x0 (aA #[45])) 1 aC)) (eJ (aD (aW x0 (aA #[45])) 2 aC)))/\(if(JQ (eJ (aD (aW x0 (aA #[45])) 0 aC)) (eJ (aD (aW x0 (aA #[45])) 1 aC)) (eJ (aD (aW x0 (aA #[45])) 2 aC)) != 0)=true then True else((Mu (Mv (eJ (aD (aW x0 (aA #[45])) 0 aC)) (eJ (aD (aW x0 (aA #[45])) 1 aC)) (eJ (aD (aW x0 (aA #[45])) 2 aC))))/\True))))))))
def rY(x0:Δ):Int:=if(↑(aF (aW x0 (aA #[45]))):Int) != 3 then 0 else if JQ (eJ (aD (aW x0 (aA #[45])) 0 aC)) (eJ (aD (aW x0 (aA #[45])) 1 aC)) (eJ (aD (aW x0 (aA #[45])) 2 aC)) != 0 then 0 else if !aB (o3 (Mv (eJ (aD (aW x0 (aA #[45])) 0 aC)) (eJ (aD (aW x0 (aA #[45])) 1 aC)) (eJ (aD (aW x0 (aA #[45])) 2 aC))))==aB x0 then 0 else Mv (eJ (aD (aW x0 (aA #[45])) 0 aC)) (eJ (aD (aW x0 (aA #[45])) 1 aC)) (eJ (aD (aW x0 (aA #[45])) 2 aC))
def u2(x0:Δ):Bool:=if(↑(aF (aW x0 (aA #[45]))):Int) != 3 then false else if JQ (eJ (aD (aW x0 (aA #[45])) 0 aC)) (eJ (aD (aW x0 (aA #[45])) 1 aC)) (eJ (aD (aW x0 (aA #[45])) 2 aC)) != 0 then false else if !aB (o3 (Mv (eJ (aD (aW x0 (aA #[45])) 0 aC)) (eJ (aD (aW x0 (aA #[45])) 1 aC)) (eJ (aD (aW x0 (aA #[45])) 2 aC))))==aB x0 then false else true
def bDo:KK:=mB Tryz.func321 [.v (.str)] [.int .i64,.bool] [co,aQQ,bDn,aEp] aGt (rY,u2,()) λ_=>aL<|dL pr<|pq 0<|aL<|bH<|pq 1<|aL<|bH<|pq 2<|aL<|bH<|aL<|dL (jM pr)<|aL<|vY pr pr
end
theorem W9(s:Δ)(hs:s.size<=281474976710656)(v:Int)(h:iS 64 s.data.toList = .ok v)(W:World) :
  Calls aN 192 #[.string s,.int .i64 10,.int .i64 64] W λe w'=>e = .returned (.tuple #[.int .i64 v,.nilIface])/\Go.RowKit.Below W.heap.size W w':=by
 refine(Tryz.strconv_ParseInt_10_at64_ok s (by omega) v h W).mono ?_;rintro e w' ⟨rfl,hw⟩;refine⟨rfl,?_⟩;rcases hw with rfl | ⟨t,rfl⟩
 ·exact Go.RowKit.Below.refl _ _
 ·exact Lib.bytesWorld_below _ _ _
def aBZ(s:Δ)(hs:s.size<=281474976710656)(h:∀v,iS 64 s.data.toList ≠ .ok v)(W:World)(hg:Eu W) :
  Calls aN 192 #[.string s,.int .i64 10,.int .i64 64] W λe w'=>∃n t N,e = .returned (.tuple #[.int .i64 n,.iface t (.pointer (some ⟨N,0,none⟩))])/\Go.RowKit.Below W.heap.size W w':=by
 obtain⟨es,hes,hes2⟩:=aB5 hg;obtain⟨er,her,her2⟩:=aFU hg;rcases hp:iS 64 s.data.toList with v | _ | _
 ·grind
 ·refine(Tryz.strconv_ParseInt_10_at64_syntax s hs hp es W hes hes2).mono ?_
  grind
 ·refine(Tryz.strconv_ParseInt_10_at64_range s hs hp er W her her2).mono ?_
  grind
def z8(x0 x1:Δ):Δ:=⟨(DC x0.data.toList x1.data.toList).toArray⟩
end Go.Proofs.YtbaoaedmbhpolaaGreatDoor
set_option maxRecDepth 100000
namespace Go.Proofs.YtbaoaedmbhpolaaGreatDoor
open Go Go.Am Go.Proofs Go.RowKit
def aJZ(W:World)(n:Int)(hi:aX .i64 n)(hgo:Ym W []) :
  Calls aN 193 #[.int .i64 n] W λe w'=>e = .returned (.string (lD n))/\Below W.heap.size W w':=by
 have h:=PA.h.2.down rfl W (n,()) [.int .i64 n] [[]] hgo ⟨rfl,trivial⟩ ⟨_,[],[],[],rfl,rfl,⟨rfl,rfl,hi⟩,rfl,rfl⟩ (by simp);refine h.mono ?_;rintro e w' ⟨rs,ubs,rbs,rfl,hk,⟨u,s,b1,bs1,cs,rfl,rfl,ho,hv,rfl,rfl⟩,_⟩;obtain⟨ho,_⟩:=ho;have hv:cs=[u]:=hv;rw[ho]at hv;cases hv;exact⟨rfl,hk.below⟩
def PJ(W:World)(s d:Δ)(h:z8 s ⟨#[45]⟩=d):Calls aN 191 #[.string s,.string ⟨#[45]⟩] W λe w'=>e = .returned (.string d)/\w'=W:=by
 rw[<- h];exact Tryz.strings_TrimPrefix s ⟨#[45]⟩ W
def Wa{l:Γ UInt8}{v:Int}(h:iS 64 l = .ok v):aX .i64 v:=by
 unfold iS at h;split at h
 ·lia
 ·simp at h;split at h
  ·lia
  ·lia
  ·split at h
   ·lia
   ·split at h
    ·lia
    ·grind [aJ]
def UK(s:Δ):Bool:=decide ((z8 s ⟨#[45]⟩).size<1)||decide (18<(z8 s ⟨#[45]⟩).size)
def JR(s:Δ):Option Int:=if UK s=true then none else match iS 64 s.data.toList with
 | .ok v=>if lD v=s then some v else none
 | _=>none
set_option maxHeartbeats 4000000 in
def ij(w:World)(s d:Δ)(HD:Aside (z8 s ⟨#[45]⟩=d))(h1:(d.size:Int)<1) :
  Calls aN 117 #[.string s] w λe w'=>e = .returned (.tuple #[.int .i64 0,.bool false])/\Below w.heap.size w w':=by
 have mixed:=mixed
 go_enter yW,A9
 go_wp2_with (go_at_call 191;refine(PJ _ s d HD.out).mono ?_;rintro e w1 ⟨rfl,rfl⟩)
 go_ret2
 exact⟨rfl,Below.refl _ _⟩
set_option maxHeartbeats 4000000 in
def xj(w:World)(s d:Δ)(HD:Aside (z8 s ⟨#[45]⟩=d))(h1:¬(d.size:Int)<1)(h2:(d.size:Int)>18) :
  Calls aN 117 #[.string s] w λe w'=>e = .returned (.tuple #[.int .i64 0,.bool false])/\Below w.heap.size w w':=by
 have mixed:=mixed
 go_enter yW,A9
 go_wp2_with (go_at_call 191;refine(PJ _ s d HD.out).mono ?_;rintro e w1 ⟨rfl,rfl⟩)
 go_ret2
 exact⟨rfl,Below.refl _ _⟩
set_option maxHeartbeats 4000000 in
def aGu(w:World)(s d:Δ)(hs:s.size<=281474976710656)(hgo:Ym w [])(HD:Aside (z8 s ⟨#[45]⟩=d))(h1:¬(d.size:Int)<1)(h2:¬(d.size:Int)>18)(v:Int)(HP:Aside (iS 64 s.data.toList = .ok v))(HE:Aside (lD v=s)) :
  Calls aN 117 #[.string s] w λe w'=>e = .returned (.tuple #[.int .i64 v,.bool true])/\Below w.heap.size w w':=by
 have mixed:=mixed
 go_enter yW,A9
 go_wp2_with (go_at_call 191;refine(PJ _ s d HD.out).mono ?_;rintro e w1 ⟨rfl,rfl⟩)
 have HR:Aside (aX .i64 v):=Wa HP.out
 go_wp2_with (go_at_call 192;refine(W9 s hs v HP.out _).mono ?_)
 rintro e w2 ⟨rfl,b2⟩
 go_wp2_with (go_at_call 193;refine(aJZ _ v HR.out (aTI hgo b2)).mono ?_)
 rintro e w3 ⟨rfl,b3⟩;rw[HE.out]
 go_wp2
 go_ret2
 exact⟨rfl,b2.trans (b3.mono b2.size)⟩
set_option maxHeartbeats 4000000 in
def aGv(w:World)(s d:Δ)(hs:s.size<=281474976710656)(hgo:Ym w [])(HD:Aside (z8 s ⟨#[45]⟩=d))(h1:¬(d.size:Int)<1)(h2:¬(d.size:Int)>18)(v:Int)(HP:Aside (iS 64 s.data.toList = .ok v))(HE:Aside (¬lD v=s)) :
  Calls aN 117 #[.string s] w λe w'=>e = .returned (.tuple #[.int .i64 0,.bool false])/\Below w.heap.size w w':=by
 have mixed:=mixed
 go_enter yW,A9
 go_wp2_with (go_at_call 191;refine(PJ _ s d HD.out).mono ?_;rintro e w1 ⟨rfl,rfl⟩)
 have HR:Aside (aX .i64 v):=Wa HP.out
 go_wp2_with (go_at_call 192;refine(W9 s hs v HP.out _).mono ?_)
 rintro e w2 ⟨rfl,b2⟩
 go_wp2_with (go_at_call 193;refine(aJZ _ v HR.out (aTI hgo b2)).mono ?_)
 rintro e w3 ⟨rfl,b3⟩;have he':((lD v).toList==s.toList)=false:=by
  rw[bV];exact λhh=>HE.out ((bC _ _).1 hh)
 go_wp2
 go_ret2
 exact⟨rfl,b2.trans (b3.mono b2.size)⟩
set_option maxHeartbeats 4000000 in
def aGw(w:World)(s d:Δ)(hs:s.size<=281474976710656)(hgo:Ym w [])(HD:Aside (z8 s ⟨#[45]⟩=d))(h1:¬(d.size:Int)<1)(h2:¬(d.size:Int)>18)(HP:Aside (∀v,iS 64 s.data.toList ≠ .ok v)) :
  Calls aN 117 #[.string s] w λe w'=>e = .returned (.tuple #[.int .i64 0,.bool false])/\Below w.heap.size w w':=by
 have mixed:=mixed
 go_enter yW,A9
 go_wp2_with (go_at_call 191;refine(PJ _ s d HD.out).mono ?_;rintro e w1 ⟨rfl,rfl⟩)
 go_wp2_with (go_at_call 192;refine(aBZ s hs HP.out _ hgo.inv).mono ?_)
 rintro e w2 ⟨n,t,N,rfl,b2⟩
 go_wp2
 go_ret2
 exact⟨rfl,b2⟩
def aUQ:Γ AT:=[nV .str]
def gG(x0:Δ):Int:=(JR x0).getD 0
def gK(x0:Δ):Bool:=(JR x0).isSome
def aKb(x0:Δ):Prop:=x0.size<=281474976710656
def bDp:Am.Spec:={ sig:=aUQ,pre:=λ⟨x0,_⟩=>aKb x0,res:=λ⟨x0,_⟩=>[⟨.int .i64,gG x0⟩,⟨.bool,gK x0⟩] }
def aUR:Th 117 bDp:=Ay yW<|oU rfl λw ⟨x0,_⟩ vs bss hg hp hw ha=>by
 obtain⟨v0,s0,_,_,rfl,_,⟨_,rfl,_⟩,rfl,_⟩:=ha;have hs:x0.size<=281474976710656:=hp;have hgo:Ym w []:=⟨hg,hg.size,λb hb=>by cases hb⟩;refine⟨λd hd=>?_,?_⟩
 ·simp only[bA,uO,or_false]at hd;rcases hd with rfl | rfl
  ·refine⟨rfl,?_⟩;show aX .i64 ((JR x0).getD 0);have z:aX .i64 0:=by rw[aJ];omega
   unfold JR;split
   ·exact z
   ·split
    ·rename_i v h;split
     ·exact Wa h
     ·exact z
    ·exact z
  ·exact⟨rfl,trivial⟩
 ·show Calls aN 117 #[.string x0] w λe w'=>e = .returned (.tuple #[.int .i64 ((JR x0).getD 0),.bool (JR x0).isSome])/\dD [] w w';have hd:Aside (z8 x0 ⟨#[45]⟩=z8 x0 ⟨#[45]⟩):=rfl;unfold JR UK;by_cases h1:(z8 x0 ⟨#[45]⟩).size<1
  ·rw[π (by simp[h1])];refine(ij w x0 _ hd (by omega)).mono ?_;rintro e w' ⟨rfl,hb⟩;exact⟨rfl,iR hb⟩
  ·by_cases h2:18<(z8 x0 ⟨#[45]⟩).size
   ·rw[π (by simp[h2])];refine(xj w x0 _ hd (by omega) (by omega)).mono ?_;rintro e w' ⟨rfl,hb⟩;exact⟨rfl,iR hb⟩
   ·rw[ν (by simp[h1,h2])];by_cases hok:∃v,iS 64 x0.data.toList = .ok v
    ·obtain⟨v,hv⟩:=hok;rw[hv];by_cases he:lD v=x0
     ·simp only[π he];refine(aGu w x0 _ hs hgo hd (by omega) (by omega) v hv he).mono ?_;rintro e w' ⟨rfl,hb⟩;exact⟨rfl,iR hb⟩
     ·simp only[ν he];refine(aGv w x0 _ hs hgo hd (by omega) (by omega) v hv he).mono ?_;rintro e w' ⟨rfl,hb⟩;exact⟨rfl,iR hb⟩
    ·have hno:∀v,iS 64 x0.data.toList ≠ .ok v:=λv hv=>hok ⟨v,hv⟩;have e:(match iS 64 x0.data.toList with
      | .ok v=>if lD v=x0 then some v else none
      | _=>none:Option Int)=none:=by
      split
      ·rename_i v hv;exact absurd hv (hno v)
      ·rfl
     rw[e];refine(aGw w x0 _ hs hgo hd (by omega) (by omega) hno).mono ?_;rintro e w' ⟨rfl,hb⟩;exact⟨rfl,iR hb⟩
def aEq:KK:=⟨117,bDp,aUR⟩
def aUS:Γ AT:=[nV (sM qA),nV qA]
def rA(x0:Γ Δ)(x1:Δ):Δ:=⟨(uC (x0.map λx=>x.data.toList) x1.data.toList).toArray⟩
def ZC(x0:Γ Δ)(x1:Δ):Prop:=x0.length<=1048576/\(uC (x0.map λx=>x.data.toList) x1.data.toList).length<=140737488355328
def bDq:Am.Spec:={ sig:=aUS,pre:=λ⟨x0,x1,_⟩=>ZC x0 x1,res:=λ⟨x0,x1,_⟩=>[⟨qA,rA x0 x1⟩] }
def aUT:Th 295 bDq:=Ay Tryz.func295<|oU rfl λw ⟨x0,x1,_⟩ vs bss hg hp hw ha=>by
 obtain⟨v0,s0,_,_,rfl,_,⟨_,ho⟩,v1,s1,_,_,rfl,_,⟨_,rfl,_⟩,rfl,_⟩:=ha;obtain⟨h0,h1⟩:x0.length<=1048576/\(uC (x0.map λx=>x.data.toList) x1.data.toList).length<=140737488355328:=hp;refine⟨λd hd=>?_,?_⟩
 ·rw[dG.1 hd];refine⟨rfl,?_⟩;show (rD _).size<=maxLen;rw[gA];exact gI h1 (by decide)
 ·obtain⟨_,_,hcase⟩:=Qx (t := .str) rfl ho;rcases hcase with ⟨ad,rfl,rfl⟩ | ⟨b',off,cap,rfl,h2,h3,hG,hcells⟩
  ·refine(Tryz.strings_Join_none ad 0 x1 w).mono ?_;rintro e w' ⟨rfl,rfl⟩;exact⟨rfl,dI _ _⟩
  ·refine(Tryz.strings_Join b' off cap x0 x1 w (λj x hx=>?_) hG.1 (by omega) h2 h1).mono ?_
   ·refine hcells j _ ?_;have e:rN .str x0=x0.map oR:=by
     have:∀xs:Γ Δ,rN .str xs=xs.map oR:=by
      intro xs
      induction xs with
      | nil=>rfl
      | cons a r ih=>unfold rN at ih ⊢;rw[dY,gR,ih];rfl
     exact this x0
    rw[e,sJ,hx];rfl
   ·rintro e w' ⟨rfl,hb⟩;exact⟨rfl,iR hb⟩
def aEr:KK:=⟨295,bDq,aUT⟩
noncomputable section
def Rb(x0:Int):Bool:=bE x0 (-1000000000000) 1000000000000
def bDr:KK:=mB Tryz.func294 [.v (.int .i64)] [.bool] [lF] nP (Rb,()) λ_=>bH pr
def Rc(x0:Int):Bool := !Rb x0
def aQV:KK:=mB Tryz.func293 [.v (.int .i64)] [.bool] [bDr] nP (Rc,()) λ_=>bH pr
def Wb:gC:=D0 rG [.v (.sl Za),.fn 293 []] [.int .i64] [aQV]
def aCa(ds:Γ aS)(K:fG)(q:Nat->Value):∀n,(∀ {x0},RI0 Rc 0 n x0 ds->St Wb (x0,(),()) ds [] K q)/\(∀ {v8 x0},RI Rc 0 n v8 x0 ds->Cu Wb 2 ([eL 0 (.int .i64) x0,(1,PV.fn 293 []),eI 7 (x0.length:Int),eI 8 v8],[]) ds [] K q):=nI ⟨aH,aH⟩ λn ⟨i,i2⟩=>⟨bX i2,
  bD (cP<|bH<|bD cM<|aL<|bX i2) cM⟩
def Mw(x0:Γ (Int)):Int:=idx (x0.findIdx? Rc)
def aGx:KK:=mL Wb (DO rG) nP (Mw,()) (λ⟨x0,_⟩ h hwf K q =>
 (aCa _ K q _).1 (Vl hwf.1.1))
theorem Wc(x0:Γ (Int)):decide (Mw x0>=0)=x0.any Rc:=Vm
def wH(x0:Γ Int):Bool:=decide (Mw x0>=0)
def aGy:KK:=mB Tryz.func292 [.v (.sl Za),.fn 293 []] [.bool] [aGx,aQV] nP (wH,()) λ_=>bH pr
def aUU:gC:=D0 ph [.v (.sl Za)] [.str] [PA,aEr,aGy]
mutual
def aUV:Nat->Γ Int->Γ aS->Prop
 | 0,_,_=>False
 | n+1,x0,ds=>if decide ((x0.length:Int)>64)then ds=[aI .str (aA #[])] else if wH x0 then ds=[aI .str (aA #[])] else if(x0.length:Int)==0 then ds=[aI .str (aA #[45])] else Mx n 0 ([]) x0 ds
def Mx:Nat->Int->Γ Δ->Γ Int->Γ aS->Prop
 | 0,_,_,_,_=>False
 | n+1,Hw,h0,x0,ds=>if decide (Hw<(x0.length:Int))then 0<=Hw/\Hw<(x0.length:Int)/\DH (aD x0 (aE Hw) 0)/\(aF h0+1)*16<=140737488355328/\aX .i64 (Hw+1)/\Mx n (Hw+1) (h0++[dA (aD x0 (aE Hw) 0)]) x0 ds else ZC h0 (aA #[44])/\ds=[aI .str (rA h0 (aA #[44]))]
end
def aUW(ds:Γ aS)(K:fG)(q:Nat->Value):∀n,(∀ {x0},aUV n x0 ds->St aUU (x0,()) ds [] K q)/\(∀ {Hw h0 x0},Mx n Hw h0 x0 ds->Cu aUU 7 ([eW 3 0,eL 16 (.int .i64) x0,eI 17 (x0.length:Int),eI 18 Hw],[cL .str h0]) ds [] K q):=nI ⟨aH,aH⟩ λn ⟨i,i7⟩=>⟨bD (jM cM)<|bH<|bD cM<|bD cM<|Dr [(3,.str)] i7,
  bD (cP<|aL<|aL<|aL<|Dr [(3,.str)] i7)<|aL cM⟩
def hJ(x0:Γ Int):Δ:=if x0.length>64 then aA #[] else if wH x0 then aA #[] else if x0.length=0 then aA #[45] else rA (x0.map dA) (aA #[44])
def aUX(x:Int)(h:aX .i64 x):(dA x).size<=21:=by
 rw[aJ]at h;exact w5 x (by lia) (by lia)
theorem aEs:∀(xs:Γ Int),(∀x∈xs,aX .i64 x)->DD (xs.map λx=>(dA x).data.toList)<=21*xs.length
 | [],_=>by simp[DD]
 | x::r,h=>by
  have ih:=aEs r λy hy=>h y (aM _ hy);have hx:=aUX x (h x (aR ..));have e:(dA x).data.toList.length=(dA x).size:=rfl;unfold DD at ih ⊢;simp at ih ⊢;omega
def aN3(xs:Γ Int)(hx:∀x∈xs,aX .i64 x)(hl:xs.length<=64):ZC (xs.map dA) (aA #[44]):=by
 refine⟨by grind,?_⟩;rw[mY];cases xs with
 | nil=>simp[uC]
 | cons x r =>
  have h:=aEs (x::r) hx;rw[dY]at h ⊢;rw[Lib.join_length];simp at *;have h':DD (((λx:Δ=>x.data.toList) ∘ dA) x::F9 ((λx:Δ=>x.data.toList) ∘ dA) r)<=21*(r.length+1):=h
  lia
def aUY(x0:Γ Int)(hx:∀x∈x0,aX .i64 x):aUV (x0.length+1+1) x0 [⟨.str,hJ x0⟩]:=by
 rw[aUV];unfold hJ;by_cases h1:x0.length>64
 ·rw[π (by simp;omega),π h1]
 ·rw[ν (by simp;omega),ν h1];by_cases h2:wH x0=true
  ·rw[π h2,π h2]
  ·rw[ν h2,ν h2];by_cases h0:x0.length=0
   ·rw[π (by simp[h0]),π h0]
   ·rw[ν (by simp only[beq_iff_eq];omega),ν h0];have hm:x0.length<=maxLen:=by unfold maxLen;omega
    have key:=ax (b:=[]) x0 0 (λ(h:Γ Δ) b=>h++[dA b]) (λh=>[(⟨.str,rA h (aA #[44])⟩:aS)]) (λi h=>h.length<=i/\h=(x0.take i).map dA) (λn i h ds=>Mx n i h x0 ds) (by simp) (λn h hb=>?_) (λn i h hi hl=>⟨⟨aI2 hl.1,?_⟩,λds hr=>?_⟩)
    ·rw[MR]at key;simpa using key
    ·show Mx (n+1) x0.length h x0 _;rw[Mx,ν (by simp)];refine⟨?_,rfl⟩;rw[hb.2,nG];exact aN3 x0 hx (by omega)
    ·rw[hl.2,iC,zM x0 i 0 hi];simp
    ·obtain⟨hl,_⟩:=hl;rw[Mx,π (by simp;omega)];simp only[aK];exact⟨by omega,by omega,B9 _,by omega,iJ hm hi,hr⟩
def xk:KK:=mL aUU (DO ph) nP (hJ,()) (λ⟨x0,_⟩ h hwf K q =>
 (aUW _ K q _).1 (aUY x0 hwf.1.2))
def aUZ:gC:=D0 pi [.v (.str)] [.sl Za,.bool] [co,aEq,xk]
mutual
def aVa:Nat->Δ->Γ aS->Prop
 | 0,_,_=>False
 | n+1,x0,ds=>if aB x0==aB (aA #[45])then ds=[aI (.sl Za) [],aI .bool true] else xi x0 (aA #[44])/\JS n 0 ([]) x0 ds
def JS:Nat->Int->Γ Int->Δ->Γ aS->Prop
 | 0,_,_,_,_=>False
 | n+1,v14,h0,x0,ds=>if decide (v14<(↑(aF (aW x0 (aA #[44]))):Int))then 0<=v14/\v14<(↑(aF (aW x0 (aA #[44]))):Int)/\aKb (aD (aW x0 (aA #[44])) (aE v14) aC)/\(aF h0+1)*8<=140737488355328/\aX .i64 (v14+1)/\JS n (v14+1) (h0++[gG (aD (aW x0 (aA #[44])) (aE v14) aC)]) x0 ds else if !aB (hJ h0)==aB x0 then ds=[aI (.sl Za) [],aI .bool false] else ds=[aI (.sl Za) h0,aI .bool true]
end
def aVb(ds:Γ aS)(K:fG)(q:Nat->Value):∀n,(∀ {x0},aVa n x0 ds->St aUZ (x0,()) ds [] K q)/\(∀ {v14 h0 x0},JS n v14 h0 x0 ds->Cu aUZ 5 ([eS 0 x0,eW 4 0,eW 12 1,eI 13 (↑(aF (aW x0 (aA #[44]))):Int),eI 14 v14],[cL (.int .i64) h0,cL .str (aW x0 (aA #[44]))]) ds [] K q):=nI ⟨aH,aH⟩ λn ⟨i,i5⟩=>⟨bD cM<|aL<|Dr [(4,.int .i64)] i5,
  bD (cP<|aL<|aL<|aL<|Dr [(4,.int .i64)] i5)<|bH<|bD cM cM⟩
def pV(x0:Δ):Γ Δ:=aW x0 (aA #[44])
def kP(x0:Δ):Γ Int:=(pV x0).map gG
def EH(x0:Δ):Option (Γ Int):=if x0=aA #[45] then some [] else if hJ (kP x0)=x0 then some (kP x0)else none
def fK(x0:Δ):Γ Int:=(EH x0).getD []
def o4(x0:Δ):Bool:=(EH x0).isSome
def ik(x0:Δ):Prop:=x0.size<=1048576
def bDs(x0:Δ)(hp:ik x0):(pV x0).length<=1048577:=by
 have hl:=yV (aA #[44]) (aU 1) 0 (gX x0 (aA #[44])) x0 rfl;have hc:=A8 (aA #[44]) (aU 1) x0.size x0 (aU _);have hp:x0.size<=1048576:=hp;have:(pV x0).length=gX x0 (aA #[44])+1:=hl
 lia
def bDt(x0:Δ)(hp:ik x0):∀w∈pV x0,w.size<=1048576:=λw hw=>by
 have hp:x0.size<=1048576:=hp;have:=sX (aA #[44]) 0 _ _ w hw
 lia
def aVc(x0:Δ)(hp:ik x0):∃n,aVa n x0 [⟨.sl Za,fK x0⟩,⟨.bool,o4 x0⟩]:=by
 have ew:aW x0 (aA #[44])=pV x0:=rfl;have hp':x0.size<=1048576:=hp;have hl:=bDs x0 hp;have hz:=bDt x0 hp;refine⟨((pV x0).length+1)+1,?_⟩;rw[aVa];unfold fK o4 EH;by_cases h0:x0=aA #[45]
 ·rw[π ((bC _ _).2 h0),π h0]<;>rfl
 ·rw[ν (λh=>h0 ((bC _ _).1 h)),ν h0];refine⟨⟨by omega,aU 1⟩,?_⟩;have hm:(pV x0).length<=maxLen:=by unfold maxLen;omega
  have key:=ax (b:=[]) (pV x0) aC (λ(h:Γ Int) b=>h++[gG b]) (λh=>if hJ h=x0 then [(⟨.sl Za,h⟩:aS),⟨.bool,true⟩] else [⟨.sl Za,[]⟩,⟨.bool,false⟩]) (λi h=>h.length<=i) (λn i h ds=>JS n i h x0 ds) (by simp) (λn h hb=>?_) (λn i h hi hl=>⟨aI2 hl,λds hr=>?_⟩)
  ·rw[MR]at key;have e:[]++(pV x0).map gG=kP x0:=by simp[kP]
   simp only[e]at key;by_cases ht:hJ (kP x0)=x0
   ·rw[π ht]at key ⊢;exact key
   ·rw[ν ht]at key ⊢;exact key
  ·show JS (n+1) (pV x0).length h x0 _;rw[JS,ew,ν (by simp)];by_cases ht:hJ h=x0
   ·rw[ν (by rw[(bC _ _).2 ht];simp),π ht]
   ·rw[π (by rw[eZ,bV];exact λhh=>ht ((bC _ _).1 hh)),ν ht]
  ·show JS (n+1) (i:Int) h x0 ds;rw[JS,ew,π (by simp only[ε];omega)];simp only[aK];have hw:=hz _ (cF (pV x0) i aC hi);exact⟨by omega,by omega,(show ((pV x0).getD i aC).size<=281474976710656 from by omega),by omega,iJ hm hi,hr⟩
def aKc:KK:=mL aUZ (DO pi) ik (fK,o4,()) (λ⟨x0,_⟩ h hwf K q=>by
 obtain⟨n,hn⟩:=aVc x0 h;exact(aVb _ K q n).1 hn)
def aKd(x0:b6):Prop:=if !tI x0 then True else Mu x0.1/\aG (o3 x0.1)+1<=9223372036854775807/\aG (o3 x0.1++aA #[32])+aG (hJ [x0.2.1,x0.2.2.1])<=9223372036854775807/\True
def EI(x0:b6):Δ:=if !tI x0 then aA #[] else o3 x0.1++aA #[32]++hJ [x0.2.1,x0.2.2.1]
def bDu:KK:=mB Tryz.func322 [.v cZ] [.str] [aJu,aEp,xk] aKd (EI,()) λ_=>bH<|lT pr<|aL<|aL<|bH<|aL pr
def xl(x0:Δ)(x1:Int):Prop:=((ik x0)/\True)
def cT(x0:Δ)(x1:Int):Γ Int:=fK x0
def kN(x0:Δ)(x1:Int):Bool:=(↑(aF (fK x0)):Int)==x1
def xm:KK:=mB Tryz.func320 [.v (.str),.v (.int .i64)] [.sl Za,.bool] [aKc] xl (cT,kN,()) λ_=>aL pr
def xn(x0:Δ):Prop:=((aGq x0 (aA #[32]))/\((aGt (iV x0 (aA #[32])))/\((xl (eD x0 (aA #[32])) 2)/\(if(!u2 (iV x0 (aA #[32])))=true then True else(if(!kN (eD x0 (aA #[32])) 2)=true then True else((0<(↑(aF (cT (eD x0 (aA #[32])) 2)):Int))/\((1<(↑(aF (cT (eD x0 (aA #[32])) 2)):Int))/\((aKd (rY (iV x0 (aA #[32])),aD (cT (eD x0 (aA #[32])) 2) 0 0,aD (cT (eD x0 (aA #[32])) 2) 1 0,()))/\True))))))))
def rB(x0:Δ):b6:=if !u2 (iV x0 (aA #[32]))then(0,0,0,())else if !kN (eD x0 (aA #[32])) 2 then(0,0,0,())else if !aB (EI (rY (iV x0 (aA #[32])),aD (cT (eD x0 (aA #[32])) 2) 0 0,aD (cT (eD x0 (aA #[32])) 2) 1 0,()))==aB x0 then(0,0,0,())else(rY (iV x0 (aA #[32])),aD (cT (eD x0 (aA #[32])) 2) 0 0,aD (cT (eD x0 (aA #[32])) 2) 1 0,())
def C6(x0:Δ):Bool:=if !u2 (iV x0 (aA #[32]))then false else if !kN (eD x0 (aA #[32])) 2 then false else if !aB (EI (rY (iV x0 (aA #[32])),aD (cT (eD x0 (aA #[32])) 2) 0 0,aD (cT (eD x0 (aA #[32])) 2) 1 0,()))==aB x0 then false else true
def bDv:KK:=mB Tryz.func214 [.v (.str)] [.cons Za Ti,.bool] [aEi,bDo,xm,bDu] xn (rB,C6,()) λ_=>aL<|aL<|aL<|dL (jM pr)<|dL pr<|pq 0<|aL<|pq 1<|aL<|aL<|vY pr pr
def il(x0:Int)(x1:Int):Prop:=if x1==2 then aX .i64 (bY x0 4)/\if bY x0 4==0 then True else aX .i64 (x1-1)/\0<=x1-1/\x1-1<12/\True else aX .i64 (x1-1)/\0<=x1-1/\x1-1<12/\True
def mQ(x0:Int)(x1:Int):Int:=if x1==2 then(if bY x0 4==0 then 29 else aD [31,28,31,30,31,30,31,31,30,31,30,31] (aE (x1-1)) 0)else aD [31,28,31,30,31,30,31,31,30,31,30,31] (aE (x1-1)) 0
def aQW:KK:=mB Tryz.func453 [.v (.int .i64),.v (.int .i64)] [.int .i64] [] il (mQ,()) λ_=>lT (pw 4<|aL<|lT pr<|aL<|cP pr)<|dK<|aL<|cP pr
def aN4:gC:=D0 pj [.v (.int .i64),.v (.int .i64),.v (.int .i64)] [.int .i64,.bool] [lO,aQW]
mutual
def aGz:Nat->Int->Int->Int->Γ aS->Prop
 | 0,_,_,_,_=>False
 | n+1,x0,x1,x2,ds=>if !cG x0 2000 2099 then ds=[aI (.int .i64) 0,aI .bool false] else if !cG x1 1 12 then ds=[aI (.int .i64) 0,aI .bool false] else il x0 x1/\if !cG x2 1 (mQ x0 x1)then ds=[aI (.int .i64) 0,aI .bool false] else aX .i64 (x2-1)/\My n (x2-1) 2000 x0 x1 ds
def My:Nat->Int->Int->Int->Int->Γ aS->Prop
 | 0,_,_,_,_,_=>False
 | n+1,v8,v9,x0,x1,ds=>if decide (v9<x0)then aX .i64 (v8+365)/\aX .i64 (bY v9 4)/\if bY v9 4==0 then aX .i64 (v8+365+1)/\aX .i64 (v9+1)/\My n (v8+365+1) (v9+1) x0 x1 ds else aX .i64 (v9+1)/\My n (v8+365) (v9+1) x0 x1 ds else Kr n v8 1 x0 x1 ds
def Kr:Nat->Int->Int->Int->Int->Γ aS->Prop
 | 0,_,_,_,_,_=>False
 | n+1,v8,v10,x0,x1,ds=>if decide (v10<x1)then il x0 v10/\aX .i64 (v8+mQ x0 v10)/\aX .i64 (v10+1)/\Kr n (v8+mQ x0 v10) (v10+1) x0 x1 ds else ds=[aI (.int .i64) v8,aI .bool true]
end
def aVd(ds:Γ aS)(K:fG)(q:Nat->Value):∀n,(∀ {x0 x1 x2},aGz n x0 x1 x2 ds->St aN4 (x0,x1,x2,()) ds [] K q)/\(∀ {v8 v9 x0 x1},My n v8 v9 x0 x1 ds->Cu aN4 5 ([eI 0 x0,eI 1 x1,eI 8 v8,eI 9 v9],[]) ds [] K q)/\(∀ {v8 v10 x0 x1},Kr n v8 v10 x0 x1 ds->Cu aN4 11 ([eI 0 x0,eI 1 x1,eI 8 v8,eI 10 v10],[]) ds [] K q):=nI ⟨aH,aH,aH⟩ λn ⟨i,i5,i11⟩=>⟨bH<|bD (jM<|jM cM)<|bH<|bD (jM cM)<|aL<|bH<|bD cM<|aL<|bX i5,
  bD (aL<|pw 4<|aL<|bD (aL<|aL<|bX i5)<|aL<|bX i5)<|bX i11,
  bD (aL<|aL<|aL<|bX i11) cM⟩
def C7(y:Int):Nat->Int
 | 0=>0
 | k+1=>C7 y k+mQ y ((k:Int)+1)
def FM:Nat->Int
 | 0=>0
 | k+1=>FM k+365+(if(bY (2000+(k:Int)) 4==0)=true then 1 else 0)
def cp(x0 x1 x2:Int):Bool:=cG x0 2000 2099&&(cG x1 1 12&&cG x2 1 (mQ x0 x1))
def Mz(x0 x1 x2:Int):Int:=if cp x0 x1 x2 then x2-1+FM (x0-2000).toNat+C7 x0 (x1-1).toNat else 0
def JT(x0 x1 x2:Int):Bool:=cp x0 x1 x2
theorem Wd{x a b:Int}:cG x a b=true↔a<=x/\x<=b:=by
 simp[cG]
def aCb{y m:Int}(hy:2000<=y/\y<=2099)(h:1<=m/\m<=12):il y m/\28<=mQ y m/\mQ y m<=31:=by
 have e:bY y 4=y%4:=gN (by lia);have hm:m=1\/m=2\/m=3\/m=4\/m=5\/m=6\/m=7\/m=8\/m=9\/m=10\/m=11\/m=12:=by lia
 unfold il mQ;rw[e];have hi:aX .i64 (y%4):=by grind [aJ]
 by_cases hz:(y%4==0)=true
 ·rcases hm with rfl | rfl | rfl | rfl | rfl | rfl | rfl | rfl | rfl | rfl | rfl | rfl <;> simp[hz,hi] <;> decide
 ·rcases hm with rfl | rfl | rfl | rfl | rfl | rfl | rfl | rfl | rfl | rfl | rfl | rfl <;> simp[hz,hi] <;> decide
theorem aKe{y:Int}(hy:2000<=y/\y<=2099):∀k,k<=12->0<=C7 y k/\C7 y k<=31*k
 | 0,_=>by simp[C7]
 | k+1,h=>by
  have:=aKe hy k (by lia);have:=aCb hy (m:=(k:Int)+1) (by lia)
  grind [C7]
theorem aCc:∀k,0<=FM k/\FM k<=366*k
 | 0=>by simp[FM]
 | k+1=>by
  have:=aCc k
  grind [FM]
def aN5{y m:Int}(hy:2000<=y/\y<=2099)(hm:1<=m/\m<=12)(v:Int)(hv:0<=v/\v<=1000000):∀(k i:Nat),(i:Int)+k=m-1 ->
  Kr (k+1) (v+C7 y i) ((i:Int)+1) y m [⟨.int .i64,v+C7 y (m-1).toNat⟩,⟨.bool,true⟩]:=by
 intro k
 induction k with
 | zero =>
  intro i hi;rw[Kr,ν (by lia),show (m-1).toNat=i by lia]
 | succ k ih =>
  intro i hi;obtain⟨p,l1,l2⟩:=aCb hy (m:=(i:Int)+1) (by lia);obtain⟨b1,b2⟩:=aKe hy i (by lia);rw[Kr,π (by lia)];have e1:v+C7 y i+mQ y ((i:Int)+1)=v+C7 y (i+1):=by grind [C7]
  refine⟨p,by grind [aJ],by grind [aJ],?_⟩
  grind
def aN6{y m:Int}(hy:2000<=y/\y<=2099)(hm:1<=m/\m<=12)(v:Int)(hv:0<=v/\v<=30):∀(k i:Nat),(i:Int)+k=y-2000 ->
  My (k+1+((m-1).toNat+1)) (v+FM i) (2000+(i:Int)) y m [⟨.int .i64,v+FM (y-2000).toNat+C7 y (m-1).toNat⟩,⟨.bool,true⟩]:=by
 intro k
 induction k with
 | zero =>
  intro i hi;obtain⟨b1,b2⟩:=aCc i;rw[show 0+1+((m-1).toNat+1)=((m-1).toNat+1)+1 by lia,My];have:=aN5 hy hm (v+FM i) (by lia) (m-1).toNat 0 (by lia)
  grind [C7]
 | succ k ih =>
  intro i hi;obtain⟨b1,b2⟩:=aCc i;have hin:=ih (i+1) (by lia);have e2:2000+(i:Int)+1=2000+((i+1:Nat):Int):=by lia
  simp only[FM]at hin;rw[show k+1+1+((m-1).toNat+1)=(k+1+((m-1).toNat+1))+1 by lia,My,π (by lia)];refine⟨by grind [aJ],by grind [aJ],?_⟩;by_cases hz:(bY (2000+(i:Int)) 4==0)=true
  ·grind [aJ]
  ·grind [aJ]
def aVe(x0 x1 x2:Int)(hx:aX .i64 x2):∃n,aGz n x0 x1 x2 [⟨.int .i64,Mz x0 x1 x2⟩,⟨.bool,JT x0 x1 x2⟩]:=by
 unfold Mz JT cp;cases h0:cG x0 2000 2099 with
 | false=>exact⟨1,by rw[aGz,π (by rw[h0];rfl)];simp⟩
 | true =>
  have h0':=Wd.1 h0;cases h1:cG x1 1 12 with
  | false=>exact⟨1,by rw[aGz,ν (by rw[h0];decide),π (by rw[h1];rfl)];simp⟩
  | true =>
   have h1':=Wd.1 h1;obtain⟨p,l1,l2⟩:=aCb h0' h1';cases h2:cG x2 1 (mQ x0 x1)with
   | false=>exact⟨1,by rw[aGz,ν (by rw[h0];decide),ν (by rw[h1];decide)];exact⟨p,by rw[π (by rw[h2];rfl)];simp⟩⟩
   | true =>
    have h2':=Wd.1 h2;refine⟨((x0-2000).toNat+1+((x1-1).toNat+1))+1,?_⟩;rw[aGz,ν (by rw[h0];decide),ν (by rw[h1];decide)];refine⟨p,?_⟩;rw[ν (by rw[h2];decide)];refine⟨by rw[aJ];omega,?_⟩;have:=aN6 h0' h1' (x2-1) (by omega) (x0-2000).toNat 0 (by omega);simpa [FM] using this
def bDw:KK:=mL aN4 (DO pj) nP (Mz,JT,()) (λ⟨x0,x1,x2,_⟩ h hwf K q =>
 let ⟨n,hn⟩:=aVe x0 x1 x2 hwf.2.2.1
 (aVd _ K q n).1 hn)
end
theorem im{y m:Int}(hm:1<=m/\m<=12):mQ y m=mP y m:=by
 have hm:m=1\/m=2\/m=3\/m=4\/m=5\/m=6\/m=7\/m=8\/m=9\/m=10\/m=11\/m=12:=by lia
 rcases hm with rfl | rfl | rfl | rfl | rfl | rfl | rfl | rfl | rfl | rfl | rfl | rfl <;> rfl
theorem aQX(y:Int):∀k,k<=12->C7 y k=lI y k
 | 0,_=>rfl
 | k+1,h=>by
  simp[C7,lI];rw[aQX y k (by omega),im (m:=(k:Int)+1) (by omega)]
theorem aQY:∀k:Nat,FM k=365*(k:Int)+((k:Int)+3)/4
 | 0=>rfl
 | k+1=>by
  simp[FM];rw[aQY k]
  lia
def Yl(y m d:Int):Prop:=(2000<=y/\y<=2099)/\(1<=m/\m<=12)/\(1<=d/\d<=mP y m)
def OT(y:Int):Int:=(y-2000)*365+(y-1997)/4
theorem NA{y m d:Int}(hy:2000<=y):fH y m d=OT y+lI y (m-1).toNat+d-1:=by
 grind [fH,cn,OT]
def aVf{y m d:Int}(h:Yl y m d):Mz y m d=fH y m d/\JT y m d=true:=by
 obtain⟨h0,h1,h2⟩:=h;have ok:cp y m d=true:=by
  grind [cp,Wd,im]
 refine⟨?_,ok⟩;unfold Mz;rw[NA h0.1,aQY,aQX y _ (by lia)]
 grind [OT]
def aVg{y m d:Int}(h:JT y m d=true):Yl y m d:=by
 unfold JT cp at h;simp at h;have h1:=Wd.1 h.2.1;refine⟨Wd.1 h.1,h1,?_⟩
 grind [Wd,im]
theorem win{x a b:Int}:bE x a b=true↔a<=x/\x<=b:=by
 simp[bE]
theorem aN7{y m d:Int}(h:Yl y m d):Mv y m d=fH y m d/\JQ y m d=0:=by
 obtain⟨h0,h1,h2⟩:=h;unfold Mv JQ;rw[win.2 h0,win.2 h1,win.2 h2]
 lia
def aVh{y m d:Int}(h:JQ y m d=0):Yl y m d:=by
 unfold JQ at h;cases h0:bE y 2000 2099 with
 | false=>lia
 | true =>
  cases h1:bE m 1 12 with
  | false=>lia
  | true =>
   cases h2:bE d 1 (mP y m)with
   | false=>lia
   | true=>exact⟨win.1 h0,win.1 h1,win.1 h2⟩
theorem io{y:Int}(hy:2000<=y/\y<=2099)(i:Nat):∀j,lI y i<=lI y (i+j)
 | 0=>dX _
 | j+1=>by
  have:=io hy i j;have:=(Mq hy (m:=((i+j:Nat):Int)+1)).2.1
  grind [lI]
theorem iq{y:Int}(hy:2000<=y/\y<=2099):OT y+lI y 12=OT (y+1):=by
 have et:bY y 4=y%4:=gN (by lia);have e:lI y 12=if y%4=0 then 366 else 365:=by
  by_cases hz:y%4=0 <;> simp[lI,mP,et,hz]
 grind [OT]
def aG1{y day:Int}(hy:2000<=y/\y<=2099)(h1:OT y<=day)(h2:day<OT (y+1)):∀(k:Nat) (z:Int),z+k=2099->2000<=z->z<=y->PG day k z=y:=by
 have e1:∀z:Int,2000<=z->fH z 1 1=OT z:=λz hz=>by
  rw[NA hz];show OT z+0+1-1=OT z
  lia
 intro k
 induction k with
 | zero=>intro z hz _ hle;show z=y;lia
 | succ k ih =>
  intro z hz h0 hle;unfold PG;by_cases hlt:z<y
  ·rw[π (by grind [OT])]
   grind
  grind
theorem aCd{y m day:Int}(hy:2000<=y/\y<=2099)(hm:1<=m/\m<=12)(h1:OT y+lI y (m-1).toNat<=day)(h2:day<OT y+lI y m.toNat):∀(k:Nat) (z:Int),z+k=12->1<=z->z<=m->PI day y k z=m:=by
 intro k
 induction k with
 | zero=>intro z hz _ hle;show z=m;lia
 | succ k ih =>
  intro z hz h0 hle;unfold PI;rw[NA hy.1];by_cases hlt:z<m
  ·rw[π (by
    have:=io hy z.toNat ((m-1).toNat-z.toNat)
    grind)]
   grind
  grind
def Rd{y m d:Int}(h:Yl y m d):(0<=fH y m d/\fH y m d<=36524)/\BJ (fH y m d)=y/\C5 (fH y m d)=m/\Ms (fH y m d)=d:=by
 obtain⟨h0,h1,h2⟩:=h;have ed:=NA (m:=m) (d:=d) h0.1;have hb:=ie h0 (m-1).toNat;have hms:lI y m.toNat=lI y (m-1).toNat+mP y m:=by
  obtain⟨k,hk⟩:∃k:Nat,m=(k:Int)+1:=⟨(m-1).toNat,by lia⟩;subst hk;rw[show ((k:Int)+1-1).toNat=k by lia];rfl
 have hy12:=iq h0;have hmono:=io h0 m.toNat (12-m.toNat);rw[show m.toNat+(12-m.toNat)=12 by lia]at hmono;have hbas:0<=OT y/\OT (y+1)<=36525:=by grind [OT]
 have a0:BJ (fH y m d)=y:=aG1 h0 (by lia) (by lia) 99 2000 (by lia) (by lia) (by lia);have a1:C5 (fH y m d)=m:=by
  grind [C5,aCd]
 unfold Ms;rw[a0,a1,NA (m:=m) (d:=1) h0.1]
 lia
def C8(b:UInt8):Prop:=48<=b.toNat/\b.toNat<=57
def yA:Γ UInt8->Nat->Nat
 | [],n=>n
 | b::r,n=>yA r (10*n+(b.toNat-48))
theorem JU:∀(l:Γ UInt8) (b:UInt8) (n:Nat),yA (l++[b]) n=10*yA l n+(b.toNat-48)
 | [],_,_=>rfl
 | c::r,b,n=>JU r b _
theorem We:∀(l:Γ UInt8) (n:Nat),1<=n->1<=yA l n
 | [],_,h=>h
 | b::r,n,h=>We r _ (by lia)
def cq{a:Nat}(h:a<10):(kJ (48+a)).toNat=48+a:=by grind [rF]
theorem oC(n:Nat):(∀b∈bJ n,C8 b)/\yA (bJ n) 0=n/\0<(bJ n).length/\(1<=n->((bJ n).getD 0 0).toNat≠48):=by
 induction n using Hr with
 | _ n ih =>
  by_cases h:n<10
  ·rw[bJ,dif_pos h];have e:=cq h;refine⟨λb hb=>?_,?_,by simp,λh1=>?_⟩
   ·grind [C8]
   ·show 10*0+((kJ (48+n)).toNat-48)=n;lia
   grind
  ·rw[bJ,dif_neg h];obtain⟨i1,i2,i3,i4⟩:=ih (n/10) (by omega);have e:=cq (a:=n%10) (by omega);refine⟨λb hb=>?_,?_,by simp,λh1=>?_⟩
   ·rcases dC.1 hb with hb | hb
    ·exact i1 b hb
    ·rw[dG.1 hb];unfold C8;omega
   ·rw[JU];omega
   ·have i4:=i4 (by omega);cases hd:bJ (n/10)with
    | nil=>rw[hd]at i3;simp at i3
    | cons c r=>rw[hd]at i4;exact i4
def Re(n:Nat):∀l:Γ UInt8,l.length=n->(∀b∈l,C8 b)->0<l.length->((l.getD 0 0).toNat≠48\/l.length=1)->bJ (yA l 0)=l:=by
 induction n with
 | zero=>lia
 | succ n ih =>
  intro l hl hd h0 hc;rcases IA l with rfl | ⟨l',b,rfl⟩
  ·grind
  ·rw[IB]at *;have hb:C8 b:=hd b (by simp);unfold C8 at hb;rw[JU];cases l' with
   | nil =>
    rw[bJ,dif_pos (by show 10*0+(b.toNat-48)<10;lia)];show [kJ (48+(10*0+(b.toNat-48)))]=[b];simp_all
   | cons c r =>
    have hc':c.toNat≠48:=by
     grind
    have hcd:C8 c:=hd c (by simp);unfold C8 at hcd;have hp:1<=yA (c::r) 0:=We r _ (by lia);have hi:=ih (c::r) (by grind) (λx hx=>hd x (List.mem_append_left _ hx)) (by simp) (.inl hc');rw[bJ,dif_neg (by lia),show (10*yA (c::r) 0+(b.toNat-48))/10=yA (c::r) 0 by lia,show (10*yA (c::r) 0+(b.toNat-48))%10=b.toNat-48 by lia];simp_all
theorem ir:∀(k n:Nat),n<10^(k+1)->(bJ n).length<=k+1
 | 0,n,h=>by rw[bJ,dif_pos (by lia)];simp
 | k+1,n,h=>by
  rw[bJ];split
  ·simp
  ·have:=ir k (n/10) (by lia)
   grind
theorem aCe{n:Nat}(h:n<1000000000000):eJ ⟨⟨bJ n⟩⟩=(n:Int):=by
 have key:∀(l:Γ UInt8) (m:Nat),(∀b∈l,C8 b)->C0 l (m:Int)=(yA l m:Nat):=by
  intro l
  induction l with
  | nil=>intro m _;rfl
  | cons b r ih =>
   intro m hd;have hb:C8 b:=hd b (aR ..);unfold C8 at hb;unfold C0;rw[π (by lia)];have e1:10*(m:Int)+((b.toNat:Int)-48)=((10*m+(b.toNat-48):Nat):Int):=by lia
   rw[e1];exact ih _ (λc hc=>hd c (aM _ hc))
 obtain⟨d1,d2,d3,_⟩:=oC n;have hl:=ir 11 n (by lia);have hs:(aA ⟨bJ n⟩).size=(bJ n).length:=rfl;unfold eJ
 grind
def y4(y:Nat):Γ UInt8:=[50,48,mJ (y%100/10),mJ (y%10)]
def dT(y m d:Nat):Δ:=⟨⟨y4 y++45::([mJ (m/10),mJ (m%10)]++45 :: [mJ (d/10),mJ (d%10)])⟩⟩
theorem it{y:Nat}(h:2000<=y/\y<=2099):bJ y=y4 y:=by
 have e1:y/10/10=20:=by lia
 have e2:y/10%10=y%100/10:=by lia
 rw[bJ,bJ,dif_neg (by lia),e1,e2,bJ,dif_neg (by lia),bJ];rfl
theorem UL{y:Nat}(h:2000<=y/\y<=2099):dA (y:Int)=⟨⟨y4 y⟩⟩:=by
 rw[<- it h];rfl
theorem aKf{a:Nat}(h:a<10):mJ a≠45:=λe=>by
 have:=congrArg cN e
 grind [pH]
theorem xo{a b:Nat}(ha:a<10)(hb:b<10):(45:UInt8) ∉ [mJ a,mJ b]:=λhm=>by
 grind [aKf]
theorem aN8(y:Nat):(45:UInt8) ∉ y4 y:=λhm=>by
 unfold y4 at hm
 grind [aKf]
theorem aKg{y m d:Nat}(hm:m<100)(hd:d<100):aW (dT y m d) (aA #[45])=[⟨⟨y4 y⟩⟩,⟨⟨[mJ (m/10),mJ (m%10)]⟩⟩,⟨⟨[mJ (d/10),mJ (d%10)]⟩⟩]:=by
 have e:aW (dT y m d) (aA #[45])=bss (dB 45 (dT y m d).data.toList):=zW 45 (dT y m d);rw[e];show bss (dB 45 (y4 y++45::([mJ (m/10),mJ (m%10)]++45 :: [mJ (d/10),mJ (d%10)])))=_;rw[nJ 45 _ (aN8 y),nJ 45 _ (xo (by lia) (by lia)),lE 45 (xo (by lia) (by lia))];rfl
def JV{y m d:Int}(h:Yl y m d):∃a b c:Nat,y=(a:Int)/\m=(b:Int)/\d=(c:Int)/\(2000<=a/\a<=2099)/\(1<=b/\b<=12)/\(1<=c/\c<=31):=by
 obtain⟨h0,h1,h2⟩:=h;have:=(Mq h0 (m:=m)).2.2;exact⟨y.toNat,m.toNat,d.toNat,by lia,by lia,by lia,by lia,by lia,by lia⟩
theorem FN{a b c:Nat}(h:Yl (a:Int) (b:Int) (c:Int))(ha:2000<=a/\a<=2099)(hb:b<=12)(hc:c<=31):o3 (fH (a:Int) (b:Int) (c:Int))=dT a b c:=by
 obtain⟨hd,e0,e1,e2⟩:=Rd h;have hi:pU (fH (a:Int) (b:Int) (c:Int))=true:=win.2 hd;unfold o3;rw[hi,e0,e1,e2,UL ha,(D4 (n:=b) (by lia)).2,(D4 (n:=c) (by lia)).2]<;>rfl
theorem JW{y m d:Int}(h:Yl y m d):Mu (fH y m d):=by
 obtain⟨a,b,c,rfl,rfl,rfl,ha,hb,hc⟩:=JV h;obtain⟨hd,e0,e1,e2⟩:=Rd h;unfold Mu;rw[e0,e1,e2,UL ha];obtain⟨p1,q1⟩:=D4 (n:=b) (by lia);obtain⟨p2,q2⟩:=D4 (n:=c) (by lia);rw[q1,q2];have s4:(aA ⟨y4 a⟩).size=4:=rfl;have s1:(aA #[45]).size=1:=rfl;have s2:∀u v:UInt8,(aA ⟨[u,v]⟩).size=2:=λ_ _=>rfl;by_cases hc:(!pU (fH (a:Int) (b:Int) (c:Int)))=true
 ·lia
 ·rw[ν hc];simp only[dH,s2];exact⟨⟨by lia,by lia⟩,⟨rfl,trivial⟩,by lia,p1,by lia,by lia,p2,by lia,trivial⟩
def aG2{y:Nat}(h:2000<=y/\y<=2099):eJ ⟨⟨y4 y⟩⟩=(y:Int):=by
 rw[<- it h]
 grind [aCe]
theorem UM{a b c:Nat}(h:Yl (a:Int) (b:Int) (c:Int))(ha:2000<=a/\a<=2099)(hb:b<=12)(hc:c<=31):rY (dT a b c)=fH (a:Int) (b:Int) (c:Int)/\u2 (dT a b c)=true:=by
 have n1:=aG2 ha;have n2:eJ ⟨⟨[mJ (b/10),mJ (b%10)]⟩⟩=(b:Int):=by grind [GV]
 have n3:eJ ⟨⟨[mJ (c/10),mJ (c%10)]⟩⟩=(c:Int):=by grind [GV]
 obtain⟨i0,i1⟩:=aN7 h;unfold rY u2;rw[aKg (by lia) (by lia)];simp[n1,n2,n3,i0,i1,FN h ha hb hc,bne_self_eq_false,beq_self_eq_true,vJ,gE,if_false,and_self]
def aEt{x:Δ}(hx:u2 x=true):∃a b c:Nat,Yl (a:Int) (b:Int) (c:Int)/\(2000<=a/\a<=2099)/\(1<=b/\b<=12)/\(1<=c/\c<=31)/\x=dT a b c:=by
 unfold u2 at hx;generalize eJ (aD (aW x (aA #[45])) 0 aC)=y at hx;generalize eJ (aD (aW x (aA #[45])) 1 aC)=m at hx;generalize eJ (aD (aW x (aA #[45])) 2 aC)=d at hx;split at hx
 ·lia
 ·split at hx
  ·lia
  ·split at hx
   ·lia
   ·have h:Yl y m d:=aVh (by lia);obtain⟨a,b,c,rfl,rfl,rfl,ha,hb,hc⟩:=JV h
    grind [bC,aN7,FN]
def chI{c:Prop}[Decidable c]{B:Bool}{A:Int}(h:B=false->A=0)(hx:(if c then false else B)=false):(if c then 0 else A)=0:=by
 lia
theorem aEu{x:Δ}(hx:u2 x=false):rY x=0 :=
 (chI (chI (chI (λh=>by lia)))) hx
theorem Wg:∀(l:Γ UInt8) (m:Nat),(∀b∈l,C8 b)->wG l (m:Int)=(((yA l m:Nat):Int),true)
 | [],_,_=>rfl
 | b::r,m,hd=>by
  have hb:C8 b:=hd b (aR ..);unfold C8 at hb;unfold wG Lc;rw[π (by lia)];have e1:10*(m:Int)+((b.toNat:Int)-48)=((10*m+(b.toNat-48):Nat):Int):=by lia
  rw[e1];exact Wg r _ (λc hc=>hd c (aM _ hc))
theorem Wh:∀(l:Γ UInt8) (n:Int),(wG l n).2=true->∀b∈l,C8 b
 | [],n,h,b,hb=>by grind
 | c::r,n,h,b,hb=>by
  unfold wG at h;split at h
  ·rename_i hd;rcases bA.1 hb with rfl | hb
   ·unfold Lc at hd;unfold C8;simpa using hd
   ·exact Wh r _ h b hb
  lia
def aEv{a b:UInt8}(h:oB ⟨⟨[a,b]⟩⟩=true):∃n:Nat,n<100/\j8 ⟨⟨[a,b]⟩⟩=(n:Int)/\[a,b]=[mJ (n/10),mJ (n%10)]:=by
 have hall:=Wh [a,b] 0 h;have ha:C8 a:=hall a (by simp);have hb:C8 b:=hall b (by simp);have hv:=Wg [a,b] 0 hall;unfold C8 at ha hb;refine⟨10*(a.toNat-48)+(b.toNat-48),by lia,?_,?_⟩
 ·have:=congrArg eE hv;refine Eq.trans this ?_;simp[yA]
 ·rw[show (10*(a.toNat-48)+(b.toNat-48))/10=a.toNat-48 by lia,show (10*(a.toNat-48)+(b.toNat-48))%10=b.toNat-48 by lia, <- R7 ha, <- R7 hb]
def aEw{n:Nat}(h:n<100):j8 ⟨⟨[mJ (n/10),mJ (n%10)]⟩⟩=(n:Int)/\oB ⟨⟨[mJ (n/10),mJ (n%10)]⟩⟩=true:=by
 have x1:=pH (a:=n/10) (by lia);have x2:=pH (a:=n%10) (by lia);have hall:∀b∈[mJ (n/10),mJ (n%10)],C8 b:=λb hb=>by
  simp at hb;unfold C8
  lia
 have hv:=Wg _ 0 hall;refine⟨?_,congrArg tZ hv⟩;have:=congrArg eE hv;refine Eq.trans this ?_
 grind [yA]
def aVi{y:Nat}(h:2000<=y/\y<=2099):j8 ⟨⟨y4 y⟩⟩=(y:Int)/\oB ⟨⟨y4 y⟩⟩=true:=by
 obtain⟨d1,d2,_,_⟩:=oC y;rw[it h]at d1 d2;have hv:=Wg (y4 y) 0 d1;rw[d2]at hv;exact⟨congrArg eE hv,congrArg tZ hv⟩
def aKh{l:Γ UInt8}(hl:l.length=4)(h:oB ⟨⟨l⟩⟩=true)(hy:2000<=j8 ⟨⟨l⟩⟩/\j8 ⟨⟨l⟩⟩<=2099):∃n:Nat,(2000<=n/\n<=2099)/\j8 ⟨⟨l⟩⟩=(n:Int)/\l=y4 n:=by
 have hall:=Wh l 0 h;have hv:=Wg l 0 hall;have e:j8 ⟨⟨l⟩⟩=((yA l 0:Nat):Int):=congrArg eE hv;refine⟨yA l 0,by lia,e,?_⟩;rw[<- it (by lia)];refine(Re l.length l rfl hall (by lia) (.inl ?_)).symm
 match l,hl with
 | [a,b,c,f],_ =>
  have hb:=hall b (by simp);have hc:=hall c (by simp);have hf:=hall f (by simp)
  grind [C8,yA]
def Ks(l:Γ UInt8)(a b:Nat):aO ⟨⟨l⟩⟩ a b=⟨⟨(l.drop a).take (b-a)⟩⟩:=p8 l a b
def bDx{b:UInt8}:(((b.toNat:Nat):Int) != 45)=true↔b≠45:=by
 rw[bne_iff_ne];constructor
 ·intro h e;simp_all
 ·intro h e;apply h;apply jJ.1
  lia
def aEx(x:Δ)(h:x.size<=1048576):aGt x:=by
 have ifT3:∀ {c:Prop} [Decidable c] {Q:Prop},(¬c->Q)->if c then True else Q:=by
  lia
 refine⟨⟨by lia,aU 1⟩,ifT3 λh0=>?_⟩;generalize eJ (aD (aW x (aA #[45])) 0 aC)=y;generalize eJ (aD (aW x (aA #[45])) 1 aC)=m;generalize eJ (aD (aW x (aA #[45])) 2 aC)=d;refine⟨by lia,by lia,by lia,?_,ifT3 λh1=>?_⟩
 ·refine ifT3 λa1=>ifT3 λa2=>?_;have a1':=win.1 (show bE y 2000 2099=true by lia);have a2':=win.1 (show bE m 1 12=true by lia);obtain⟨l0,l1,l2⟩:=Mq a1' (m:=m);refine⟨l0,ifT3 λa3=>?_⟩;have a3':=win.1 (show bE d 1 (mP y m)=true by lia);exact⟨⟨a1',a2',by lia⟩,trivial⟩
 ·have hD:Yl y m d:=aVh (by lia);rw[(aN7 hD).1];exact⟨JW hD,trivial⟩
end Go.Proofs.YtbaoaedmbhpolaaGreatDoor
set_option maxRecDepth 100000
namespace Go.Proofs.YtbaoaedmbhpolaaGreatDoor
open Go Go.Am Go.Proofs
def cr:OT 2000=0:=by rfl
def xp{day:Int}(h:0<=day /\ day<=36524) : ∃y m d:Int, Yl y m d /\ fH y m d = day:=by
  have hy : ∀k:Nat, day<OT (2000+(k:Int)) -> ∃y:Int, (2000<=y /\ y<2000+(k:Int)) /\ OT y<=day /\ day<OT (y+1):=by
    intro k
    induction k with
    | zero=>intro hk; have:OT (2000+((0:Nat):Int)) = 0:=cr; omega
    | succ k ih =>
      intro hk;by_cases hc:day<OT (2000+(k:Int))
      · obtain⟨y, h1, h2⟩:=ih hc
        exact⟨y, by omega, h2⟩
      · exact⟨2000+(k:Int), by omega, by omega, by rw[Int.add_assoc]; simpa using hk⟩
  obtain ⟨y, hy1, hy2, hy3⟩ := hy 100 (by have : OT (2000 + ((100 : Nat) : Int)) = 36525 := by decide
                                          omega)
  have hyr:2000<=y /\ y<=2099:=by omega
  have hm : ∀k:Nat, day<OT y+lI y k -> ∃j:Nat, j<k /\ OT y+lI y j<=day /\ day<OT y+lI y (j+1):=by
    intro k
    induction k with
    | zero=>intro hk; simp only[lI]at hk; omega
    | succ k ih =>
      intro hk;by_cases hc:day<OT y+lI y k
      · obtain⟨j, h1, h2⟩:=ih hc
        exact⟨j, by omega, h2⟩
      · exact⟨k, by omega, by omega, hk⟩
  obtain⟨j, hj, hj1, hj2⟩:=hm 12 (by rw[iq hyr]; exact hy3);simp only[lI]at hj2;refine⟨y, (j:Int)+1, day-(OT y+lI y j)+1, ⟨hyr, by omega, by omega, by omega⟩, ?_⟩;rw[NA hyr.1];have e:((j:Int)+1-1).toNat = j:=by omega
  rw[e]; omega
noncomputable section
def aVj:gC:=D0 pk [.v (.str)] [.int .i64,.bool] [aIS]
mutual
def aKi:Nat->Δ->Γ aS->Prop
 | 0,_,_=>False
 | n+1,x0,ds=>if decide ((↑(aG x0):Int)>0)then 0<(↑(aG x0):Int)/\if(↑(cN (aD (cC (bO x0)) 0 0)):Int)==45 then(if(↑(aG x0):Int)==1 then ds=[aI (.int .i64) 0,aI .bool false] else aX .i64 ((↑(aG x0):Int)-1)/\if decide ((↑(aG x0):Int)-1>18)then ds=[aI (.int .i64) 0,aI .bool false] else 1<(↑(aG x0):Int)/\if(↑(cN (aD (cC (bO x0)) 1 0)):Int)==48 then(if decide ((↑(aG x0):Int)>1)then ds=[aI (.int .i64) 0,aI .bool false] else C9 n 1 0 1 x0 ds)else C9 n 1 0 1 x0 ds)else if(↑(aG x0):Int)==0 then ds=[aI (.int .i64) 0,aI .bool false] else aX .i64 ((↑(aG x0):Int)-0)/\if decide ((↑(aG x0):Int)-0>18)then ds=[aI (.int .i64) 0,aI .bool false] else 0<(↑(aG x0):Int)/\if(↑(cN (aD (cC (bO x0)) 0 0)):Int)==48 then(if decide ((↑(aG x0):Int)>1)then ds=[aI (.int .i64) 0,aI .bool false] else C9 n 0 0 0 x0 ds)else C9 n 0 0 0 x0 ds else if(↑(aG x0):Int)==0 then ds=[aI (.int .i64) 0,aI .bool false] else aX .i64 ((↑(aG x0):Int)-0)/\if decide ((↑(aG x0):Int)-0>18)then ds=[aI (.int .i64) 0,aI .bool false] else 0<(↑(aG x0):Int)/\if(↑(cN (aD (cC (bO x0)) 0 0)):Int)==48 then(if decide ((↑(aG x0):Int)>1)then ds=[aI (.int .i64) 0,aI .bool false] else C9 n 0 0 0 x0 ds)else C9 n 0 0 0 x0 ds
def C9:Nat->Int->Int->Int->Δ->Γ aS->Prop
 | 0,_,_,_,_,_=>False
 | n+1,v4,v5,v6,x0,ds=>if decide (v6<(↑(aG x0):Int))then 0<=v6/\v6<(↑(aG x0):Int)/\if !uZ (↑(cN (aD (cC (bO x0)) (aE v6) 0)):Int)then ds=[aI (.int .i64) 0,aI .bool false] else aX .i64 (10*v5)/\0<=v6/\v6<(↑(aG x0):Int)/\aX .u8 ((↑(cN (aD (cC (bO x0)) (aE v6) 0)):Int)-48)/\aX .i64 ((↑(cN (aD (cC (bO x0)) (aE v6) 0)):Int)-48)/\aX .i64 (10*v5+((↑(cN (aD (cC (bO x0)) (aE v6) 0)):Int)-48))/\aX .i64 (v6+1)/\C9 n v4 (10*v5+((↑(cN (aD (cC (bO x0)) (aE v6) 0)):Int)-48)) (v6+1) x0 ds else if v4==1 then aX .i64 (0-v5)/\ds=[aI (.int .i64) (0-v5),aI .bool true] else ds=[aI (.int .i64) v5,aI .bool true]
end
def aVk(ds:Γ aS)(K:fG)(q:Nat->Value):∀n,(∀ {x0},aKi n x0 ds->St aVj (x0,()) ds [] K q)/\(∀ {v4 v5 v6 x0},C9 n v4 v5 v6 x0 ds->Cu aVj 8 ([eS 0 x0,eI 4 v4,eI 5 v5,eI 6 v6],[]) ds [] K q):=nI ⟨aH,aH⟩ λn ⟨i,i8⟩=>⟨bD (pq 0<|aL<|bD (bD (jM<|jM cM)<|aL<|bD (jM cM)<|pq 1<|aL<|bD (bD cM<|bX i8)<|dK<|bX i8)<|bD (jM<|jM cM)<|aL<|bD (jM cM)<|pq 0<|aL<|bD (bD cM<|bX i8)<|dK<|bX i8)<|dK<|bD (jM<|jM cM)<|aL<|bD (jM cM)<|pq 0<|aL<|bD (bD cM<|bX i8)<|dK<|bX i8,
  bD (cP<|bH<|bD cM<|aL<|cP<|aL<|aL<|aL<|aL<|bX i8)<|bD (aL cM) cM⟩
def BK(off:Nat)(p:Int×Bool):Int×Bool:=if off=1 then(0-p.1,p.2)else p
def Rf:Γ UInt8->Int×Bool
 | []=>(0,false)
 | b::r=>if b.toNat=45 then(if r.length=0\/18<r.length\/(r.getD 0 0).toNat=48 then(0,false)else BK 1 (wG r 0))
  else if 18<r.length+1\/(b.toNat=48/\0<r.length)then(0,false)else BK 0 (wG (b::r) 0)
def jF(x0:Δ):Int:=(Rf x0.data.toList).1
def pW(x0:Δ):Bool:=(Rf x0.data.toList).2
def aCf(x0:Δ)(off:Nat)(hs:x0.size<=off+18)(ho:off<=1):∀(k j m:Nat),off+j+k=x0.size->m<10^j ->
  C9 (k+1) (off:Int) (m:Int) ((off+j:Nat):Int) x0 [⟨.int .i64,(BK off (wG (x0.data.toList.drop (off+j)) (m:Int))).1⟩,⟨.bool,(BK off (wG (x0.data.toList.drop (off+j)) (m:Int))).2⟩]:=by
 intro k;have hll:x0.data.toList.length=x0.size:=rfl
 induction k with
 | zero =>
  intro j m hi hm;have hp:10^j<=10^18:=lM (by lia) (by lia);have hm2:m<1000000000000000000:=dZ hm hp;rw[C9,ν (by lia),gW (by lia)];unfold BK wG;by_cases h1:off=1
  ·subst h1;rw[π (by rfl)];exact⟨by grind [aJ],rfl⟩
  lia
 | succ k ih =>
  intro j m hi hm;have hlt:off+j<x0.data.toList.length:=by lia
  have hcons:x0.data.toList.drop (off+j)=x0.data.toList.getD (off+j) 0::x0.data.toList.drop (off+j+1):=dQ _ _ 0 hlt;rw[C9,π (by lia),hcons];simp only[aK];generalize x0.data.toList.getD (off+j) 0=b at *;refine⟨by lia,by lia,?_⟩;have hg:uZ (b.toNat:Int)=Lc b:=by
   unfold uZ Lc
   lia
  rw[hg];unfold wG;cases hd:Lc b with
  | false=>simp[BK]
  | true =>
   have hd':48<=b.toNat/\b.toNat<=57:=by grind [Lc]
   have hp:10^j<=10^17:=lM (by lia) (by lia);have hm2:m<100000000000000000:=dZ hm hp;simp only[vJ,gE,if_false,if_true];refine⟨by grind [aJ],by lia,by lia,?_,by grind [aJ],by grind [aJ],by grind [aJ],?_⟩
   ·grind [MQ]
   ·have e1:10*(m:Int)+((b.toNat:Int)-48)=((10*m+(b.toNat-48):Nat):Int):=by lia
    have e2:((off+j:Nat):Int)+1=((off+(j+1):Nat):Int):=by lia
    rw[e1,e2];exact ih (j+1) (10*m+(b.toNat-48)) (by lia) (by lia)
def aVl(x0:Δ)(hm:x0.size<=9223372036854775807):∃n,aKi n x0 [⟨.int .i64,jF x0⟩,⟨.bool,pW x0⟩]:=by
 obtain⟨⟨l⟩⟩:=x0;unfold jF pW;cases l with
 | nil=>exact⟨1,by
   rw[aKi,ν (by decide),π (by decide)];rfl⟩
 | cons b r =>
  have hsz:(aA ⟨b::r⟩).size=r.length+1:=rfl;rw[hsz]at hm;have g0:aD (cC (bO (aA ⟨b::r⟩))) 0 0=b:=rfl;have g1:aD (cC (bO (aA ⟨b::r⟩))) 1 0=r.getD 0 0:=rfl;by_cases hb:b.toNat=45
  ·refine⟨(r.length-0+1)+1,?_⟩;rw[aKi,hsz,g0,g1,π (by simp only[ε];omega)];refine⟨by omega,?_⟩;rw[π (by rw[hb];rfl)];show _;unfold Rf;simp only[π hb];by_cases h0:r.length=0
   ·rw[π (by rw[h0];rfl),π (.inl h0)]
   ·rw[ν (by simp;omega)];refine⟨by rw[aJ];omega,?_⟩;by_cases h18:18<r.length
    ·rw[π (by simp only[ε];omega),π (.inr (.inl h18))]
    ·rw[ν (by simp only[ε];omega)];refine⟨by omega,?_⟩;by_cases h48:(r.getD 0 0).toNat=48
     ·rw[π (by rw[h48];rfl),π (by simp only[ε];omega),π (.inr (.inr h48))]
     ·rw[ν (by rw[beq_iff_eq];omega),ν (by omega)];exact aCf ⟨⟨b::r⟩⟩ 1 (by rw[hsz];omega) (by omega) r.length 0 0 (by rw[hsz];omega) (by decide)
  ·refine⟨(r.length+1+1)+1,?_⟩;rw[aKi,hsz,g0,π (by simp only[ε];omega)];refine⟨by omega,?_⟩;rw[ν (by simp;omega)];unfold Rf;simp only[ν hb];rw[ν (by simp;omega)];refine⟨by rw[aJ];omega,?_⟩;by_cases h18:18<r.length+1
   ·rw[π (by simp only[ε];omega),π (.inl h18)]
   ·rw[ν (by simp only[ε];omega)];refine⟨by omega,?_⟩;by_cases h48:b.toNat=48
    ·rw[π (by rw[h48];rfl)];by_cases hr:0<r.length
     ·rw[π (by simp only[ε];omega),π (.inr ⟨h48,hr⟩)]
     ·rw[ν (by simp only[ε];omega),ν (by omega)];exact aCf ⟨⟨b::r⟩⟩ 0 (by rw[hsz];omega) (by omega) (r.length+1) 0 0 (by rw[hsz];omega) (by decide)
    ·rw[ν (by simp;omega),ν (by omega)];exact aCf ⟨⟨b::r⟩⟩ 0 (by rw[hsz];omega) (by omega) (r.length+1) 0 0 (by rw[hsz];omega) (by decide)
def xq:KK:=mL aVj (DO pk) nP (jF,pW,()) (λ⟨x0,_⟩ h hwf K q=>by
 obtain⟨n,hn⟩:=aVl x0 hwf.1;exact(aVk _ K q n).1 hn)
def aVm:gC:=D0 pm [.v (.str)] [.sl Za,.bool] [aB9,xq,lO]
mutual
def aVn:Nat->Δ->Γ aS->Prop
 | 0,_,_=>False
 | n+1,x0,ds=>if aB x0==aB (aA #[45])then ds=[aI (.sl Za) [],aI .bool true] else P88 x0 44/\if decide ((↑(aF (bU x0 44)):Int)>64)then ds=[aI (.sl Za) [],aI .bool false] else Rg n 0 ([]) x0 ds
def Rg:Nat->Int->Γ Int->Δ->Γ aS->Prop
 | 0,_,_,_,_=>False
 | n+1,v6,h1,x0,ds=>if decide (v6<(↑(aF (bU x0 44)):Int))then 0<=v6/\v6<(↑(aF (bU x0 44)):Int)/\if !pW (aD (bU x0 44) (aE v6) aC)then ds=[aI (.sl Za) [],aI .bool false] else if !cG (jF (aD (bU x0 44) (aE v6) aC)) (-1000000000000) 1000000000000 then ds=[aI (.sl Za) [],aI .bool false] else(aF h1+1)*8<=140737488355328/\aX .i64 (v6+1)/\Rg n (v6+1) (h1++[jF (aD (bU x0 44) (aE v6) aC)]) x0 ds else ds=[aI (.sl Za) h1,aI .bool true]
end
def aVo(ds:Γ aS)(K:fG)(q:Nat->Value):∀n,(∀ {x0},aVn n x0 ds->St aVm (x0,()) ds [] K q)/\(∀ {v6 h1 x0},Rg n v6 h1 x0 ds->Cu aVm 8 ([eW 4 0,eW 5 1,eI 6 v6],[cL .str (bU x0 44),cL (.int .i64) h1]) ds [] K q):=nI ⟨aH,aH⟩ λn ⟨i,i8⟩=>⟨bD cM<|aL<|bD cM<|bX i8,
  bD (cP<|bH<|bD (jM cM)<|bH<|bD cM<|aL<|aL<|bX i8) cM⟩
def TP(w:Δ):Bool:=pW w&&cG (jF w) (-1000000000000) 1000000000000
def JX:Γ Δ->Option (Γ Int)
 | []=>some []
 | w::r=>if TP w=true then(match JX r with | some l=>some (jF w::l) | none=>none)else none
def Cb(x0:Δ):Γ Δ:=bU x0 44
def NB(x0:Δ):Option (Γ Int):=if x0=aA #[45] then some [] else if(Cb x0).length>64 then none else JX (Cb x0)
def b5(x0:Δ):Γ Int:=(NB x0).getD []
def jU(x0:Δ):Bool:=(NB x0).isSome
def LR(x0:Δ):Prop:=x0.size<4294967281
def aVp(x0:Δ)(hl:(Cb x0).length<=64):∀(k i:Nat) (h:Γ Int),i+k=(Cb x0).length->h.length<=i ->
  Rg (k+1) (i:Int) h x0 [⟨.sl Za,((JX ((Cb x0).drop i)).map (h ++ ·)).getD []⟩,⟨.bool,(JX ((Cb x0).drop i)).isSome⟩]:=by
 have ew:bU x0 44=Cb x0:=rfl;intro k
 induction k with
 | zero =>
  intro i h hi hh;rw[Rg,ν (by lia),gW (by lia)];simp[JX]
 | succ k ih =>
  intro i h hi hh;have hlt:i<(Cb x0).length:=by lia
  rw[Rg,ew,π (by lia)];simp only[aK];rw[dQ (Cb x0) i aC hlt];generalize (Cb x0).getD i aC=w at *;refine⟨by lia,by lia,?_⟩;cases h1:pW w with
  | false =>
   grind [TP,JX]
  | true =>
   cases h2:cG (jF w) (-1000000000000) 1000000000000 with
   | false =>
    grind [TP,JX]
   | true =>
    have hk:TP w=true:=by grind [TP]
    refine⟨by lia,by grind [aJ],?_⟩;have:=ih (i+1) (h++[jF w]) (by lia) (by grind);rw[JX]
    grind
def aVq(x0:Δ)(hp:LR x0):∃n,aVn n x0 [⟨.sl Za,b5 x0⟩,⟨.bool,jU x0⟩]:=by
 have ew:bU x0 44=Cb x0:=rfl;refine⟨((Cb x0).length+1)+1,?_⟩;rw[aVn,ew];unfold b5 jU NB;by_cases h0:x0=aA #[45]
 ·rw[π ((bC _ _).2 h0),π h0];rfl
 ·rw[ν (λh=>h0 ((bC _ _).1 h)),ν h0];refine⟨⟨hp,by omega,by omega⟩,?_⟩;by_cases h1:(Cb x0).length>64
  ·rw[π (by simp only[ε];omega),π h1];rfl
  ·rw[ν (by simp only[ε];omega),ν h1];have:=aVp x0 (by omega) (Cb x0).length 0 [] (by omega) (by simp);simpa using this
def Wj:KK:=mL aVm (DO pm) LR (b5,jU,()) (λ⟨x0,_⟩ h hwf K q=>by
 obtain⟨n,hn⟩:=aVq x0 h;exact(aVo _ K q n).1 hn)
end
theorem Wk:∀(l:Γ UInt8) (n:Int),(wG l n).2=false->(wG l n).1=0
 | [],n,h=>by cases h
 | c::r,n,h=>by
  unfold wG at h ⊢;split at h
  ·rename_i hd;rw[π hd];exact Wk r _ h
  lia
theorem PK(b:UInt8)(r:Γ UInt8):Rf (b::r)=if b.toNat=45 then(if r.length=0\/18<r.length\/(r.getD 0 0).toNat=48 then(0,false)else BK 1 (wG r 0))
  else if 18<r.length+1\/(b.toNat=48/\0<r.length)then(0,false)else BK 0 (wG (b::r) 0):=rfl
theorem aEy:∀(l:Γ UInt8) (m:Nat),(∀b∈l,C8 b)->yA l m<(m+1)*10^l.length
 | [],m,_=>by simp[yA]
 | b::r,m,hd=>by
  have hb:C8 b:=hd b (aR ..);unfold C8 at hb;have ih:=aEy r (10*m+(b.toNat-48)) (λc hc=>hd c (aM _ hc));show yA r (10*m+(b.toNat-48))<_;rw[cH,Nat.pow_succ];have h1:(10*m+(b.toNat-48)+1)*10^r.length<=(10*(m+1))*10^r.length:=Nat.mul_le_mul_right _ (by lia)
  lia
theorem aEz:∀(l:Γ UInt8) (m:Nat),m<=yA l m
 | [],m=>aU _
 | b::r,m=>by
  have:=aEz r (10*m+(b.toNat-48));show m<=yA r (10*m+(b.toNat-48));omega
def N18(n:Int):Prop := -1000000000000000000<n/\n<1000000000000000000
def Ku{n:Nat}:(bJ n).length<=18↔n<1000000000000000000:=by
 constructor
 ·intro h;obtain⟨d1,d2,_⟩:=oC n;have:=aEy (bJ n) 0 d1;have hp:10^(bJ n).length<=10^18:=lM (by lia) h
  lia
 ·intro h;exact ir 17 n (by lia)
variable {n:Int}
theorem FP(h:n<0):lD n=⟨⟨45::bJ n.natAbs⟩⟩:=by unfold lD Cq;lia
theorem FQ(h:¬n<0):lD n=⟨⟨bJ n.toNat⟩⟩:=by unfold lD Cq;lia
def Wl{n:Nat}:∃b r,bJ n=b::r/\C8 b/\(b.toNat=48->r=[]):=by
 obtain⟨d1,d2,d3,d4⟩:=oC n;have hz:bJ 0=[48]:=by simp[bJ]
 cases hd:bJ n with
 | nil=>grind
 | cons b r =>
  grind
theorem aKj(h:N18 n):jF (lD n)=n/\pW (lD n)=true:=by
 obtain⟨h1,h2⟩:=h;have e:Rf (lD n).data.toList=(n,true):=by
  by_cases hn:n<0
  ·rw[FP hn];obtain⟨d1,d2,d3,d4⟩:=oC n.natAbs;have hl:=(Ku (n:=n.natAbs)).2 (by lia);rw[PK];unfold BK;have:=Wg (bJ n.natAbs) 0 d1
   grind
  ·rw[FQ hn];obtain⟨d1,d2,d3,d4⟩:=oC n.toNat;have hl:=(Ku (n:=n.toNat)).2 (by lia);obtain⟨b,r,hd,hb,h48⟩:=Wl (n:=n.toNat);rw[hd]at d1 d2 d3 d4 hl ⊢;unfold C8 at hb;rw[PK];unfold BK;have:=Wg (b::r) 0 d1
   grind
 unfold jF pW
 lia
variable {x:Δ}
def aVr(h:pW x=true):∃n:Int,N18 n/\x=lD n:=by
 obtain⟨⟨p⟩⟩:=x;unfold pW at h;cases p with
 | nil=>cases h
 | cons b r =>
  rw[PK]at h;split at h
  ·have hb':b=45:=by rw[<- jJ];lia
   split at h
   ·lia
   ·rename_i hc;have hall:=Wh r 0 h;cases r with
    | nil=>grind
    | cons c q =>
     have hcd:C8 c:=hall c (aR ..);unfold C8 at hcd;have hc2:c.toNat≠48:=λe=>hc (.inr (.inr e));have hp:1<=yA (c::q) 0:=We q _ (by lia);have hcan:=Re (c::q).length (c::q) rfl hall (by lia) (.inl hc2);have hlt:=Ku.1 (by rw[hcan];lia);refine⟨-(yA (c::q) 0:Int),⟨by lia,by lia⟩,?_⟩
     grind [FP]
  ·split at h
   ·lia
   ·have hall:=Wh (b::r) 0 h;have hcan:=Re (b::r).length (b::r) rfl hall (by simp) (by
     grind)
    have hlen:(b::r).length<=18:=by
     grind
    have hlt:=Ku.1 (by rw[hcan];lia);refine⟨(yA (b::r) 0:Int),⟨by lia,by lia⟩,?_⟩
    grind [FQ]
theorem aVs(h:pW x=false):jF x=0:=by
 obtain⟨⟨p⟩⟩:=x;unfold pW at h;unfold jF;cases p with
 | nil=>rfl
 | cons b r =>
  rw[PK]at h ⊢;split at h
  ·split at h
   ·lia
   ·unfold BK at h ⊢
    grind [Wk]
  ·split at h
   ·lia
   ·rename_i hc;rw[ν hc];unfold BK at h ⊢
    grind [Wk]
theorem cu:∀(l:Γ UInt8) (m:Nat),(∀b∈l,C8 b)->yA l m<1000000000000000000->Yi 18446744073709551615 m l = .ok (yA l m)
 | [],_,_,_=>rfl
 | b::r,m,hd,h=>by
  have hb:C8 b:=hd b (aR ..);unfold C8 at hb;have hle:=aEz r (10*m+(b.toNat-48));have h':yA r (10*m+(b.toNat-48))<1000000000000000000:=h;unfold Yi;rw[π hb,ν (by lia),ν (by lia),HY m 10];exact cu r _ (λc hc=>hd c (aM _ hc)) h'
theorem xr{n:Nat}(h:n<1000000000000000000):Yj 64 (bJ n) = .ok n:=by
 obtain⟨d1,d2,d3,_⟩:=oC n;unfold Yj
 grind [cu]
theorem aG3(h:N18 n):iS 64 (lD n).data.toList = .ok n:=by
 obtain⟨h1,h2⟩:=h;have e63:(2:Nat)^(64-1)=9223372036854775808:=by lia
 by_cases hn:n<0
 ·rw[FP hn];rw[Lib.parseIntB_minus,xr (by lia)];unfold Lib.signedC
  grind
 ·rw[FQ hn];have hu:=xr (n:=n.toNat) (by lia);obtain⟨b,r,hd,hb,_⟩:=Wl (n:=n.toNat);unfold C8 at hb;rw[hd]at hu ⊢;rw[Lib.parseIntB_plain _ _ _ (by lia) (by lia)];unfold Lib.signlessC
  grind
theorem xt:(z8 (lD n) ⟨#[45]⟩).size=(bJ n.natAbs).length:=by
 show (DC (lD n).data.toList [45]).length=_;unfold DC Lib.hasPrefix;by_cases hn:n<0
 ·grind [FP]
 ·rw[FQ hn];obtain⟨b,r,hd,hb,_⟩:=Wl (n:=n.toNat);unfold C8 at hb;have hne:(45:UInt8)≠b:=λe=>by rw[<- e]at hb;lia
  grind
theorem aKk(h:N18 n):gG (lD n)=n/\gK (lD n)=true:=by
 have hl:=(Ku (n:=n.natAbs)).2 (by grind [N18]);have h0:=(oC n.natAbs).2.2.1;have e:JR (lD n)=some n:=by
  unfold JR UK;rw[xt,aG3 h]
  lia
 unfold gG gK
 grind
def aKl(h:gK x=true):∃n:Int,N18 n/\x=lD n:=by
 unfold gK JR at h;split at h
 ·grind
 ·rename_i hl;split at h
  ·rename_i v hv;split at h
   ·rename_i he;unfold UK at hl;rw[<- he,xt]at hl;have:(bJ v.natAbs).length<=18:=by
     lia
    have:=Ku.1 this;exact⟨v,⟨by lia,by lia⟩,he.symm⟩
   grind
  grind
theorem aKm(h:gK x=false):gG x=0:=by
 grind [gK,gG,JR]
theorem Aj(x:Δ):jF x=gG x/\pW x=gK x:=by
 cases hs:pW x with
 | true =>
  obtain⟨n,hn,rfl⟩:=aVr hs;obtain⟨i0,i1⟩:=aKk hn;rw[(aKj hn).1]
  lia
 | false =>
  cases hi:gK x with
  | true =>
   obtain⟨n,hn,rfl⟩:=aKl hi
   grind [aKj]
  | false=>exact⟨(aVs hs).trans (aKm hi).symm,rfl⟩
def iw(x:Δ):∃n:Int,N18 n/\gG x=n/\(gK x=true↔x=lD n):=by
 cases hi:gK x with
 | true =>
  obtain⟨n,hn,rfl⟩:=aKl hi;exact⟨n,hn,(aKk hn).1,⟨λ_=>rfl,λ_=>rfl⟩⟩
 | false =>
  have h0:N18 0:=⟨by omega,by omega⟩;refine⟨0,h0,aKm hi,⟨(λh=>by cases h),λh=>?_⟩⟩;rw[h,(aKk h0).2]at hi;cases hi
theorem Wm{k:UInt8}(h1:¬C8 k)(h2:k≠45):k ∉ (lD n).data.toList:=by
 intro hm;by_cases hn:n<0
 ·rw[FP hn]at hm;rcases bA.1 hm with h | h
  ·exact h2 h
  ·exact h1 ((oC _).1 _ h)
 ·rw[FQ hn]at hm;exact h1 ((oC _).1 _ hm)
def Le(n:Int):Prop := -1000000000000<=n/\n<=1000000000000
theorem Hw(h:Le n):N18 n:=by unfold Le at h;exact⟨by lia,by lia⟩
theorem bDy:cG n (-1000000000000) 1000000000000=true↔Le n:=by
 simp[cG,Le]
theorem aKn:Rb n=true↔Le n:=bDy
theorem xu(l:Γ Int):wH l=l.any λn => !Rb n:=Wc l
theorem Rh{l:Γ Int}(h0:l≠[])(h1:l.length<=64)(h2:∀n∈l,Le n):hJ l=rA (l.map lD) (aA #[44]):=by
 have e:(l.map dA)=l.map lD:=rfl;unfold hJ;rw[ν (by omega),e,ν,ν (λh=>h0 (bN h))];rw[xu];intro h;obtain⟨n,hn,hb⟩:=List.any_eq_true.1 h;rw[aKn.2 (h2 n hn)]at hb;cases hb
theorem aG4{l:Γ Int}(h:¬(l.length<=64/\∀n∈l,Le n)):hJ l=aA #[]:=by
 unfold hJ;by_cases h1:l.length>64
 ·lia
 ·rw[xu]
  grind [aKn]
theorem xv(p q:Γ UInt8)(r:Γ (Γ UInt8))(k:UInt8):[k].intercalate (p::q::r)=p++k :: [k].intercalate (q::r):=by
 rfl
theorem NC(k:UInt8):∀(ps:Γ (Γ UInt8)),ps≠[]->(∀p∈ps,k ∉ p)->dB k ([k].intercalate ps)=ps
 | [],h,_=>absurd rfl h
 | [p],_,h=>by
  have:[k].intercalate [p]=p:=by simp
  grind [lE]
 | p::q::r,_,h=>by
  rw[xv,nJ k _ (h p (aR ..)),NC k (q::r) (by simp) λx hx=>h x (aM _ hx)]
theorem Ri(l:Γ Δ):(rA l (aA #[44])).data.toList=[44].intercalate (l.map λx=>x.data.toList):=rfl
def ix(x:Δ):aW x (aA #[44])=bss (dB 44 x.data.toList):=zW 44 x
theorem aVt(x:Δ):bss (dB 44 x.data.toList)≠[]:=by
 simp[bss,By]
theorem cv(ls:Γ (Γ UInt8)):(bss ls).map (λx=>x.data.toList)=ls:=by
 unfold bss;rw[mY]
 conv=>rhs;rw[<- Av ls]
 rfl
theorem Wn(x:Δ):hJ (kP x)=x↔((pV x).length<=64/\∀w∈pV x,gK w=true/\Le (gG w)):=by
 have ew:pV x=bss (dB 44 x.data.toList):=ix x;have hlen:(kP x).length=(pV x).length:=by unfold kP;rw[eV]
 have hne:kP x≠[]:=λh=>aVt x (by
  rw[<- ew];refine bN ?_;rw[<- hlen,h];rfl)
 constructor
 ·intro ht;have hok:(kP x).length<=64/\∀n∈kP x,Le n:=by
   apply Classical.byContradiction;intro hc;rw[aG4 hc]at ht;subst ht;apply hc;have e1:pV (aA #[])=[aA #[]]:=by rw[ew];rfl
   have hf:gK (aA #[])=false:=by
    rw[bV];intro h;obtain⟨n,_,hn⟩:=aKl h;have:=congrArg aG hn;by_cases hs:n<0
    ·rw[FP hs]at this;exact absurd this (by show ¬(0:Nat)=(45::bJ n.natAbs).length;simp)
    ·rw[FQ hs]at this;have hp:=(oC n.toNat).2.2.1;have:0=(bJ n.toNat).length:=this;omega
   unfold kP;rw[e1];simp only[dY,Bj,jE,dG,forall_eq,aKm hf];exact⟨by omega,by unfold Le;omega⟩
  rw[Rh hne hok.1 hok.2]at ht;have hd:=congrArg (λb:Δ=>dB 44 b.data.toList) ht;simp only[Ri]at hd;rw[NC 44 _ (by simpa using hne) (λp hp=>by
   obtain⟨y,hy,rfl⟩:=cW.1 hp;obtain⟨n,hn,rfl⟩:=cW.1 hy;exact Wm (by unfold C8;decide) (by decide))]at hd
  have hw:pV x=(kP x).map lD:=by
   rw[ew, <- hd];unfold bss;rw[mY]
   conv=>rhs;rw[<- Av ((kP x).map lD)]
   rfl
  refine⟨by rw[<- hlen];exact hok.1,?_⟩;have key:∀w∈pV x,w=lD (gG w):=by
   unfold kP at hw;rw[mY]at hw;intro w hw';obtain⟨i,hi⟩:=List.getElem?_of_mem hw';have h1:(pV x)[i]? = some w:=hi;rw[hw,sJ,hi]at h1;simp only[Option.map_some,Option.some.injEq]at h1;exact h1.symm
  intro w hw';obtain⟨n,hn,e0,e1⟩:=iw w;refine⟨e1.2 (by rw[<- e0];exact key w hw'),?_⟩;exact hok.2 _ (cW.2 ⟨w,hw',rfl⟩)
 ·rintro⟨h1,h2⟩;have hv:∀n∈kP x,Le n:=λn hn=>by
   obtain⟨w,hw,rfl⟩:=cW.1 hn;exact(h2 w hw).2
  rw[Rh hne (by rw[hlen];exact h1) hv];refine z6 ?_;rw[Ri];have hm:(kP x).map lD=pV x:=by
   unfold kP;rw[mY]
   conv=>rhs;rw[<- Av (pV x)]
   refine pM λw hw=>?_;obtain⟨n,hn,e0,e1⟩:=iw w;show lD (gG w)=w;rw[e0];exact(e1.1 (h2 w hw).1).symm
  rw[hm,ew,cv,Ag]
open Classical in
theorem iy:∀(ws:Γ Δ),JX ws=if(∀w∈ws,gK w=true/\Le (gG w))then some (ws.map gG)else none
 | []=>by simp[JX]
 | w::r=>by
  obtain⟨e0,e1⟩:=Aj w;rw[JX,iy r];have hk:TP w=true↔(gK w=true/\Le (gG w)):=by
   unfold TP;rw[e0,e1,aT,bDy]
  by_cases h:TP w=true
  ·rw[π h];by_cases hr:∀w∈r,gK w=true/\Le (gG w)
   ·rw[π hr,π (λy hy=>by
     rcases bA.1 hy with rfl | hy
     ·exact hk.1 h
     ·exact hr y hy)]
    simp[e0]
   ·rw[ν hr,ν (λhh=>hr λy hy=>hh y (aM _ hy))]
  ·rw[ν h,ν (λhh=>h (hk.2 (hh w (aR ..))))]
theorem rT(x:Δ):b5 x=fK x/\jU x=o4 x:=by
 have e:NB x=EH x:=by
  unfold NB EH;by_cases h0:x=aA #[45]
  ·lia
  ·have ew:Cb x=pV x:=(ix x).symm;rw[ew,iy];have hi:=Wn x;by_cases h1:(pV x).length>64
   ·lia
   ·rw[ν h1];by_cases h2:∀w∈pV x,gK w=true/\Le (gG w)
    ·rw[π h2,π (hi.2 ⟨by lia,h2⟩)];rfl
    grind
 unfold b5 fK jU o4
 lia
theorem cw{k:UInt8}(h1:¬C8 k)(h2:k≠45)(h3:k≠44)(h:fK x≠[]):k ∉ x.data.toList:=by
 unfold fK EH at h;split at h
 ·exact absurd rfl h
 ·split at h
  ·rename_i ht;obtain⟨_,h5⟩:=(Wn x).1 ht;have ew:pV x=bss (dB 44 x.data.toList):=ix x;intro hm;rw[<- Ag 44 x.data.toList]at hm;have key:∀ps:Γ (Γ UInt8),(∀p∈ps,k ∉ p)->k ∉ [(44:UInt8)].intercalate ps:=by
    intro ps
    induction ps with
    | nil=>intro _;simp[F5]
    | cons p r ih =>
     intro hp;cases r with
     | nil =>
      have:[(44:UInt8)].intercalate [p]=p:=by simp[F5]
      rw[this];exact hp p (aR ..)
     | cons q r =>
      rw[xv];intro hh;rcases dC.1 hh with hh | hh
      ·exact hp p (aR ..) hh
      ·rcases bA.1 hh with hh | hh
       ·exact h3 hh
       ·exact ih (λy hy=>hp y (aM _ hy)) hh
   refine key _ (λp hp=>?_) hm;have hmem:(⟨p.toArray⟩:Δ)∈pV x:=by
    rw[ew];exact cW.2 ⟨p,hp,rfl⟩
   obtain⟨n,_,e0,e1⟩:=iw ⟨p.toArray⟩;have he:=e1.1 (h5 _ hmem).1;have:p=(lD n).data.toList:=by
    have:=congrArg (λb:Δ=>b.data.toList) he;simpa using this
   rw[this];exact Wm h1 h2
  ·exact absurd rfl h
theorem Rj(h:fK x≠[]):o4 x=true/\hJ (fK x)=x:=by
 unfold fK o4 at *;cases ha:EH x with
 | none=>rw[ha]at h;exact absurd rfl h
 | some l =>
  refine⟨rfl,?_⟩;rw[ha]at h;unfold EH at ha;split at ha
  ·cases ha;exact absurd rfl h
  ·split at ha
   ·rename_i ht;cases ha;exact ht
   ·cases ha
theorem Kv{x:b6}(h:tI x=true):(0<=x.1/\x.1<=36524)/\(0<=x.2.1/\x.2.1<=24000)/\(0<=x.2.2.1/\x.2.2.1<=1000):=by
 unfold tI at h;split at h
 ·rename_i h0;split at h
  ·rename_i h1;exact⟨win.1 h0,win.1 h1,win.1 h⟩
  lia
 lia
theorem Kw(h:0<=n/\n<=36524):∃a b c:Nat,o3 n=dT a b c/\Mu n/\aGt (dT a b c)/\rY (dT a b c)=n/\u2 (dT a b c)=true/\(32:UInt8) ∉ (dT a b c).data.toList:=by
 obtain⟨y,m,d,hd,e⟩:=xp h;have hp:=JW hd;obtain⟨⟨y1,y2⟩,⟨m1,m2⟩,d1,d2⟩:=id hd;obtain⟨a,rfl⟩:=eG (show 0<=y by lia);obtain⟨b,rfl⟩:=eG (show 0<=m by lia);obtain⟨c,rfl⟩:=eG (show 0<=d by lia);have hc:mP (a:Int) (b:Int)<=31:=by
  grind [mP]
 have ht:=FN hd (by lia) (by lia) (by lia);obtain⟨r0,r1⟩:=UM hd (by lia) (by lia) (by lia);rw[e]at hp ht r0;refine⟨a,b,c,ht,hp,aEx _ (by show (10:Nat)<=1048576;lia),r0,r1,?_⟩;have hD:∀n,n<10->(32:UInt8)≠mJ n:=λn hn e=>by
  have:=congrArg cN e;rw[pH hn]at this
  lia
 show (32:UInt8) ∉ [50,48,mJ (a%100/10),mJ (a%10)]++45::([mJ (b/10),mJ (b%10)]++45 :: [mJ (c/10),mJ (c%10)])
 grind
abbrev IF:I3:=((0:Int),(0:Int),(0:Int),())
theorem aE0{p:Nat->I3->Bool}:∀(l:Γ I3) (k:Nat),nF p k l=true->∀i,i<l.length->p (k+i) (l.getD i IF)=true
 | [],k,_,i,hi=>by grind
 | x::r,k,h,i,hi=>by
  rw[nF,aT]at h;cases i with
  | zero=>grind
  | succ i =>
   have:=aE0 r (k+1) h.2 i (by simpa using hi);rw[show k+(i+1)=k+1+i by omega];exact this
theorem PL{xs:Γ I3}(h:fW xs=true):xs.length<=24/\Dx xs=true:=by
 unfold fW at h
 lia
theorem Wo{xs:Γ I3}(h:Dx xs=true):(∀i,i<xs.length->tI (xs.getD i IF)=true)/\∀i,i+1<xs.length->(xs.getD i IF).1<(xs.getD (i+1) IF).1/\(xs.getD i IF).2.1<=(xs.getD (i+1) IF).2.1:=by
 have hk:=aE0 xs 0 h;refine⟨λi hi=>?_,λi hi=>?_⟩
 ·have:=hk i hi;unfold WA at this
  lia
 ·have:=hk (i+1) hi;unfold WA at this;rw[aT]at this;have h2:=this.2;unfold aIY at h2
  lia
theorem Rk{xs:Γ I3}(h:∀i,i+1<xs.length->(xs.getD i IF).1<(xs.getD (i+1) IF).1/\(xs.getD i IF).2.1<=(xs.getD (i+1) IF).2.1):∀n,n+1<xs.length->(xs.getD 0 IF).1<(xs.getD (n+1) IF).1/\(xs.getD 0 IF).2.1<=(xs.getD (n+1) IF).2.1
 | 0,hn=>h 0 hn
 | n+1,hn=>by
  have h1:=Rk h n (by lia)
  grind
theorem aKo{a b:Int}(ha:0<=a/\a<=24000000)(hb:1<=b/\b<=36524):RJ a b/\0<=o0 a b/\o0 a b<=30000000:=by
 have t1:aQ a b=a/b:=eY ha.1;have t2:bY a b=a%b:=gN ha.1;have d1:0<=a/b:=Int.ediv_nonneg ha.1 (by lia);have d2:a/b<=a:=Int.ediv_le_self _ ha.1;have m1:0<=a%b:=Int.emod_nonneg _ (by lia);have m2:a%b<b:=Int.emod_lt_of_pos _ (by lia);have a1:mO b=b:=by
  unfold mO
  lia
 have a2:mO (a%b)=a%b:=by
  unfold mO
  lia
 have p1:Tk b:=by
  unfold Tk
  lia
 have p2:Tk (a%b):=by
  unfold Tk
  lia
 have c0:decide (a<0)=false:=decide_eq_false (by lia);have c1:decide (b<0)=false:=decide_eq_false (by lia);unfold RJ o0;rw[t1,t2];generalize a/b=q at *;generalize a%b=m at *;have i1:aX .i64 q:=by grind [aJ]
 have i2:aX .i64 m:=by grind [aJ]
 have i3:aX .i64 (b-m):=by grind [aJ]
 have i4:aX .i64 (q+1):=by grind [aJ]
 lia
theorem ND(xs:Γ I3):aJw xs/\(fW xs=true->(wD xs=0↔2<=xs.length))/\(0<=lH xs/\lH xs<=30000000)/\(fW xs=true->1<=xs.length->WC xs):=by
 by_cases hv:fW xs=true
 ·obtain⟨hl,ha⟩:=PL hv;obtain⟨h1,h2⟩:=Wo ha;have hlt:∀i,i<xs.length->(0<=(xs.getD i IF).1/\(xs.getD i IF).1<=36524)/\(0<=(xs.getD i IF).2.1/\(xs.getD i IF).2.1<=24000):=λi hi=>⟨(Kv (h1 i hi)).1,(Kv (h1 i hi)).2.1⟩;have big:2<=xs.length->RJ (bz xs) (ca xs)/\0<=o0 (bz xs) (ca xs)/\o0 (bz xs) (ca xs)<=30000000:=λh=>by
   have hf:=Rk h2 (xs.length-2) (by lia);rw[show xs.length-2+1=xs.length-1 by lia]at hf;have b0:=hlt 0 (by lia);have b1:=hlt (xs.length-1) (by lia);refine aKo ?_ ?_
   ·show 0<=1000*((xs.getD (xs.length-1) IF).2.1-(xs.getD 0 IF).2.1)/\1000*((xs.getD (xs.length-1) IF).2.1-(xs.getD 0 IF).2.1)<=24000000
    lia
   ·show 1<=(xs.getD (xs.length-1) IF).1-(xs.getD 0 IF).1/\(xs.getD (xs.length-1) IF).1-(xs.getD 0 IF).1<=36524
    lia
  have hg:0<=lH xs/\lH xs<=30000000:=by
   unfold lH
   lia
  refine⟨λ_ h=>⟨hl,(big h).1,?_,?_⟩,λ_=>?_,hg,λ_ h=>?_⟩
  ·grind [aJ]
  ·grind
  ·unfold wD
   lia
  ·have b1:=hlt (xs.length-1) (by lia)
   grind [aE,WC,mH]
 ·refine⟨λh=>absurd h hv,λh=>absurd h hv,?_,λh=>absurd h hv⟩;unfold lH
  lia
theorem aE1(xs:Γ I3)(v:Int):∀(k:Nat) (d:Int),(kM xs v k d = -1)\/(d<=kM xs v k d/\kM xs v k d<d+k/\j6 xs (kM xs v k d)>=v/\∀e,d<=e->e<kM xs v k d->j6 xs e<v)
 | 0,d => .inl rfl
 | k+1,d=>by
  have ef:kM xs v (k+1) d=if j6 xs d>=v then d else kM xs v k (d+1):=rfl
  by_cases h:j6 xs d>=v
  ·lia
  ·rcases aE1 xs v k (d+1)with h1 | ⟨h1,h2,h3,h4⟩
   all_goals grind
theorem aG6(xs:Γ I3)(v:Int):aNi xs v/\(Dy xs v=0->WC xs/\(mH xs).1<=BD xs v/\BD xs v<=36524/\j6 xs (BD xs v)>=v/\∀e,(mH xs).1<=e->e<BD xs v->j6 xs e<v):=by
 obtain⟨p,h1,h2,h3⟩:=ND xs;have hB:fW xs=true->wD xs=0->WC xs:=λhv hg=>h3 hv (by have:=(h1 hv).1 hg;omega);refine⟨⟨p,hB⟩,λh=>?_⟩;unfold Dy at h;unfold BD;split at h
 case isFalse=>exact absurd h (by decide)
 rename_i hv;rw[π hv];split at h
 case isFalse=>exact absurd h (by decide)
 rename_i hw;rw[π hw];split at h
 case isFalse=>rename_i hg;exact absurd h hg
 rename_i hg;rw[π hg];split at h
 case isTrue=>exact absurd h (by decide)
 rename_i hd;rw[ν hd];have hb:=hB hv hg;have hb':=hb;obtain⟨_,_,⟨l1,l2⟩,_,_⟩:=hb';refine⟨hb,?_⟩;rcases aE1 xs v (36525-(mH xs).1).toNat (mH xs).1 with e | ⟨e1,e2,e3,e4⟩
 ·exfalso;apply hd;show kM xs v (36525-(mH xs).1).toNat (mH xs).1<0;omega
 ·exact⟨e1,by show kM xs v (36525-(mH xs).1).toNat (mH xs).1<=36524;omega,e3,e4⟩
theorem aE2{h:b6}(q:xW h=true):(0<=h.1/\h.1<=1000) /\ -400<=h.2.1/\h.2.1<=500:=by
 obtain⟨a,q⟩:=z7 q;exact⟨wi a,wi (z7 q).1⟩
variable {l:Γ b6}
theorem w9(h:u0 l=true):l.length<=48/\∀x∈l,xW x=true:=by
 unfold u0 CU at h;obtain⟨a,h⟩:=z7 h;rw[MZ,eZ,fC]at h;exact⟨by lia,λx hx=>nb (h x hx)⟩
theorem tM(h:qW l=true):l.length<=8/\∀x∈l,qV x=true:=by
 unfold qW CT at h;obtain⟨a,h⟩:=z7 h;rw[MX,eZ,fC]at h;exact⟨by lia,λx hx=>nb (h x hx)⟩
theorem aKp(h1:l.length<=48)(h2:∀x∈l,xW x=true):u0 l=true:=by
 unfold u0 CU;rw[MZ,π (decide_eq_true (by lia)),eZ,fC];exact λx hx=>by rw[show Iu x = !xW x from rfl,h2 x hx];lia
theorem aG7(h1:l.length<=8)(h2:∀x∈l,qV x=true):qW l=true:=by
 unfold qW CT;rw[MX,π (decide_eq_true (by lia)),eZ,fC];exact λx hx=>by rw[show It x = !qV x from rfl,h2 x hx];lia
theorem xw(l h:Γ b6):aMY l h:=λho=>by
 unfold Hf at ho;rw[aT]at ho;obtain⟨h1,h2⟩:=w9 ho.2;refine⟨by lia,λx hx y hy=>?_⟩;obtain⟨_,q⟩:=aE2 (h2 x hx);unfold aJa;split
 ·lia
 ·split
  ·exact⟨by grind [aJ],trivial⟩
  lia
theorem TQ{l:Γ Int}(h:pT l=true):l.length<=60/\∀x∈l,0<=x/\x<=1000:=by
 obtain⟨_,h⟩:=z7 h;obtain⟨b,h⟩:=z7 h;refine⟨by lia,λx hx=>?_⟩;unfold GE at h;rw[Vs,eZ,fC]at h;have q:¬(!aBD x)=true:=h x hx;exact wi (show bE x 0 1000=true from nb q)
theorem Rl(l:Γ Int)(e s:Int):aGe l e s:=by
 have key:∀c:Bool,¬(sZ l c != 0)=true->pT l=true/\c=true:=λc hc=>by
  unfold sZ at hc
  lia
 unfold aGe;split
 ·rename_i he;refine Fc λc=>⟨?_,trivial⟩;obtain⟨h1,h2⟩:=key _ c;obtain⟨q1,q2⟩:=TQ h1;have w1:=wi (show bE e 1 60=true from he);have w2:=wi (show bE s 1 1000=true from h2);exact⟨by lia,by lia,by lia,q2⟩
 grind
theorem xx{l:Γ bP}(h:qX l=true):l.length<=10:=by
 unfold qX at h
 lia
theorem xy{l:Γ bP}(h:qY l=true):l.length<=8:=by
 unfold qY at h
 lia
theorem cx{l:Γ bP}(h:oW l=true):l.length<=12:=by
 unfold oW at h
 lia
theorem aQZ{l:Γ dO}(h:lU l=true):l.length<=8:=by
 unfold lU at h
 lia
theorem aKq{l:Γ dO}(h:oY l=true):l.length<=100:=by
 unfold oY at h
 lia
theorem aKr(a b:Γ bP)(ha:qX a=true)(hb:qY b=true):aTy a b:=by
 have h1:=xx ha;have h2:=xy hb;exact Fc λc=>⟨⟨aY _,show b.length+1-0<=2000 by lia,by lia,by lia⟩,trivial⟩
theorem NE{l:Γ dO}(h:lU l=true):∀x∈l,s8 x=true:=by
 unfold lU at h;rw[aT]at h;intro x hx;obtain⟨j,hj⟩:=CZ _ _ h.1 x hx;unfold aJi at hj
 lia
theorem Wp{l:Γ dO}(h:oY l=true):∀x∈l,oX x=true:=by
 unfold oY at h;rw[aT]at h;intro x hx;obtain⟨j,hj⟩:=CZ _ _ h.1 x hx;unfold aJk at hj
 lia
theorem iz{f:dO}(q:s8 f=true):s6 f.1=true/\(0<=f.2.1/\f.2.1<=100000)/\(1<=f.2.2.1/\f.2.2.1<=1000)/\1<=f.2.2.2.1/\f.2.2.2.1<=400:=by
 obtain⟨a,q⟩:=z7 q;obtain⟨b,q⟩:=z7 q;obtain⟨c,q⟩:=z7 q;exact⟨a,wi b,wi c,wi q⟩
theorem Wq{l:Γ Int}(h:jB l=true):l.length<=40/\∀y∈l,0<=y/\y<=36524:=by
 unfold jB at h;rw[aT]at h;refine⟨by lia,λx hx=>?_⟩;obtain⟨j,hj⟩:=CZ _ _ h.1 x hx;unfold CV at hj;rw[aT]at hj;exact wi (show bE x 0 36524=true from hj.1)
theorem Rm(l:Γ dO)(t:Γ Int):aNd l t:=by
 refine⟨λy hy=>(by grind),λh=>?_⟩;have q:lU l=true/\jB t=true:=by
  unfold lG at h
  lia
 obtain⟨t1,t2⟩:=Wq q.2;refine⟨by lia,λf hf=>?_,λy hy=>?_⟩
 all_goals grind [iz,NE]
theorem wI(h:fW l=true):l.length<=24/\∀x∈l,(0<=x.1/\x.1<=36524)/\(0<=x.2.1/\x.2.1<=24000)/\0<=x.2.2.1/\x.2.2.1<=1000:=by
 obtain⟨h1,h2⟩:=PL h;refine⟨h1,λx hx=>?_⟩;obtain⟨i,hi,rfl⟩:=Ap.1 hx;have:=(Wo h2).1 i hi;rw[oG _ i _ hi]at this;exact Kv this
theorem aNB(l:Γ b6)(a b:Int):aNj l a b:=by
 unfold aNj;refine Fc λc1=>Fc λc2=>Fc λc3=>Fc λc4=>?_;obtain⟨h1,h2⟩:=wI (nb c1);have w:=wi (nb c3);have hl:l.length≠0:=λe=>by lia
 have e:(((l.length:Nat):Int)-1).toNat=l.length-1:=by lia
 have hm:=h2 _ (cF l (l.length-1) (0,0,0,()) (by lia));refine⟨by grind [aJ],by lia,by lia,?_,(aG6 l a).1,trivial⟩
 grind [aJ]
theorem bDz(h l:b6)(hl:qV l=true)(s:Int):br h s l=bu h s l:=by
 have k:=wi (show bE l.1 1 4=true from(z7 hl).1);have m:∀a b:Int,Dt a b=if b<a then b else a:=λa b=>by
  unfold Dt
  lia
 unfold br bu;rw[m];unfold Vj Vk Vq Vp
 lia
theorem aKs{x0:Γ b6}(hv:qW x0=true){h:b6}(hh:xW h=true)(n:Int):aSG x0 h n/\gq x0 h n=M1 x0 h n:=by
 obtain⟨_,h2⟩:=tM hv;obtain⟨_,q⟩:=aE2 hh;refine⟨λl hl=>?_,?_⟩
 ·unfold aIZ;split
  ·lia
  ·split
   ·lia
   ·split
    ·lia
    ·exact⟨by grind [aJ],trivial⟩
 ·unfold gq M1;have:∀(l:Γ b6) (s:Int),(∀x∈l,qV x=true)->l.foldl (br h) s=l.foldl (bu h) s:=λl=>by
   induction l with
   | nil=>simp
   | cons x l ih =>
    intro s hx;rw[iQ,iQ,bDz h x (hx x (aR ..)),ih _ λy hy=>hx y (aM _ hy)]
  grind
noncomputable section
def aVu:gC:=D0 pn [.v (.sl cZ),.v (.sl cZ)] [.sl Za,.int .i64] [aS6,bBr,bBD]
mutual
def aKt:Nat->Γ b6->Γ b6->Γ aS->Prop
 | 0,_,_,_=>False
 | n+1,x0,x1,ds=>if !CR x0 then ds=[aI (.sl Za) [],aI (.int .i64) 1] else if !Vg x1 then ds=[aI (.sl Za) [],aI (.int .i64) 1] else NF n 0 ([]) x0 x1 ds
def NF:Nat->Int->Γ Int->Γ b6->Γ b6->Γ aS->Prop
 | 0,_,_,_,_,_=>False
 | n+1,v7,h0,x0,x1,ds=>if decide (v7<(x1.length:Int))then 0<=v7/\v7<(x1.length:Int)/\aSG x0 (aD x1 (aE v7) (0,0,0,())) 1/\if decide (gq x0 (aD x1 (aE v7) (0,0,0,())) 1>0)then(aF h0+1)*8<=140737488355328/\aX .i64 (v7+1)/\NF n (v7+1) (h0++[v7]) x0 x1 ds else aX .i64 (v7+1)/\NF n (v7+1) h0 x0 x1 ds else ds=[aI (.sl Za) h0,aI (.int .i64) 0]
end
def aVv(ds:Γ aS)(K:fG)(q:Nat->Value):∀n,(∀ {x0 x1},aKt n x0 x1 ds->St aVu (x0,x1,()) ds [] K q)/\(∀ {v7 h0 x0 x1},NF n v7 h0 x0 x1 ds->Cu aVu 5 ([eL 0 cZ x0,eL 1 cZ x1,eW 6 0,eI 7 v7],[cL (.int .i64) h0]) ds [] K q):=nI ⟨aH,aH⟩ λn ⟨i,i5⟩=>⟨bH<|bD (jM cM)<|bH<|bD cM<|bX i5,
  bD (cP<|aL<|bD (aL<|aL<|bX i5)<|aL<|bX i5) cM⟩
def Wr(x0 x1:Γ b6):Γ Int:=Du x0 x1
def Ws(x0 x1:Γ b6):Int:=Iv x0 x1
theorem aVw(x0 x1:Γ b6)(v0:qW x0=true)(hl:x1.length<=48)(v1:∀x∈x1,xW x=true):∀(k i:Nat) (h0:Γ Int),i+k=x1.length->h0.length<=i->NF (k+1) (i:Int) h0 x0 x1 [⟨.sl Za,h0++vN x0 (x1.drop i) i⟩,⟨.int .i64,0⟩]:=by
 intro k
 induction k with
 | zero =>
  intro i h0 hi hh;rw[NF,ν (by lia),bT (by lia),vN,dN]
 | succ k ih =>
  intro i h0 hi hh;have hlt:i<x1.length:=by lia
  have e3:(i:Int)+1=((i+1:Nat):Int):=by lia
  obtain⟨p,e⟩:=aKs v0 (v1 _ (cF x1 i (0,0,0,()) hlt)) 1;rw[NF,π (by lia),dQ x1 i (0,0,0,()) hlt,vN,aK,e];refine⟨by lia,by lia,p,?_⟩;by_cases c:decide (M1 x0 (x1.getD i (0,0,0,())) 1>0)=true
  ·have:=ih (i+1) (h0++[(i:Int)]) (by lia) (by grind);refine(π c).mpr ⟨by lia,by grind [aJ],?_⟩
   grind
  ·refine(ν c).mpr ⟨by grind [aJ],?_⟩
   grind
theorem aVx(x0 x1:Γ b6):∃n,aKt n x0 x1 [⟨.sl Za,Wr x0 x1⟩,⟨.int .i64,Ws x0 x1⟩]:=by
 unfold Wr Ws Du Iv Hf;by_cases c1:qW x0=true
 ·by_cases c2:u0 x1=true
  ·obtain⟨p1,p2⟩:=w9 c2;refine⟨x1.length+1+1,?_⟩;rw[aKt, <- GT, <- Kp,c1,c2];exact aVw x0 x1 c1 p1 p2 x1.length 0 [] (by omega) (aY _)
  ·exact⟨1,by rw[aKt, <- GT, <- Kp,c1,Hb c2];rfl⟩
 ·exact⟨1,by rw[aKt, <- GT, <- Kp,Hb c1];rfl⟩
def bD0:KK:=mL aVu (DO pn) nP (Wr,Ws,()) (λ⟨x0,x1,_⟩ h hwf K q =>
 let ⟨n,hn⟩:=aVx x0 x1
 (aVv _ K q n).1 hn)
def aNC:gC:=D0 pp [.v (.int .i64)] [.str] []
mutual
def aND:Nat->Int->Γ aS->Prop
 | 0,_,_=>False
 | n+1,x0,ds=>if x0==0 then ds=[aI .str (aA #[48])] else EJ n x0 ([]) x0 ds
def EJ:Nat->Int->Γ Int->Int->Γ aS->Prop
 | 0,_,_,_,_=>False
 | n+1,v4,h0,x0,ds=>if v4 != 0 then aX .i64 (bY v4 10)/\if decide (bY v4 10<0)then aX .i64 (0-bY v4 10)/\aX .i64 (48+(0-bY v4 10))/\aX .u8 (48+(0-bY v4 10))/\(aF h0+1)*1<=140737488355328/\aX .i64 (aQ v4 10)/\EJ n (aQ v4 10) (h0++[48+(0-bY v4 10)]) x0 ds else aX .i64 (48+bY v4 10)/\aX .u8 (48+bY v4 10)/\(aF h0+1)*1<=140737488355328/\aX .i64 (aQ v4 10)/\EJ n (aQ v4 10) (h0++[48+bY v4 10]) x0 ds else if decide (x0<0)then(aF h0+1)*1<=140737488355328/\aX .i64 ((↑(aF (h0++[45])):Int)-1)/\Kx n ((↑(aF (h0++[45])):Int)-1) (h0++[45]) ([]) ds else aX .i64 ((h0.length:Int)-1)/\Kx n ((h0.length:Int)-1) h0 ([]) ds
def Kx:Nat->Int->Γ Int->Γ Int->Γ aS->Prop
 | 0,_,_,_,_=>False
 | n+1,v7,h0,h1,ds=>if decide (v7>=0)then 0<=v7/\v7<(h0.length:Int)/\(aF h1+1)*1<=140737488355328/\aX .i64 (v7-1)/\Kx n (v7-1) h0 (h1++[aD h0 (aE v7) 0]) ds else ds=[aI .str (jQ h1)]
end
def aVy(ds:Γ aS)(K:fG)(q:Nat->Value):∀n,(∀ {x0},aND n x0 ds->St aNC (x0,()) ds [] K q)/\(∀ {v4 h0 x0},EJ n v4 h0 x0 ds->Cu aNC 5 ([eI 0 x0,eW 3 0,eI 4 v4],[cL (.int .u8) h0]) ds [] K q)/\(∀ {v7 h0 h1},Kx n v7 h0 h1 ds->Cu aNC 15 ([eW 3 0,eW 6 1,eI 7 v7],[cL (.int .u8) h0,cL (.int .u8) h1]) ds [] K q):=nI ⟨aH,aH,aH⟩ λn ⟨i,i5,i15⟩=>⟨bD cM<|bX i5,
  bD (pw 10<|aL<|bD (aL<|aL<|aL<|aL<|pw 10<|aL<|bX i5)<|aL<|aL<|aL<|pw 10<|aL<|bX i5)<|bD (aL<|aL<|bX i15)<|aL<|bX i15,
  bD (cP<|aL<|aL<|bX i15) cM⟩
def gV(x0:Int):Δ:=lD x0
theorem ja(xs:Γ Int):jQ xs=⟨⟨xs.map λn=>kJ n.toNat⟩⟩:=by
 have key:∀(xs:Γ Int) (s:Δ),(xs.foldl (λr n=>r.push (kJ n.toNat)) s).data.toList=s.data.toList++xs.map λn=>kJ n.toNat:=by
  intro xs
  induction xs with
  | nil=>simp
  | cons a r ih =>
   simp_all
 apply ByteArray.ext;apply Array.ext';unfold jQ;simp_all
theorem aKu(l:Γ UInt8):jQ (l.map λb=>(b.toNat:Int))=⟨⟨l⟩⟩:=by
 rw[ja]
 conv=>rhs;rw[<- Av l]
 grind [pM,UInt8.ofNat_toNat]
def rO(m:Nat):Γ Int:=if h:m=0 then [] else((48+m%10:Nat):Int)::rO (m/10)
termination_by m
decreasing_by omega
theorem aE3:rO 0=[]:=by rw[rO,dif_pos rfl]
theorem aCg{m:Nat}(h:m≠0):rO m=((48+m%10:Nat):Int)::rO (m/10):=by rw[rO,dif_neg h]
theorem aKv : ∀(k m:Nat), m<10^k->(rO m).length<=k
  | 0, m, h => by obtain rfl : m = 0 := by lia
                  simp[aE3]
  | k+1, m, h=>by
    by_cases h0:m = 0
    · rw[h0, aE3]; simp
    · rw[aCg h0, cH]
      have:=aKv k (m/10) (by lia)
      lia
theorem aKw(m:Nat)(h:m≠0):jQ (rO m).reverse=⟨⟨bJ m⟩⟩:=by
 have key:∀m:Nat,m≠0->(rO m).reverse=(bJ m).map λb=>(b.toNat:Int):=by
  intro m
  induction m using Hr with
  | _ m ih =>
   intro h;rw[aCg h,List.reverse_cons,bJ];have e:(kJ (48+m%10)).toNat=48+m%10:=by rw[rF];omega
   split
   ·rw[show m/10=0 by omega,aE3];have e':(kJ (48+m)).toNat=48+m%10:=by rw[rF];omega
    rw[OQ,e'];rfl
   ·rw[ih (m/10) (by omega) (by omega),mF,OQ,e]
 grind [aKu]
theorem jb(h0:Γ Int):∀(j:Nat) (h1:Γ Int),j<=h0.length->h1.length+j<=64->Kx (j+1) ((j:Int)-1) h0 h1 [⟨.str,jQ (h1++(h0.take j).reverse)⟩]
 | 0,h1,_,_=>by
  simp[Kx]
 | j+1,h1,hj,hl=>by
  have ih:=jb h0 j (h1++[h0.getD j 0]) (by lia) (by grind);have e:((j+1:Nat):Int)-1=(j:Int):=by lia
  rw[e];refine⟨by omega,by omega,by omega,by rw[aJ];omega,?_⟩;have et:(h0.take (j+1)).reverse=h0.getD j 0::(h0.take j).reverse:=by
   have hlt:j<h0.length:=by omega
   rw[iC,B0,bW,aV hlt];rfl
  rw[et];rw[cK]at ih;exact ih
theorem aNE(x0:Int)(h0:Γ Int)(hl:h0.length<=20):EJ ((if x0<0 then h0.length+1 else h0.length)+1+1) 0 h0 x0 [⟨.str,jQ ((if x0<0 then h0++[45] else h0)).reverse⟩]:=by
 rw[EJ];by_cases hx:x0<0
 ·have b:=jb (h0++[45]) (h0.length+1) [] (by simp) (by grind)
  grind [aJ]
 ·have b:=jb h0 h0.length [] (aU _) (by grind)
  grind [aJ]
theorem aVz(x0:Int)(ds:Γ aS)(F:Γ Int)(K:Nat)(hF:EJ K 0 F x0 ds):∀(m:Nat) (v:Int) (h0:Γ Int),(v=(m:Int)\/v = -(m:Int))->m<=9223372036854775808->aX .i64 v->h0.length+(rO m).length<=20->h0++rO m=F->EJ ((rO m).length+K) v h0 x0 ds:=by
 intro m
 induction m using Hr with
 | _ m ih =>
  intro v h0 hv hm hi hl he;by_cases h:m=0
  ·subst h;rw[aE3]at he ⊢
   grind
  ·have hr:=aCg h;rw[hr]at he hl ⊢;rw[cH]at hl ⊢;have hne:(v != 0)=true:=by
    lia
   have e1:(rO (m/10)).length+1+K=((rO (m/10)).length+K)+1:=by lia
   have next:∀v',(v'=((m/10:Nat):Int)\/v' = -((m/10:Nat):Int))->EJ ((rO (m/10)).length+K) v' (h0++[((48+m%10:Nat):Int)]) x0 ds:=λv' hv' =>
    ih (m/10) (by lia) v' _ hv' (by lia) (by grind [aJ]) (by grind) (by grind)
   rw[e1,EJ,π hne];rcases hv with rfl | rfl
   ·have t1:bY (m:Int) 10=((m%10:Nat):Int):=rfl;have t2:aQ (m:Int) 10=((m/10:Nat):Int):=rfl;rw[t1];refine⟨by grind [aJ],?_⟩;have e2:48+((m%10:Nat):Int)=((48+m%10:Nat):Int):=by lia
    exact⟨by grind [aJ],by grind [MQ],by lia,by grind [aJ],next _ (.inl rfl)⟩
   ·have t1:bY (-(m:Int)) 10 = -((m%10:Nat):Int):=by lia
    have t2:aQ (-(m:Int)) 10 = -((m/10:Nat):Int):=by lia
    rw[t1,t2];refine⟨by grind [aJ],?_⟩;by_cases hz:m%10=0
    ·rw[ν (by lia)];have e2:48 + -((m%10:Nat):Int)=((48+m%10:Nat):Int):=by lia
     rw[e2];exact⟨by grind [aJ],by grind [MQ],by lia,by grind [aJ],next _ (.inr rfl)⟩
    ·rw[π (by lia)];have e2:48+(0 - -((m%10:Nat):Int))=((48+m%10:Nat):Int):=by lia
     rw[e2];exact⟨by grind [aJ],by grind [aJ],by grind [MQ],by lia,by grind [aJ],next _ (.inr rfl)⟩
theorem aV0(x0:Int)(hi:aX .i64 x0):∃n,aND n x0 [⟨.str,gV x0⟩]:=by
 unfold gV lD Cq;by_cases h:x0=0
 ·subst h;refine⟨1,?_⟩;rw[aND,π (by rfl),ν (by decide)];have e:bJ (aE 0)=[48]:=by rw[bJ,dif_pos (by decide)];rfl
  rw[e]
 ·have hi':=hi;rw[aJ]at hi';have hn:x0.natAbs≠0:=by omega
  have hl:=aKv 19 x0.natAbs (by omega);refine⟨(rO x0.natAbs).length+((if x0<0 then(rO x0.natAbs).length+1 else(rO x0.natAbs).length)+1+1)+1,?_⟩;rw[aND,ν (by simpa using h)];have hlast:=aNE x0 (rO x0.natAbs) (by omega);have hrun:=aVz x0 _ (rO x0.natAbs) _ hlast x0.natAbs x0 [] (by omega) (by omega) hi (by simp;omega) rfl;have e:jQ (if x0<0 then rO x0.natAbs++[45] else rO x0.natAbs).reverse=⟨(if x0<0 then 45::bJ x0.natAbs else bJ x0.toNat).toArray⟩:=by
   by_cases hx:x0<0
   ·rw[π hx,π hx,B0];show jQ ((45:Int)::(rO x0.natAbs).reverse)=_;have:=aKw x0.natAbs hn;have e0:jQ ((45:Int)::(rO x0.natAbs).reverse)=⟨⟨45::(jQ (rO x0.natAbs).reverse).data.toList⟩⟩:=by rw[ja,ja];rfl
    rw[e0,this]
   ·rw[ν hx,ν hx,aKw x0.natAbs hn,show x0.natAbs=x0.toNat by omega]
  rw[e]at hrun;exact hrun
def Wt:KK:=mL aNC (DO pp) nP (gV,()) (λ⟨x0,_⟩ h hwf K q=>by
 obtain⟨n,hn⟩:=aV0 x0 hwf.1;exact(aVy _ K q n).1 hn)
def aV1:gC:=D0 pt [.v (.sl Za)] [.str] [Wt]
mutual
def aV2:Nat->Γ Int->Γ aS->Prop
 | 0,_,_=>False
 | n+1,x0,ds=>if(x0.length:Int)==0 then ds=[aI .str (aA #[45])] else NG n (aA #[]) 0 x0 ds
def NG:Nat->Δ->Int->Γ Int->Γ aS->Prop
 | 0,_,_,_,_=>False
 | n+1,v3,v4,x0,ds=>if decide (v4<(x0.length:Int))then(if decide (v4>0)then aG v3+1<=9223372036854775807/\0<=v4/\v4<(x0.length:Int)/\aG (v3++aA #[44])+aG (gV (aD x0 (aE v4) 0))<=9223372036854775807/\aX .i64 (v4+1)/\NG n (v3++aA #[44]++gV (aD x0 (aE v4) 0)) (v4+1) x0 ds else 0<=v4/\v4<(x0.length:Int)/\aG v3+aG (gV (aD x0 (aE v4) 0))<=9223372036854775807/\aX .i64 (v4+1)/\NG n (v3++gV (aD x0 (aE v4) 0)) (v4+1) x0 ds)else ds=[aI .str v3]
end
def aV3(ds:Γ aS)(K:fG)(q:Nat->Value):∀n,(∀ {x0},aV2 n x0 ds->St aV1 (x0,()) ds [] K q)/\(∀ {v3 v4 x0},NG n v3 v4 x0 ds->Cu aV1 5 ([eL 0 (.int .i64) x0,eS 3 v3,eI 4 v4],[]) ds [] K q):=nI ⟨aH,aH⟩ λn ⟨i,i5⟩=>⟨bD cM<|bX i5,
  bD (bD (aL<|cP<|bH<|aL<|aL<|bX i5)<|cP<|bH<|aL<|aL<|bX i5) cM⟩
def TR:Nat->Δ->Γ Int->Δ
 | _,o,[]=>o
 | i,o,x::r=>TR (i+1) ((if 0<i then o++aA #[44] else o)++gV x) r
def GY(x0:Γ Int):Δ:=if x0.length=0 then aA #[45] else TR 0 (aA #[]) x0
def aNF(x0:Γ Int):Prop:=x0.length<=1000/\∀x∈x0,aX .i64 x
theorem aV4(x0:Γ Int)(hm:x0.length<=1000)(hx:∀x∈x0,aX .i64 x):∀(k i:Nat) (o:Δ),i+k=x0.length->o.size<=22*i ->
  NG (k+1) o (i:Int) x0 [⟨.str,TR i o (x0.drop i)⟩]:=by
 intro k
 induction k with
 | zero =>
  intro i o hi ho;rw[NG,ν (by lia),sV x0 i (by lia)];rfl
 | succ k ih =>
  intro i o hi ho;have hlt:i<x0.length:=by lia
  have hr:=hx (x0.getD i 0) (cF x0 i 0 hlt);have hup:aX .i64 ((i:Int)+1):=iJ (xs:=x0) (by grind [maxLen]) hlt;rw[aJ]at hr;have hs:(gV (x0.getD i 0)).size<=21:=w5 _ (by lia) (by lia);rw[NG,dQ x0 i 0 hlt];unfold TR;have i44:(aA #[44]).size=1:=rfl
  grind
theorem aV5(x0:Γ Int)(h:aNF x0):aV2 (x0.length+1+1) x0 [⟨.str,GY x0⟩]:=by
 rw[aV2];unfold GY;by_cases h0:x0.length=0
 ·rw[π (by simp[h0]),π h0]
 ·rw[ν (by simp only[beq_iff_eq];omega),ν h0];exact aV4 x0 h.1 h.2 x0.length 0 (aA #[]) (by omega) (by decide)
def bD1:KK:=mL aV1 (DO pt) aNF (GY,()) (λ⟨x0,_⟩ h hwf K q =>
 (aV3 _ K q _).1 (aV5 x0 h))
def aNG(x0:Int):Prop:=if !cG x0 0 11 then True else 0<=x0/\x0<12/\True
def Wu(x0:Int):Δ:=if !cG x0 0 11 then aA #[] else aD [aA #[111,107],aA #[105,110,118,97,108,105,100],aA #[114,97,110,103,101],aA #[110,111,116,45,102,111,117,110,100],aA #[101,120,105,115,116,115],aA #[102,117,108,108],aA #[115,116,97,116,101],aA #[111,114,100,101,114],aA #[115,121,110,116,97,120],aA #[102,111,114,109,97,116],aA #[99,104,101,99,107,115,117,109],aA #[116,114,117,110,99,97,116,101,100]] (aE x0) aC
def bD2:KK:=mB Tryz.func245 [.v (.int .i64)] [.str] [lO] aNG (Wu,()) λ_=>sQ ((by decide):aX .i64 11)<|bH<|lT pr<|cP pr
def NH(x0:Int):Prop:=if x0==0 then True else aNG x0/\6+aG (Wu x0)<=9223372036854775807/\True
def tN(x0:Int):Γ Δ:=if x0==0 then [aA #[111,107]] else [aA #[101,114,114,111,114,32]++Wu x0]
def aE4:KK:=mB Tryz.func156 [.v (.int .i64)] [.sl .str] [bD2] NH (tN,()) λ_=>lT pr<|aL<|aL pr
def aV6:gC:=D0 pu [.v (.sl .str),.v (.int .i64)] [.sl .str] [aE4]
mutual
def aV7:Nat->Γ Δ->Int->Γ aS->Prop
 | 0,_,_,_=>False
 | n+1,x0,x1,ds=>if x1 != 0 then NH x1/\ds=[aI (.sl .str) (tN x1)] else if(x0.length:Int)==0 then ds=[aI (.sl .str) [aA #[110,111,110,101]]] else JY n 0 ([]) x0 ds
def JY:Nat->Int->Γ Δ->Γ Δ->Γ aS->Prop
 | 0,_,_,_,_=>False
 | n+1,v6,h0,x0,ds=>if decide (v6<(x0.length:Int))then 0<=v6/\v6<(x0.length:Int)/\if aB (aD x0 (aE v6) aC)==aB (aA #[])then(aF h0+1)*16<=140737488355328/\aX .i64 (v6+1)/\JY n (v6+1) (h0++[aA #[110,111,110,101]]) x0 ds else 0<=v6/\v6<(x0.length:Int)/\(aF h0+1)*16<=140737488355328/\aX .i64 (v6+1)/\JY n (v6+1) (h0++[aD x0 (aE v6) aC]) x0 ds else ds=[aI (.sl .str) h0]
end
def aV8(ds:Γ aS)(K:fG)(q:Nat->Value):∀n,(∀ {x0 x1},aV7 n x0 x1 ds->St aV6 (x0,x1,()) ds [] K q)/\(∀ {v6 h0 x0},JY n v6 h0 x0 ds->Cu aV6 7 ([eL 0 .str x0,eW 5 0,eI 6 v6],[cL .str h0]) ds [] K q):=nI ⟨aH,aH⟩ λn ⟨i,i7⟩=>⟨bD (aL cM)<|bD cM<|bX i7,
  bD (cP<|bD (aL<|aL<|bX i7)<|cP<|aL<|aL<|bX i7) cM⟩
def TS(s:Δ):Δ:=if(aB s==aB (aA #[]))=true then aA #[110,111,110,101] else s
def AA(x0:Γ Δ)(x1:Int):Γ Δ:=if x1 != 0 then tN x1 else if(x0.length:Int)==0 then [aA #[110,111,110,101]] else x0.map TS
def Wv(x0:Γ Δ)(x1:Int):Prop:=(x1≠0->NH x1)/\x0.length<=1048576
theorem aV9(x0:Γ Δ)(hm:x0.length<=1048576):∀(k i:Nat) (h0:Γ Δ),i+k=x0.length->h0.length=i->JY (k+1) (i:Int) h0 x0 [⟨.sl .str,h0++(x0.drop i).map TS⟩]:=by
 intro k
 induction k with
 | zero =>
  intro i h0 hi hl;rw[JY,ν (by lia),bT (by lia),Bj,dN]
 | succ k ih =>
  intro i h0 hi hl;have hlt:i<x0.length:=by lia
  have e3:(i:Int)+1=((i+1:Nat):Int):=by lia
  have hu:aX .i64 ((i+1:Nat):Int):=by grind [aJ]
  rw[JY,π (by lia),dQ x0 i aC hlt,dY,aK];generalize x0.getD i aC=s at *;have step:∀y,JY (k+1) ((i+1:Nat):Int) (h0++[y]) x0 [⟨.sl .str,h0++y::(x0.drop (i+1)).map TS⟩]:=λy=>by
   have:=ih (i+1) (h0++[y]) (by lia) (by grind)
   grind
  refine⟨by lia,by lia,?_⟩;unfold TS;by_cases c:(aB s==aB (aA #[]))=true
  ·refine(π c).mpr ⟨by lia,hu,?_⟩;rw[π c];exact step _
  ·refine(ν c).mpr ⟨by lia,by lia,by lia,hu,?_⟩;rw[ν c];exact step _
theorem aVA(x0:Γ Δ)(x1:Int)(h:Wv x0 x1):aV7 (x0.length+1+1) x0 x1 [⟨.sl .str,AA x0 x1⟩]:=by
 rw[aV7];unfold AA;by_cases c:(x1 != 0)=true
 ·refine(π c).mpr ⟨h.1 (by simpa using c),?_⟩;rw[π c]
 ·refine(ν c).mpr ?_;rw[ν c];by_cases d:((x0.length:Int)==0)=true
  ·refine(π d).mpr ?_;rw[π d]
  ·refine(ν d).mpr ?_;rw[ν d];exact aV9 x0 h.2 x0.length 0 [] (by omega) rfl
def xz:KK:=mL aV6 (DO pu) Wv (AA,()) (λ⟨x0,x1,_⟩ h hwf K q =>
 (aV8 _ K q _).1 (aVA x0 x1 h))
def aCh(x0:Γ Int)(x1:Int):Prop:=((aNF x0)/\((Wv [GY x0] x1)/\True))
def NI(x0:Γ Int)(x1:Int):Γ Δ:=AA [GY x0] x1
def aKx:KK:=mB Tryz.func149 [.v (.sl Za),.v (.int .i64)] [.sl .str] [bD1,xz] aCh (NI,()) λ_=>aL<|aL pr
def AB(x0:bP)(x1:bP):Bool:=if IntKind.wrap IntKind.i64 (↑(BitVec.toNat (fY 64 x0.2.1 &&& fY 64 x1.2.1)):Int)==x1.2.1 then decide (x0.2.2.1<=x1.2.2.1)else false
def aKy:KK:=mB Tryz.func239 [.p c8,.p c8] [.bool] [] nP (AB,()) λ_=>dS pr pr
end
def kLp(rec:Γ Int->Γ Bool->Int->Bool×Γ Int×Γ Bool)(c:Nat->Bool)(t:Int):Nat->Nat->Γ Int->Γ Bool->Bool×Γ Int×Γ Bool
 | 0,_,o,s=>(false,o,s)
 | k+1,h,o,s=>if s.getD h false=true\/c h=false then kLp rec c t k (h+1) o s else
  if o.getD h 0<0 then(true,o.set h t,s.set h true)else
  let r:=rec o (s.set h true) (o.getD h 0)
  if r.1=true then(true,r.2.1.set h t,r.2.2)else kLp rec c t k (h+1) r.2.1 r.2.2
def kGv(c:Nat->Nat->Bool)(n:Nat):Nat->Γ Int->Γ Bool->Int->Bool×Γ Int×Γ Bool
 | 0,o,s,_=>(false,o,s)
 | f+1,o,s,t=>kLp (kGv c n f) (λh=>c h t.toNat) t n 0 o s
theorem aNH{α}(l:Γ α)(a j:Nat)(v d:α)(h:a<l.length):(l.set a v).getD j d=if a=j then v else l.getD j d:=by
 grind
theorem aE5(x v:Int):∀(l:Γ Int) (a:Nat),a<l.length->(l.set a v).count x+(if l.getD a 0=x then 1 else 0)=l.count x+(if v=x then 1 else 0)
 | [],a,h=>by simp at h
 | y::l,0,_=>by
  show (v::l).count x+(if y=x then 1 else 0)=_;simp only[vT,beq_iff_eq];omega
 | y::l,a+1,h=>by
  have:=aE5 x v l a (by simpa using h);show (y::l.set a v).count x+(if l.getD a 0=x then 1 else 0)=_;simp only[vT,beq_iff_eq];omega
def wJ(s:Γ Bool):Nat:=s.count false
theorem NJ:∀(s:Γ Bool) (a:Nat),a<s.length->s.getD a false=false->wJ (s.set a true)+1=wJ s
 | [],a,h,_=>by grind
 | y::s,0,_,e=>by
  obtain rfl:y=false:=e;simp[wJ]
 | y::s,a+1,h,e=>by
  have:=NJ s a (by simpa using h) e;show (y::s.set a true).count false+1=(y::s).count false;unfold wJ at this;rw[vT,vT];omega
structure KOk (c:Nat->Nat->Bool) (n:Nat) (o:Γ Int) (s:Γ Bool) (t:Int) (P:Nat->Prop) (r:Bool×Γ Int×Γ Bool):Prop where
 lo:r.2.1.length=n
 ls:r.2.2.length=n
 up:∀h:Nat,s.getD h false=true->r.2.2.getD h false=true
 less:wJ r.2.2<=wJ s
 no:r.1=false->r.2.1=o/\(∀h:Nat,P h->h<n->c h t.toNat=true->r.2.2.getD h false=true)/\∀h:Nat,h<n->r.2.2.getD h false=true->s.getD h false=true\/(0<=o.getD h 0/\∀j:Nat,j<n->c j (o.getD h 0).toNat=true->r.2.2.getD j false=true)
 yes:r.1=true->(∀h:Nat,s.getD h false=true->r.2.1.getD h 0=o.getD h 0)/\(∀x:Int,0<=x->r.2.1.count x=o.count x+if t=x then 1 else 0)/\∀h:Nat,h<n->r.2.1.getD h 0=o.getD h 0\/(0<=r.2.1.getD h 0/\c h (r.2.1.getD h 0).toNat=true)
variable {c:Nat->Nat->Bool}
theorem aVB{n f:Nat}{t:Int}(ht:0<=t)(ih:∀(o:Γ Int) (s:Γ Bool) (t:Int),0<=t->o.length=n->s.length=n->wJ s<f->KOk c n o s t (λ_=>True) (kGv c n f o s t)) :
  ∀(k h:Nat) (o:Γ Int) (s:Γ Bool),h+k=n->o.length=n->s.length=n->wJ s<f+1->KOk c n o s t (λj=>h<=j) (kLp (kGv c n f) (λh=>c h t.toNat) t k h o s):=by
 intro k
 induction k with
 | zero =>
  intro h o s hk ho hs hu;exact⟨ho,hs,λ_ h=>h,aU _,λ_=>⟨rfl,λj hj hn=>by lia,λj _ hj => .inl hj⟩,λe=>by cases e⟩
 | succ k ihk =>
  intro h o s hk ho hs hu;rw[kLp];by_cases c1:s.getD h false=true\/c h t.toNat=false
  ·rw[π c1];have q:=ihk (h+1) o s (by lia) ho hs hu;refine⟨q.lo,q.ls,q.up,q.less,λe=>⟨(q.no e).1,λj hj hn hc=>?_,(q.no e).2.2⟩,q.yes⟩;by_cases e2:j=h
   ·subst e2;rcases c1 with c1 | c1
    ·exact q.up _ c1
    lia
   ·exact(q.no e).2.1 j (by lia) hn hc
  ·rw[ν c1];have c2:s.getD h false=false/\c h t.toNat=true:=by
    lia
   have us:=NJ s h (by lia) c2.1;have ls:(s.set h true).length=n:=by grind
   have up:∀j:Nat,s.getD j false=true->(s.set h true).getD j false=true:=λj hj=>by
    grind
   by_cases c3:o.getD h 0<0
   ·rw[π c3];refine⟨by grind,ls,up,by lia,λe=>(by lia),λ_=>⟨λj hj=>?_,λx hx=>?_,λj hj=>?_⟩⟩
    all_goals grind
   ·rw[ν c3];have q:=ih o (s.set h true) (o.getD h 0) (by lia) ho ls (by lia);generalize kGv c n f o (s.set h true) (o.getD h 0)=r at *;have rs:r.2.2.getD h false=true:=q.up h (by grind);by_cases c4:r.1=true
    ·show KOk c n o s t _ (if r.1=true then _ else _);rw[π c4];obtain⟨y1,y2,y3⟩:=q.yes c4;have gh:r.2.1.getD h 0=o.getD h 0:=y1 h (by grind);refine⟨by show (r.2.1.set h t).length=n;rw[vS];exact q.lo,q.ls,λj hj=>q.up j (up j hj),by show wJ r.2.2<=_;have:=q.less;lia,λe=>(by lia),λ_=>⟨λj hj=>?_,λx hx=>?_,λj hj=>?_⟩⟩
     ·grind
     ·have:=aE5 x t r.2.1 h (by rw[q.lo];lia)
      grind
     ·rw[aNH r.2.1 h j t 0 (by rw[q.lo];lia)]
      grind
    ·show KOk c n o s t _ (if r.1=true then _ else _);rw[ν c4];obtain⟨n1,n2,n3⟩:=q.no (bV.2 c4);have ql:=q.less;have p:=ihk (h+1) r.2.1 r.2.2 (by lia) q.lo q.ls (by lia);rw[n1]at p ⊢;refine⟨p.lo,p.ls,λj hj=>p.up j (q.up j (up j hj)),by have:=p.less;lia,λe=>?_,λe=>?_⟩
     ·obtain⟨m1,m2,m3⟩:=p.no e;refine⟨m1,λj hj hn hc=>?_,λj hn hj=>?_⟩
      ·by_cases e2:j=h
       ·subst e2;exact p.up _ rs
       grind
      ·rcases m3 j hn hj with a | a
       ·rcases n3 j hn a with b | b
        ·by_cases e2:h=j
         ·subst e2;exact .inr ⟨by lia,λi hi hc=>p.up i (n2 i trivial hi hc)⟩
         grind
        ·exact .inr ⟨b.1,λi hi hc=>p.up i (b.2 i hi hc)⟩
       lia
     ·obtain⟨m1,m2,m3⟩:=p.yes e;exact⟨λj hj=>m1 j (q.up j (up j hj)),m2,m3⟩
theorem jc(c:Nat->Nat->Bool)(n:Nat):∀(f:Nat) (o:Γ Int) (s:Γ Bool) (t:Int),0<=t->o.length=n->s.length=n->wJ s<f->KOk c n o s t (λ_=>True) (kGv c n f o s t)
 | 0,o,s,t,_,_,_,h=>absurd h (Hk _)
 | f+1,o,s,t,ht,ho,hs,h=>by
  have q:=aVB (f:=f) ht (jc c n f) n 0 o s (by lia) ho hs h;exact⟨q.lo,q.ls,q.up,q.less,λe=>⟨(q.no e).1,λj _=>(q.no e).2.1 j (aY _),(q.no e).2.2⟩,q.yes⟩
theorem UN{α}[BEq α][LawfulBEq α]:∀(l m:Γ α),l.Nodup->(∀x∈l,x∈m)->l.length<=m.length
 | [],m,_,_=>aY _
 | a::l,m,hd,h=>by
  obtain⟨h1,h2⟩:=jH.1 hd;have ha:=h a (aR ..);have:=UN l (m.erase a) h2 (λx hx=>(List.mem_erase_of_ne (λe=>h1 (by subst e;exact hx))).2 (h x (aM _ hx)));rw[List.length_erase_of_mem ha]at this;have:=List.length_pos_of_mem ha;simp only[cH];omega
def Fl(c:Nat->Nat->Bool)(n:Nat):Nat->Nat->Γ Int->Prop
 | 0,_,_=>True
 | k+1,t,u=>∃h:Nat,h<n/\(h:Int) ∉ u/\c h t=true/\Fl c n k (t+1) (u++[(h:Int)])
theorem aRb{c:Nat->Nat->Bool}{n:Nat}:∀ {k t:Nat} {u:Γ Int},Fl c n k t u->∃g:Nat->Nat,∀i,t<=i->i<t+k->g i<n/\((g i:Nat):Int) ∉ u/\c (g i) i=true/\∀j,t<=j->j<t+k->g i=g j->i=j
 | 0,t,u,_=>⟨λ_=>0,λi h1 h2=>by lia⟩
 | k+1,t,u,⟨h,h1,h2,h3,h4⟩=>by
  obtain⟨g,hg⟩:=aRb h4;refine⟨λi=>if i=t then h else g i,λi a b=>?_⟩
  grind
structure Mt (c:Nat->Nat->Bool) (n t:Nat) (o:Γ Int):Prop where
 len:o.length=n
 one:∀x:Int,0<=x->o.count x=if x<(t:Int)then 1 else 0
 can:∀h:Nat,h<n->0<=o.getD h 0->c h (o.getD h 0).toNat=true
theorem cy{x:Int}:∀ {o:Γ Int} {i j:Nat},o.count x<=1->i<o.length->j<o.length->o.getD i 0=x->o.getD j 0=x->i=j
 | [],i,j,_,h,_,_,_=>by grind
 | y::o,i,j,h,hi,hj,a,b=>by
  rw[vT]at h;cases i with
  | zero =>
   grind
  | succ i =>
   cases j with
   | zero =>
    grind
   | succ j=>rw[cy (o:=o) (i:=i) (j:=j) (by omega) (by simpa using hi) (by simpa using hj) a b]
theorem bD3{n T t:Nat}{o:Γ Int}{u:Γ Bool}(hm:Mt c n t o)(ht:t<T)(hc:∀h:Nat,h<n->c h t=true->u.getD h false=true)
  (ho:∀h:Nat,h<n->u.getD h false=true->0<=o.getD h 0/\∀j:Nat,j<n->c j (o.getD h 0).toNat=true->u.getD j false=true):¬Fl c n T 0 []:=by
 intro hf;obtain⟨g,hg⟩:=aRb hf
 let S:Γ Nat:=(HN n).filter λh=>u.getD h false
 have hS:∀h,h∈S↔h<n/\u.getD h false=true:=λh=>by simp[S]
 have hlt:∀h∈S,(o.getD h 0).toNat<t:=λh hh=>by
  obtain⟨a,b⟩:=(hS h).1 hh;have h0:=(ho h a b).1;have hp:0<o.count (o.getD h 0):=by
   rw[kV,bW,aV (by rw[hm.len];exact a)];exact uN _
  rw[hm.one _ h0]at hp;split at hp <;> omega
 have hnd:S.Nodup:=Se.filter _;have key:=UN ((t::S.map λh=>(o.getD h 0).toNat).map g) S ?_ ?_
 ·simp only[eV,cH]at key;omega
 ·have hb:∀i∈(t::S.map λh=>(o.getD h 0).toNat),i<T:=λi hi=>by
   rcases bA.1 hi with rfl | hi
   ·exact ht
   ·obtain⟨h,hh,rfl⟩:=cW.1 hi;have:=hlt h hh;omega
  have n2:(t::S.map λh=>(o.getD h 0).toNat).Nodup:=by
   rw[jH];refine⟨λhi=>?_,?_⟩
   ·obtain⟨h,hh,e⟩:=cW.1 hi;have:=hlt h hh;omega
   ·refine QS.2 (List.Pairwise.imp_of_mem ?_ hnd);intro a b ha hb' hne e;obtain⟨a1,a2⟩:=(hS a).1 ha;obtain⟨b1,b2⟩:=(hS b).1 hb';have pa:=(ho a a1 a2).1;have pb:=(ho b b1 b2).1;refine hne (cy (x:=o.getD a 0) (o:=o) ?_ (by rw[hm.len];exact a1) (by rw[hm.len];exact b1) rfl (by omega));rw[hm.one _ pa];split <;> omega
  refine QS.2 (List.Pairwise.imp_of_mem ?_ n2);intro a b ha hb' hne e;exact hne ((hg a (aY _) (by have:=hb a ha;omega)).2.2.2 b (aY _) (by have:=hb b hb';omega) e)
 ·intro x hx;obtain⟨i,hi,rfl⟩:=cW.1 hx;rcases bA.1 hi with rfl | hi
  ·obtain⟨q1,_,q3,_⟩:=hg i (aY _) (by omega);exact(hS _).2 ⟨q1,hc _ q1 q3⟩
  ·obtain⟨h,hh,rfl⟩:=cW.1 hi;obtain⟨a,b⟩:=(hS h).1 hh;have:=hlt h hh;obtain⟨q1,_,q3,_⟩:=hg (o.getD h 0).toNat (aY _) (by omega);exact(hS _).2 ⟨q1,(ho h a b).2 _ q1 q3⟩
theorem aVC{n:Nat}{o:Γ Int}{s:Γ Bool}{t T:Int}{P:Nat->Prop}{r:Bool×Γ Int×Γ Bool}(q:KOk c n o s t P r)(ht:0<=t/\t<T)(ho:∀h:Nat,o.getD h 0<T)(h:Nat):r.2.1.getD h 0<T:=by
 cases e:r.1 with
 | false=>rw[(q.no e).1];exact ho h
 | true =>
  by_cases hl:h<r.2.1.length
  ·by_cases h0:r.2.1.getD h 0<0
   ·omega
   ·have hc:=(q.yes e).2.1 (r.2.1.getD h 0) (by omega);have hp:0<r.2.1.count (r.2.1.getD h 0):=by
     rw[kV];exact cF r.2.1 h 0 hl
    by_cases ex:t=r.2.1.getD h 0
    ·omega
    ·rw[ν ex]at hc;obtain⟨j,hj,ej⟩:=pN (kV.1 (show 0<o.count (r.2.1.getD h 0)by omega));have:=ho j;rw[bW,aV hj]at this;have:o[j]<T:=this;omega
  ·rw[bW,List.getElem?_eq_none (by omega)];show (0:Int)<T;omega
def kMs(c:Nat->Nat->Bool)(n:Nat):Nat->Nat->Γ Int->Int->Int
 | 0,_,_,m=>m
 | k+1,t,o,m=>let r:=kGv c n 2000 o (aP n false) (t:Int)
  kMs c n k (t+1) r.2.1 (if r.1=true then m+1 else m)
theorem aCi(c:Nat->Nat->Bool)(n:Nat):∀(k t:Nat) (o:Γ Int) (m:Int),kMs c n k t o m<=m+k
 | 0,_,_,m=>by simp[kMs]
 | k+1,t,o,m=>by
  refine Int.le_trans (aCi c n k _ _ _) ?_
  lia
theorem aRc{c:Nat->Nat->Bool}{n T:Nat}{o:Γ Int}(hm:Mt c n T o):∀(k t:Nat) (u:Γ Int),t+k=T->(∀h:Nat,(h:Int)∈u->0<=o.getD h 0/\o.getD h 0<(t:Int))->Fl c n k t u
 | 0,_,_,_,_=>trivial
 | k+1,t,u,ht,hu=>by
  have h1:0<o.count (t:Int):=by rw[hm.one _ (by lia)];lia
  obtain⟨h,hh,e⟩:=pN (kV.1 h1);have eg:o.getD h 0=(t:Int):=by grind
  rw[hm.len]at hh;have:=hm.can h hh (by lia);rw[eg]at this;refine⟨h,hh,λhm'=>?_,this,aRc hm k (t+1) _ (by lia) λj hj=>?_⟩
  ·grind
  ·rcases dC.1 hj with hj | hj
   ·grind
   ·obtain rfl:j=h:=by grind
    lia
theorem aE6{c:Nat->Nat->Bool}{n T:Nat}(hn:n<2000):∀(k t:Nat) (o:Γ Int) (m:Int),t+k=T->Mt c n t o->(kMs c n k t o m=m+k↔Fl c n T 0 [])
 | 0,t,o,m,ht,hm=>by
  grind [aRc,kMs]
 | k+1,t,o,m,ht,hm=>by
  have q:=jc c n 2000 o (aP n false) (t:Int) (by lia) hm.len (by simp) (by grind [wJ]);rw[kMs];generalize kGv c n 2000 o (aP n false) (t:Int)=r at *;by_cases e:r.1=true
  ·obtain⟨y1,y2,y3⟩:=q.yes e;rw[π e,show m+((k+1:Nat):Int)=m+1+(k:Int)by lia];refine aE6 hn k (t+1) r.2.1 (m+1) (by lia) ⟨q.lo,λx hx=>?_,λh hh h0=>?_⟩
   ·rw[y2 x hx,hm.one x hx]
    lia
   ·rcases y3 h hh with e2 | e2
    ·rw[e2]at h0 ⊢;exact hm.can h hh h0
    lia
  ·obtain⟨n1,n2,n3⟩:=q.no (bV.2 e);have:=aCi c n k (t+1) r.2.1 m;refine⟨λh=>by lia,λh=>absurd h (bD3 (u:=r.2.2) hm (by lia) (λj hj hc=>n2 j trivial hj (by grind)) λj hj hs=>?_)⟩
   grind
theorem aKz(c:Nat->Nat->Bool){n:Nat}(hn:n<2000)(T:Nat):kMs c n T 0 (aP n (-1)) 0=(T:Int)↔Fl c n T 0 []:=by
 have:=aE6 (c:=c) (T:=T) hn T 0 (aP n (-1)) 0 (by omega) ⟨by simp,λx hx=>by
  rw[ν (by omega),List.count_replicate,ν (by simp;omega)],λh hh h0=>by
  rw[bW,p9,π hh]at h0;simp at h0⟩
 rwa [Int.zero_add]at this
noncomputable section
def Ak(x0 x1:Γ F3)(h t:Nat):Bool:=AB (x0.getD h (aC,0,0,())) (x1.getD t (aC,0,0,()))
def tO(k:Nat)(x0 x1:Γ F3)(x2:Γ Int)(x3:Γ Bool)(x4:Int):Bool×Γ Int×Γ Bool:=kGv (Ak x0 x1) x0.length k x2 x3 x4
def aK0(k:Nat)(x0 x1:Γ F3)(x2:Γ Int)(x3:Γ Bool)(x4:Int):Prop:=x2.length=x0.length/\x3.length=x0.length/\wJ x3<k/\(0<=x4/\x4<(x1.length:Int))/\(∀h:Nat,x2.getD h 0<(x1.length:Int))/\x0.length<=1000
def cz(k:Nat):Am.Spec:={ sig:=[nV (.sl c8),nV (.sl c8),rE (.int .i64),rE .bool,nV (.int .i64)],pre:=λ⟨x0,x1,x2,x3,x4,_⟩=>aK0 k x0 x1 x2 x3 x4,upd:=λ⟨x0,x1,x2,x3,x4,_⟩=>[some ⟨.int .i64,(tO k x0 x1 x2 x3 x4).2.1⟩,some ⟨.bool,(tO k x0 x1 x2 x3 x4).2.2⟩],res:=λ⟨x0,x1,x2,x3,x4,_⟩=>[⟨.bool,(tO k x0 x1 x2 x3 x4).1⟩] }
def aK1(kk:Nat):Aw:=[(239,aKy.S),(355,cz kk)]
def aK2(kk:Nat)(ih:Con aN 355 (cz kk)):rM aN (aK1 kk):=⟨aKy.h,ih,trivial⟩
def aVD:Γ AT:=[nV (.sl c8),nV (.sl c8),rE (.int .i64),rE .bool,nV (.int .i64)]
def aVE(kk:Nat):gC:=⟨355,Tryz.f355,aVD,[.bool],[],aK1 kk,false,[]⟩
def bJw(kk:Nat)(ih:Con aN 355 (cz kk)):Fok aN tab (aVE kk):=⟨px,Ah,(aK2 kk ih),mixed⟩
def aVF(v11:Int)(x0:Γ bP)(x1:Γ bP)(x4:Int)(x2:Γ Int)(x3:Γ Bool):gH×bM:=([eL 0 c8 x0,eL 1 c8 x1,eW 2 0,eW 3 1,eI 4 x4,eI 11 v11],[cL (.int .i64) x2,cL .bool x3])
mutual
def bD4(kk:Nat):Nat->Γ bP->Γ bP->Γ Int->Γ Bool->Int->Γ aS->Γ (Option jD)->Prop
 | 0,_,_,_,_,_,_,_=>False
 | n+1,x0,x1,x2,x3,x4,ds,us=>(JZ kk n (0) (x0) (x1) (x4) (x2) (x3) ds us)
def JZ(kk:Nat):Nat->Int->Γ bP->Γ bP->Int->Γ Int->Γ Bool->Γ aS->Γ (Option jD)->Prop
 | 0,_,_,_,_,_,_,_,_=>False
 | n+1,v11,x0,x1,x4,x2,x3,ds,us=>(if decide (v11<(x0.length:Int))=true then((0<=v11)/\(v11<(x3.length:Int))/\(if aD x3 (aE v11) false=true then((aX .i64 (v11+1))/\(JZ kk n (v11+1) (x0) (x1) (x4) (x2) (x3) ds us))else((0<=v11)/\(v11<(x0.length:Int))/\((0<=x4)/\(x4<(x1.length:Int))/\(if(!AB (aD x0 (aE v11) (aC,0,0,())) (aD x1 (aE x4) (aC,0,0,())))=true then((aX .i64 (v11+1))/\(JZ kk n (v11+1) (x0) (x1) (x4) (x2) (x3) ds us))else((0<=v11)/\(v11<(x3.length:Int))/\((0<=v11)/\(v11<(x2.length:Int))/\(if decide (aD x2 (aE v11) 0<0)=true then((0<=v11)/\(v11<(x2.length:Int))/\(ds=[aI .bool true]/\us=[some (iX (.int .i64) (eU x2 (aE v11) x4)),some (iX .bool (eU x3 (aE v11) true))]))else((0<=v11)/\(v11<(x2.length:Int))/\(((cz kk).2 (x0,x1,x2,eU x3 (aE v11) true,aD x2 (aE v11) 0,()))/\(aF (tO kk x0 x1 x2 (eU x3 (aE v11) true) (aD x2 (aE v11) 0)).2.1=aF x2)/\(aF (tO kk x0 x1 x2 (eU x3 (aE v11) true) (aD x2 (aE v11) 0)).2.2=aF (eU x3 (aE v11) true))/\(if(tO kk x0 x1 x2 (eU x3 (aE v11) true) (aD x2 (aE v11) 0)).1=true then((0<=v11)/\(v11<(↑(aF (tO kk x0 x1 x2 (eU x3 (aE v11) true) (aD x2 (aE v11) 0)).2.1):Int))/\(ds=[aI .bool true]/\us=[some (iX (.int .i64) (eU (tO kk x0 x1 x2 (eU x3 (aE v11) true) (aD x2 (aE v11) 0)).2.1 (aE v11) x4)),some (iX .bool (tO kk x0 x1 x2 (eU x3 (aE v11) true) (aD x2 (aE v11) 0)).2.2)]))else((aX .i64 (v11+1))/\(JZ kk n (v11+1) (x0) (x1) (x4) (tO kk x0 x1 x2 (eU x3 (aE v11) true) (aD x2 (aE v11) 0)).2.1 (tO kk x0 x1 x2 (eU x3 (aE v11) true) (aD x2 (aE v11) 0)).2.2 ds us)))))))))))))else(ds=[aI .bool false]/\us=[some (iX (.int .i64) x2),some (iX .bool x3)]))
end
theorem aVG(kk:Nat)(ds:Γ aS)(us:Γ (Option jD))(K:fG)(q:Nat->Value):∀n,(∀ {x0 x1 x2 x3 x4},bD4 kk n x0 x1 x2 x3 x4 ds us->St (aVE kk) (x0,x1,x2,x3,x4,()) ds us K q)/\(∀ {v11 x0 x1 x4 x2 x3},JZ kk n v11 x0 x1 x4 x2 x3 ds us->Cu (aVE kk) 2 (aVF v11 x0 x1 x4 x2 x3) ds us K q):=by
 intro n
 induction n with
 | zero=>exact⟨λh=>h.elim,λh=>h.elim⟩
 | succ n ih =>
 obtain⟨i,i2⟩:=ih;exact⟨λh=>jp (i2 h),
  λh=>bR h (λh=>c2 h λh=>bR h (λh=>tT<|c1 h λh=>jp (i2 h)) λh=>c2 h λh=>c2 h λh=>tv<|bR h (λh=>c1 h λh=>jp (i2 h)) λh=>c2 h λh=>c2 h λh=>bR h (λh=>tT<|c2 h λh=>ru h) λh=>c2 h λh=>c3 h λh=>bR h (λh=>c2 h λh=>ru h) λh=>c1 h λh=>jp (i2 h)) λh=>ru h⟩
def aVH(r:Bool×Γ Int×Γ Bool):Γ (Option jD):=[some ⟨.int .i64,r.2.1⟩,some ⟨.bool,r.2.2⟩]
theorem aVI(kk:Nat)(x0 x1:Γ F3)(x4:Int)(h4:0<=x4/\x4<(x1.length:Int))(h5:x0.length<=1000):∀(k i:Nat) (o:Γ Int) (s:Γ Bool),i+k=x0.length->o.length=x0.length->s.length=x0.length->wJ s<kk+1->(∀h:Nat,o.getD h 0<(x1.length:Int)) ->
  JZ kk (k+1) (i:Int) x0 x1 x4 o s [⟨.bool,(kLp (kGv (Ak x0 x1) x0.length kk) (λh=>Ak x0 x1 h x4.toNat) x4 k i o s).1⟩] (aVH (kLp (kGv (Ak x0 x1) x0.length kk) (λh=>Ak x0 x1 h x4.toNat) x4 k i o s)):=by
 intro k
 induction k with
 | zero =>
  intro i o s hi ho hs hu hb;rw[JZ,ν (by lia)];exact⟨rfl,rfl⟩
 | succ k ih =>
  intro i o s hi ho hs hu hb;have e3:(i:Int)+1=((i+1:Nat):Int):=by lia
  have ii:aX .i64 ((i+1:Nat):Int):=by grind [aJ]
  rw[JZ,π (by lia),e3,aK];refine⟨by lia,by lia,?_⟩;rw[kLp];by_cases c1:s.getD i false=true
  ·grind
  ·refine(ν c1).mpr ⟨by lia,by lia,h4.1,h4.2,?_⟩;by_cases c2:Ak x0 x1 i x4.toNat=true
   ·have c2':¬(!AB (x0.getD i (aC,0,0,())) (x1.getD x4.toNat (aC,0,0,())))=true:=by
     rw[show AB (x0.getD i (aC,0,0,())) (x1.getD x4.toNat (aC,0,0,()))=true from c2];lia
    have cs:s.getD i false=false:=Hb c1;simp only[ν (show ¬(s.getD i false=true\/Ak x0 x1 i x4.toNat=false)from λh=>h.elim c1 (λh=>by lia))];refine(ν c2').mpr ⟨by lia,by lia,by lia,by lia,?_⟩;by_cases c3:o.getD i 0<0
    ·simp only[π c3];exact(π (decide_eq_true c3)).mpr ⟨by lia,by lia,trivial,rfl⟩
    ·simp only[ν c3];have us:=NJ s i (by lia) cs;have q:=jc (Ak x0 x1) x0.length kk o (s.set i true) (o.getD i 0) (by lia) ho (by grind) (by lia);refine(ν (by lia)).mpr ⟨by lia,by lia,?_,?_,?_,?_⟩
     ·exact⟨ho,by grind,by lia,⟨by lia,hb i⟩,hb,h5⟩
     ·exact q.lo.trans ho.symm
     ·exact q.ls.trans (by grind)
     ·unfold tO;generalize kGv (Ak x0 x1) x0.length kk o (s.set i true) (o.getD i 0)=r at *;by_cases c4:r.1=true
      ·simp only[π c4];exact⟨by lia,by rw[q.lo];lia,trivial,rfl⟩
      ·simp only[ν c4];obtain⟨n1,_⟩:=q.no (Hb c4);have:=q.less;refine⟨ii,ih (i+1) r.2.1 r.2.2 (by lia) q.lo q.ls (by lia) (by grind)⟩
   ·have c2f:=Hb c2;have c2':(!AB (x0.getD i (aC,0,0,())) (x1.getD x4.toNat (aC,0,0,())))=true:=by
     rw[show AB (x0.getD i (aC,0,0,())) (x1.getD x4.toNat (aC,0,0,()))=false from c2f]<;>rfl
    grind
theorem aE8:∀k,Con aN 355 (cz k)
 | 0=>Ay px λw G G0 ⟨x0,x1,x2,x3,x4,_⟩ vs bss _ _ _ hp=>by
  obtain⟨_,_,h,_⟩:aK0 0 x0 x1 x2 x3 x4:=hp;omega
 | k+1=>mkC (bJw k (aE8 k)) λ⟨x0,x1,x2,x3,x4,_⟩ h hwf K q=>by
  obtain⟨h1,h2,h3,h4,h5,h6⟩:aK0 (k+1) x0 x1 x2 x3 x4:=h;have hs:=λds us=>aVG k ds us K q (x0.length+1+1);exact(hs _ _).1 (by rw[bD4];exact aVI k x0 x1 x4 h4 h6 x0.length 0 x2 x3 (cO _) h1 h2 h3 h5)
def aNI:Am.Spec:=cz 2000
def aVJ:Th 355 aNI:=aE8 2000
def bD5:KK:=⟨355,aNI,aVJ⟩
def aNJ:gC:=D0 py [.v (.sl c8),.v (.sl c8),.v (.int .i64)] [.int .i64] [bD5]
mutual
def bD6:Nat->Γ bP->Γ bP->Int->Γ aS->Prop
 | 0,_,_,_,_=>False
 | n+1,x0,x1,x2,ds=>NK n 0 ([]) x0 x1 x2 ds
def NK:Nat->Int->Γ Int->Γ bP->Γ bP->Int->Γ aS->Prop
 | 0,_,_,_,_,_,_=>False
 | n+1,v8,h0,x0,x1,x2,ds=>if decide (v8<(x0.length:Int))then(aF h0+1)*8<=140737488355328/\aX .i64 (v8+1)/\NK n (v8+1) (h0++[-1]) x0 x1 x2 ds else EK n 0 0 h0 x0 x1 x2 ds
def EK:Nat->Int->Int->Γ Int->Γ bP->Γ bP->Int->Γ aS->Prop
 | 0,_,_,_,_,_,_,_=>False
 | n+1,v9,v10,h0,x0,x1,x2,ds=>if decide (v10<(x1.length:Int))then 0<=(x0.length:Int)/\(x0.length:Int)<=(x0.length:Int)/\1*(x0.length:Int)<=281474976710656/\if decide (x2>=0)then 0<=x2/\x2<(↑(aF (aP (aE (x0.length:Int)) false)):Int)/\aNI.2 (x0,x1,h0,eU (aP (aE (x0.length:Int)) false) (aE x2) true,v10,())/\aF (tO 2000 x0 x1 h0 (eU (aP (aE (x0.length:Int)) false) (aE x2) true) v10).2.1=aF h0/\aF (tO 2000 x0 x1 h0 (eU (aP (aE (x0.length:Int)) false) (aE x2) true) v10).2.2=aF (eU (aP (aE (x0.length:Int)) false) (aE x2) true)/\if(tO 2000 x0 x1 h0 (eU (aP (aE (x0.length:Int)) false) (aE x2) true) v10).1 then aX .i64 (v9+1)/\aX .i64 (v10+1)/\EK n (v9+1) (v10+1) (tO 2000 x0 x1 h0 (eU (aP (aE (x0.length:Int)) false) (aE x2) true) v10).2.1 x0 x1 x2 ds else aX .i64 (v10+1)/\EK n v9 (v10+1) (tO 2000 x0 x1 h0 (eU (aP (aE (x0.length:Int)) false) (aE x2) true) v10).2.1 x0 x1 x2 ds else aNI.2 (x0,x1,h0,aP (aE (x0.length:Int)) false,v10,())/\aF (tO 2000 x0 x1 h0 (aP (aE (x0.length:Int)) false) v10).2.1=aF h0/\aF (tO 2000 x0 x1 h0 (aP (aE (x0.length:Int)) false) v10).2.2=aF (aP (aE (x0.length:Int)) false)/\if(tO 2000 x0 x1 h0 (aP (aE (x0.length:Int)) false) v10).1 then aX .i64 (v9+1)/\aX .i64 (v10+1)/\EK n (v9+1) (v10+1) (tO 2000 x0 x1 h0 (aP (aE (x0.length:Int)) false) v10).2.1 x0 x1 x2 ds else aX .i64 (v10+1)/\EK n v9 (v10+1) (tO 2000 x0 x1 h0 (aP (aE (x0.length:Int)) false) v10).2.1 x0 x1 x2 ds else ds=[aI (.int .i64) v9]
end
def aVK(ds:Γ aS)(K:fG)(q:Nat->Value):∀n,(∀ {x0 x1 x2},bD6 n x0 x1 x2 ds->St aNJ (x0,x1,x2,()) ds [] K q)/\(∀ {v8 h0 x0 x1 x2},NK n v8 h0 x0 x1 x2 ds->Cu aNJ 3 ([eL 0 c8 x0,eL 1 c8 x1,eI 2 x2,eW 7 0,eI 8 v8],[cL (.int .i64) h0]) ds [] K q)/\(∀ {v9 v10 h0 x0 x1 x2},EK n v9 v10 h0 x0 x1 x2 ds->Cu aNJ 8 ([eL 0 c8 x0,eL 1 c8 x1,eI 2 x2,eW 7 0,eI 9 v9,eI 10 v10],[cL (.int .i64) h0]) ds [] K q):=nI ⟨aH,aH,aH⟩ λn ⟨i,i3,i8⟩=>⟨bX i3,
  bD (aL<|aL<|bX i3)<|bX i8,
  bD (UE<|bD (cP<|UE<|bD (aL<|aL<|bX i8)<|aL<|bX i8)<|UE<|bD (aL<|aL<|bX i8)<|aL<|bX i8) cM⟩
def J0(x0 x1:Γ F3)(x2:Int):Int:=kMs (Ak x0 x1) x0.length x1.length 0 (aP x0.length (-1)) 0
def aNK(x0 x1:Γ F3)(x2:Int):Prop:=x2 = -1/\x0.length<=1000/\x1.length<=1000
theorem aVL(x0 x1:Γ F3)(h0:x0.length<=1000)(h1:x1.length<=1000):∀(k t:Nat) (o:Γ Int) (m:Int),t+k=x1.length->o.length=x0.length->(∀h:Nat,o.getD h 0<(x1.length:Int)\/k=0)->(0<=m/\m<=(t:Int)) ->
  EK (k+1) m (t:Int) o x0 x1 (-1) [⟨.int .i64,kMs (Ak x0 x1) x0.length k t o m⟩]:=by
 intro k
 induction k with
 | zero =>
  intro t o m ht ho hb hm;rw[EK,ν (by lia)]<;>rfl
 | succ k ih =>
  intro t o m ht ho hb hm;have e3:(t:Int)+1=((t+1:Nat):Int):=by lia
  have hb:∀h:Nat,o.getD h 0<(x1.length:Int):=λh=>(hb h).resolve_right (by lia);have hu:wJ (aP x0.length false)<2000:=by grind [wJ]
  have q:=jc (Ak x0 x1) x0.length 2000 o (aP x0.length false) (t:Int) (by lia) ho (by simp) hu;have bd:=aVC (T:=(x1.length:Int)) q ⟨by lia,by lia⟩ hb;rw[EK,π (by lia),aK];refine⟨by lia,by lia,by lia,?_⟩;rw[kMs];refine⟨⟨ho,by simp,hu,⟨by lia,by lia⟩,hb,h0⟩,q.lo.trans ho.symm,q.ls.trans (by simp),?_⟩;unfold tO;generalize kGv (Ak x0 x1) x0.length 2000 o (aP x0.length false) (t:Int)=r at *;by_cases c:r.1=true
  ·simp[π c];exact⟨by grind [aJ],by grind [aJ],ih (t+1) r.2.1 (m+1) (by lia) q.lo (λh => .inl (bd h)) (by lia)⟩
  ·simp[ν c];exact⟨by grind [aJ],ih (t+1) r.2.1 m (by lia) q.lo (λh => .inl (bd h)) (by lia)⟩
theorem aVM(x0 x1:Γ F3)(h0:x0.length<=1000)(h1:x1.length<=1000)(ds:Γ aS)(n:Nat)(hr:EK n 0 0 (aP x0.length (-1)) x0 x1 (-1) ds):∀(k i:Nat),i+k=x0.length->NK (n+k+1) (i:Int) (aP i (-1)) x0 x1 (-1) ds:=by
 intro k
 induction k with
 | zero =>
  intro i hi;obtain rfl:i=x0.length:=by omega
  rw[oJ,NK,ν (by simp only[ε];omega)];exact hr
 | succ k ih =>
  intro i hi;show NK (n+k+1+1) _ _ _ _ _ _;rw[NK,π (by simp only[ε];omega)];have:=ih (i+1) (by omega);rw[List.replicate_succ']at this;exact⟨by rw[List.length_replicate];omega,by rw[aJ];omega,this⟩
def bD7:KK:=mL aNJ (DO py) aNK (J0,()) (λ⟨x0,x1,x2,_⟩ h hwf K q =>
 have h:aNK x0 x1 x2:=h
 (aVK _ K q ((x1.length+1+x0.length+1+1))).1 (by
  rw[bD6,h.1];refine aVM x0 x1 h.2.1 h.2.2 _ (x1.length+1) (aVL x0 x1 h.2.1 h.2.2 x1.length 0 _ 0 (by omega) (by simp) (λj=>?_) ⟨dX _,dX _⟩) x0.length 0 (cO _);by_cases c:x1.length=0
  ·exact .inr c
  ·left;rw[bW,p9];split
   ·show (-1:Int)<_;omega
   ·show (0:Int)<_;omega))
def aVN:gC:=D0 pz [.v (.sl Za),.v (.int .i64)] [.bool] []
mutual
def aVO:Nat->Γ Int->Int->Γ aS->Prop
 | 0,_,_,_=>False
 | n+1,x0,x1,ds=>NL n 0 x0 x1 ds
def NL:Nat->Int->Γ Int->Int->Γ aS->Prop
 | 0,_,_,_,_=>False
 | n+1,v5,x0,x1,ds=>if decide (v5<(x0.length:Int))then 0<=v5/\v5<(x0.length:Int)/\if aD x0 (aE v5) 0==x1 then ds=[aI .bool true] else aX .i64 (v5+1)/\NL n (v5+1) x0 x1 ds else ds=[aI .bool false]
end
def aVP(ds:Γ aS)(K:fG)(q:Nat->Value):∀n,(∀ {x0 x1},aVO n x0 x1 ds->St aVN (x0,x1,()) ds [] K q)/\(∀ {v5 x0 x1},NL n v5 x0 x1 ds->Cu aVN 2 ([eL 0 (.int .i64) x0,eI 1 x1,eI 5 v5],[]) ds [] K q):=nI ⟨aH,aH⟩ λn ⟨i,i2⟩=>⟨bX i2,
  bD (cP<|bD cM<|aL<|bX i2) cM⟩
def GZ(x0:Γ Int)(x1:Int):Bool := !x0.all λv => !(v==x1)
theorem aVQ(x0:Γ Int)(x1:Int)(hw:x0.length<=maxLen):aVO (x0.length+1+1) x0 x1 [⟨.bool,GZ x0 x1⟩]:=by
 rw[aVO];have key:=uH x0 (0:Int) (λv => !(v==x1)) [(⟨.bool,true⟩:aS)] [⟨.bool,false⟩] (λn i ds=>NL n i x0 x1 ds) (λn=>?_) (λn i hi hok ds hr=>?_) (λn i hi hok=>?_)
 ·unfold GZ;cases h:x0.all λv => !(v==x1) <;> rw[h]at key <;> exact key
 ·rw[NL,ν (by simp)]
 ·rw[NL,π (by simp;omega)];simp only[aK];refine⟨by omega,by omega,?_⟩;rw[ν (by simpa using hok)];exact⟨iJ hw hi,hr⟩
 ·rw[NL,π (by simp;omega)];simp only[aK];refine⟨by omega,by omega,?_⟩;rw[π (by simpa using hok)] <;> trivial
def bD8:KK:=mL aVN (DO pz) nP (GZ,()) (λ⟨x0,x1,_⟩ h hwf K q =>
 (aVP _ K q _).1 (aVQ x0 x1 hwf.1.1))
end
theorem aVR{l:Γ Nat}(hn:l.Nodup){i j:Nat}{hi:i<l.length}{hj:j<l.length}(e:l[i]=l[j]):i=j:=by
 grind [DK]
theorem aEA{c c':Nat->Nat->Bool}{n s:Nat}{u:Γ Int}{E:Γ Nat}(hn:E.Nodup)(hE:∀k,k∈E↔k<n/\(k:Int) ∉ u)(hc:∀i j,i<E.length->c' i j=c (E.getD i 0) (s+j)) :
  ∀(k j:Nat) (v:Γ Int),(∀x∈v,0<=x/\x<(E.length:Int))->(Fl c' E.length k j v↔Fl c n k (s+j) (u++v.map λi=>((E.getD i.toNat 0:Nat):Int)))
 | 0,_,_,_=>⟨λ_=>trivial,λ_=>trivial⟩
 | k+1,j,v,hv=>by
  have ge:∀i (hi:i<E.length),E.getD i 0=E[i]:=λi hi=>by rw[bW,aV hi];rfl
  have step:∀i,i<E.length->(Fl c' E.length k (j+1) (v++[(i:Int)])↔Fl c n k (s+j+1) (u++v.map (λi=>((E.getD i.toNat 0:Nat):Int))++[((E.getD i 0:Nat):Int)])):=λi hi=>by
   have:=aEA hn hE hc k (j+1) (v++[(i:Int)]) (λx hx=>by
    rcases dC.1 hx with hx | hx
    ·exact hv x hx
    ·have:=dG.1 hx;omega)
   rw[mF, <- cK]at this;exact this
  constructor
  ·rintro⟨i,h1,h2,h3,h4⟩;obtain⟨a,b⟩:=(hE (E.getD i 0)).1 (by rw[ge i h1];exact uN h1);refine⟨E.getD i 0,a,λhm=>?_,by rw[<- hc i j h1];exact h3,(step i h1).1 h4⟩;rcases dC.1 hm with hm | hm
   ·exact b hm
   ·obtain⟨x,hx,e⟩:=cW.1 hm;obtain⟨x0,x1⟩:=hv x hx;have e:E.getD x.toNat 0=E.getD i 0:=by omega
    rw[ge x.toNat (by omega),ge i h1]at e;have:=aVR hn e;exact h2 (by rw[show (i:Int)=x by omega];exact hx)
  ·rintro⟨h,h1,h2,h3,h4⟩;obtain⟨i,hi,e⟩:=pN ((hE h).2 ⟨h1,λq=>h2 (dC.2 (.inl q))⟩);have e:E.getD i 0=h:=by rw[ge i hi];exact e
   refine⟨i,hi,λq=>h2 (dC.2 (.inr (cW.2 ⟨(i:Int),q,by rw[aK,e]⟩))),by rw[hc i j hi,e];exact h3,(step i hi).2 (by rw[e];exact h4)⟩
def ZD(ok:Int->Bool):Nat->Nat->Option Int
 | 0,_=>none
 | k+1,h=>if ok (h:Int)=true then some (h:Int)else ZD ok k (h+1)
theorem Rn{ok:Int->Bool}:∀(k h:Nat),(∃j:Nat,h<=j/\j<h+k/\ok (j:Int)=true)->∃j:Nat,ZD ok k h=some (j:Int)/\h<=j/\j<h+k/\ok (j:Int)=true/\∀i:Nat,h<=i->i<j->ok (i:Int)=false
 | 0,h,⟨j,h1,h2,h3⟩=>by lia
 | k+1,h,⟨j,h1,h2,h3⟩=>by
  rw[ZD];by_cases c:ok (h:Int)=true
  ·grind
  ·have:j≠h:=λe=>c (by lia);obtain⟨i,a1,a2,a3,a4,a5⟩:=Rn (ok:=ok) k (h+1) ⟨j,by lia,by lia,h3⟩
   grind
abbrev HT:=Δ×Int×Int×Unit
abbrev hD:HT:=(ByteArray.empty,0,0,())
theorem UO(l:Γ Int)(x:Int):tE l x=true↔x∈l:=by
 have h:tE l x=l.any (λy=>x==y):=aTo l x
 grind
theorem jd(x0:Γ HT)(x1:HT)(fl:Γ Int->Option (Γ Int))(u:Γ Int)(ok:Int->Bool)(hk:∀h:Nat,h<x0.length->ok (h:Int)=(!tE u (h:Int)&&(oZ (x0.getD h hD) x1&&(fl (u++[(h:Int)])).isSome))) :
  ∀(k i:Nat),i+k=x0.length->zY fl u (pG x1 (x0.drop i) i)=(ZD ok k i).bind λh=>fl (u++[h])
 | 0,i,hi=>by rw[bT (by omega)];rfl
 | k+1,i,hi=>by
  have ih:=jd x0 x1 fl u ok hk k (i+1) (by omega);have ho:=hk i (by omega);rw[dQ x0 i hD (by omega),ZD,pG];by_cases c:oZ (x0.getD i hD) x1=true
  ·rw[π c,zY];rw[c,Ei]at ho;by_cases d:tE u (i:Int)=true
   ·rw[d]at ho;rw[π d,ν (by rw[ho,vJ,yP];decide),ih]
   ·rw[ν d];rw[bV.2 d]at ho;cases hf:fl (u++[(i:Int)])with
    | none =>
     rw[hf]at ho;rw[ν (by rw[ho];decide),ih]
    | some y =>
     rw[hf]at ho;rw[π (by rw[ho];rfl)];exact hf.symm
  ·rw[ν c,ν (by rw[ho,bV.2 c,yP,Bool.and_false];decide),ih]
theorem ya(x0 x1:Γ HT):∀(m:Nat) (u:Γ Int),u.length+m=x1.length->((fF x0 x1 m u).isSome=true↔Fl (λh t=>oZ (x0.getD h hD) (x1.getD t hD)) x0.length m u.length u)
 | 0,u,_=>⟨λ_=>trivial,λ_=>rfl⟩
 | m+1,u,hu=>by
  have ih:∀x,(fF x0 x1 m (u++[x])).isSome=true↔Fl (λh t=>oZ (x0.getD h hD) (x1.getD t hD)) x0.length m (u.length+1) (u++[x]):=λx=>by
   have:=ya x0 x1 m (u++[x]) (by rw[bS,jE];omega)
   rwa [bS,jE]at this
  let ok:Int->Bool:=λh => !tE u h&&(oZ (x0.getD h.toNat hD) (x1.getD u.length hD)&&(fF x0 x1 m (u++[h])).isSome)
  have key:=jd x0 (x1.getD u.length hD) (fF x0 x1 m) u ok (λh _=>rfl) x0.length 0 (by omega);have e:fF x0 x1 (m+1) u=zY (fF x0 x1 m) u (pG (x1.getD u.length hD) (x0.drop 0) 0):=rfl;rw[e,key];constructor
  ·intro h;cases hf:ZD ok x0.length 0 with
   | none=>rw[hf]at h;cases h
   | some x =>
    clear h;have hx:∃j:Nat,0<=j/\j<0+x0.length/\ok (j:Int)=true:=by
     by_cases q:∃j:Nat,0<=j/\j<0+x0.length/\ok (j:Int)=true
     ·exact q
     ·have:∀(k i:Nat),i+k<=x0.length->ZD ok k i=none:=λk=>by
       induction k with
       | zero=>intro i _;rfl
       | succ k ihk=>intro i hi;rw[ZD,ν (λc=>q ⟨i,aY _,by omega,c⟩),ihk (i+1) (by omega)]
      rw[this x0.length 0 (by omega)]at hf;cases hf
    obtain⟨j,j1,j2,j3⟩:=hx;have j4:(!tE u (j:Int)&&(oZ (x0.getD j hD) (x1.getD u.length hD)&&(fF x0 x1 m (u++[(j:Int)])).isSome))=true:=j3;simp only[aT,eZ]at j4;exact⟨j,by omega,λq=>(by rw[(UO _ _).2 q]at j4;cases j4.1),j4.2.1,(ih _).1 j4.2.2⟩
  ·rintro⟨h,h1,h2,h3,h4⟩;have ho:ok (h:Int)=true:=by
    show (!tE u (h:Int)&&(oZ (x0.getD h hD) (x1.getD u.length hD)&&(fF x0 x1 m (u++[(h:Int)])).isSome))=true;rw[(ih _).2 h4,show oZ (x0.getD h hD) (x1.getD u.length hD)=true from h3];cases c:tE u (h:Int)
    ·rfl
    ·exact absurd ((UO _ _).1 c) h2
   obtain⟨j,e1,_,_,e4,_⟩:=Rn (ok:=ok) x0.length 0 ⟨h,aY _,by omega,ho⟩;rw[e1];have j4:(!tE u (j:Int)&&(oZ (x0.getD j hD) (x1.getD u.length hD)&&(fF x0 x1 m (u++[(j:Int)])).isSome))=true:=e4;simp only[aT]at j4;exact j4.2.2
theorem aK3:∀a b:Fin 8,(IntKind.wrap .i64 (((fY 64 ((a.val:Nat):Int) &&& fY 64 ((b.val:Nat):Int)).toNat:Nat):Int)==((b.val:Nat):Int))=(IntKind.wrap .i64 (((fY 64 ((b.val:Nat):Int) &&& ~~~fY 64 ((a.val:Nat):Int)).toNat:Nat):Int)==0):=by decide
theorem aVS{h x:HT}(hh:0<=h.2.1/\h.2.1<=7)(hx:0<=x.2.1/\x.2.1<=7):AB h x=oZ h x:=by
 have k:=aK3 ⟨h.2.1.toNat,by lia⟩ ⟨x.2.1.toNat,by lia⟩
 grind [AB,oZ]
theorem aG8{h:HT}(v:xY h=true):0<=h.2.1/\h.2.1<=7:=by
 unfold xY at v;split at v
 ·split at v
  ·rename_i c;exact wi (show bE h.2.1 0 7=true from c)
  lia
 lia
theorem aNL{h:HT}(v:xY h=true):0<=h.2.1/\h.2.1<=7:=by
 unfold xY at v;split at v
 ·split at v
  ·rename_i c;exact wi (show bE h.2.1 0 7=true from c)
  lia
 lia
noncomputable section
def aK4:gC:=D0 qb [.v (.sl c8),.v (.sl c8)] [.sl Za,.int .i64] [bB3,bB6,bD7,bD8,aKy]
mutual
def aG9:Nat->Γ bP->Γ bP->Γ aS->Prop
 | 0,_,_,_=>False
 | n+1,x0,x1,ds=>if !wq x0 then ds=[aI (.sl Za) [],aI (.int .i64) 1] else if !wt x1 then ds=[aI (.sl Za) [],aI (.int .i64) 1] else aNK x0 x1 (-1)/\if decide (J0 x0 x1 (-1)<(x1.length:Int))then ds=[aI (.sl Za) [],aI (.int .i64) 3] else G3 n 0 ([]) x0 x1 ds
def G3:Nat->Int->Γ Int->Γ bP->Γ bP->Γ aS->Prop
 | 0,_,_,_,_,_=>False
 | n+1,v7,h0,x0,x1,ds=>if decide (v7<(x1.length:Int))then yB n 0 x0 x1 v7 h0 ds else ds=[aI (.sl Za) h0,aI (.int .i64) 0]
def yB:Nat->Int->Γ bP->Γ bP->Int->Γ Int->Γ aS->Prop
 | 0,_,_,_,_,_,_=>False
 | n+1,v8,x0,x1,v7,h0,ds=>if decide (v8<(x0.length:Int))then(if GZ h0 v8 then aX .i64 (v8+1)/\yB n (v8+1) x0 x1 v7 h0 ds else 0<=v8/\v8<(x0.length:Int)/\0<=v7/\v7<(x1.length:Int)/\if !AB (aD x0 (aE v8) (aC,0,0,())) (aD x1 (aE v7) (aC,0,0,()))then aX .i64 (v8+1)/\yB n (v8+1) x0 x1 v7 h0 ds else D5 n 0 ([]) x0 x1 v7 v8 h0 ds)else aX .i64 (v7+1)/\G3 n (v7+1) h0 x0 x1 ds
def D5:Nat->Int->Γ bP->Γ bP->Γ bP->Int->Int->Γ Int->Γ aS->Prop
 | 0,_,_,_,_,_,_,_,_=>False
 | n+1,v10,h1,x0,x1,v7,v8,h0,ds=>if decide (v10<(x0.length:Int))then(if v10 != v8 then(if !GZ h0 v10 then 0<=v10/\v10<(x0.length:Int)/\(aF h1+1)*32<=140737488355328/\aX .i64 (v10+1)/\D5 n (v10+1) (h1++[aD x0 (aE v10) (aC,0,0,())]) x0 x1 v7 v8 h0 ds else aX .i64 (v10+1)/\D5 n (v10+1) h1 x0 x1 v7 v8 h0 ds)else aX .i64 (v10+1)/\D5 n (v10+1) h1 x0 x1 v7 v8 h0 ds)else aX .i64 (v7+1)/\0<=v7+1/\v7+1<=(x1.length:Int)/\aNK h1 (bG (aE (v7+1)) x1) (-1)/\aX .i64 ((x1.length:Int)-v7)/\aX .i64 ((x1.length:Int)-v7-1)/\if J0 h1 (bG (aE (v7+1)) x1) (-1)==(x1.length:Int)-v7-1 then(aF h0+1)*8<=140737488355328/\aX .i64 (v7+1)/\G3 n (v7+1) (h0++[v8]) x0 x1 ds else aX .i64 (v8+1)/\yB n (v8+1) x0 x1 v7 h0 ds
end
def aVT(ds:Γ aS)(K:fG)(q:Nat->Value):∀n,(∀ {x0 x1},aG9 n x0 x1 ds->St aK4 (x0,x1,()) ds [] K q)/\(∀ {v7 h0 x0 x1},G3 n v7 h0 x0 x1 ds->Cu aK4 7 ([eL 0 c8 x0,eL 1 c8 x1,eW 6 0,eI 7 v7],[cL (.int .i64) h0]) ds [] K q)/\(∀ {v8 x0 x1 v7 h0},yB n v8 x0 x1 v7 h0 ds->Cu aK4 10 ([eL 0 c8 x0,eL 1 c8 x1,eW 6 0,eI 7 v7,eI 8 v8],[cL (.int .i64) h0]) ds [] K q)/\(∀ {v10 h1 x0 x1 v7 v8 h0},D5 n v10 h1 x0 x1 v7 v8 h0 ds->Cu aK4 15 ([eL 0 c8 x0,eL 1 c8 x1,eW 6 0,eI 7 v7,eI 8 v8,eW 9 1,eI 10 v10,eL 42 c8 x0,eI 43 v8,(44,.a (.ptr c8 (aD x0 (aE v8) (aC,0,0,())))),eL 45 c8 x1,eI 46 v7,(47,.a (.ptr c8 (aD x1 (aE v7) (aC,0,0,())))),eB 48 (AB (aD x0 (aE v8) (aC,0,0,())) (aD x1 (aE v7) (aC,0,0,()))),eB 49 (!AB (aD x0 (aE v8) (aC,0,0,())) (aD x1 (aE v7) (aC,0,0,())))],[cL (.int .i64) h0,cL c8 h1]) ds [] K q):=nI ⟨aH,aH,aH,aH⟩ λn ⟨i,i7,i10,i15⟩=>⟨bH<|bD (jM cM)<|bH<|bD cM<|aL<|bD cM<|bX i7,
  bD (bX i10) cM,
  bD (bH<|bD (jM<|aL<|bX i10)<|cP<|cP<|bH<|bD (aL<|bX i10)<|bX i15)<|aL<|bX i7,
  bD (bD (bH<|bD (cP<|aL<|aL<|bX i15)<|aL<|bX i15)<|dK<|aL<|bX i15)<|aL<|cP<|aL<|aL<|aL<|bD (aL<|aL<|bX i7)<|aL<|bX i10⟩
def Ww(x0 x1:Γ HT):Γ Int:=JA x0 x1
def Wx(x0 x1:Γ HT):Int:=RG x0 x1
def aNM(u:Γ Int)(h:Int)(k:Nat):Bool:=(k:Int) != h && !GZ u (k:Int)
def aNN(n:Nat)(u:Γ Int)(h:Int):Γ Nat:=(aAE 0 n).filter (aNM u h)
def aRd(x0:Γ HT)(u:Γ Int)(h:Int):Γ HT:=(aNN x0.length u h).map λk=>x0.getD k hD
theorem Wy(l:Γ Int)(x:Int):GZ l x=tE l x:=by
 refine oF.2 (Iff.trans ?_ (UO l x).symm);simp[GZ]
structure yb (x0 x1:Γ HT):Prop where
 l0:x0.length<=100
 l1:x1.length<=100
 can:∀h t,Ak x0 x1 h t=oZ (x0.getD h hD) (x1.getD t hD)
theorem aEB{x0 x1:Γ HT}(h:yb x0 x1)(T' s:Nat)(hs:s+T'=x1.length)(u:Γ Int)(hu:u.length=s)(E:Γ Nat)(hn:E.Nodup)(hE:∀k,k∈E↔k<x0.length/\(k:Int) ∉ u)(r:Γ HT)(hr:r=E.map λk=>x0.getD k hD):J0 r (x1.drop s) (-1)=(T':Int)↔(fF x0 x1 T' u).isSome=true:=by
 have hl:r.length=E.length:=by grind
 have hle:E.length<=x0.length:=by
  have:=UN E (HN x0.length) hn (λk hk=>DE.2 ((hE k).1 hk).1)
  grind
 have hd:(x1.drop s).length=T':=by grind
 have l0:=h.l0;unfold J0;rw[hd];refine Iff.trans (aKz _ (by lia) T') (Iff.trans ?_ (ya x0 x1 T' u (by lia)).symm);have:=aEA (c:=λh t=>oZ (x0.getD h hD) (x1.getD t hD)) (c':=Ak r (x1.drop s)) (n:=x0.length) (s:=s) (u:=u) hn hE (λi j hi=>?_) T' 0 [] (λx hx=>by grind)
 ·grind
 ·rw[<- h.can];unfold Ak;rw[hr,oG _ i _ (by rw[eV];exact hi),Sf,oG E i 0 hi]
  congr 1
  rw[bW,List.getElem?_drop, <- bW]
theorem aVU{x0:Γ HT}{u:Γ Int}{h:Int}(k:Nat):k∈aNN x0.length u h↔k<x0.length/\(k:Int) ∉ u++[h]:=by
 unfold aNN aNM;rw[List.mem_filter,List.mem_range'_1,aT,eZ,Wy, <- Bool.not_eq_true,UO,dC,dG]
 lia
theorem aEC{x0 x1:Γ HT}(hk:yb x0 x1)(t:Nat)(u:Γ Int)(hu:u.length=t)(ht:t<x1.length)(h:Nat)(ds:Γ aS)(m:Nat)
  (yes:(fF x0 x1 (x1.length-t-1) (u++[(h:Int)])).isSome=true->G3 m ((t:Int)+1) (u++[(h:Int)]) x0 x1 ds)
  (no:(fF x0 x1 (x1.length-t-1) (u++[(h:Int)])).isSome=false->yB m ((h:Int)+1) x0 x1 (t:Int) u ds) (hh:h<x0.length) :
  ∀(k i:Nat) (r:Γ HT),i+k=x0.length->r++((aAE i k).filter (aNM u (h:Int))).map (λk=>x0.getD k hD)=aRd x0 u (h:Int)->r.length<=i->D5 (m+k+1) (i:Int) r x0 x1 (t:Int) (h:Int) u ds:=by
 have l0:=hk.l0;have l1:=hk.l1;intro k
 induction k with
 | zero =>
  intro i r hi hr hl;have hr:r=aRd x0 u (h:Int):=by grind
  have ed:x1.drop (aE ((t:Int)+1))=x1.drop (t+1):=by rfl
  have key:=aEB hk (x1.length-t-1) (t+1) (by lia) (u++[(h:Int)]) (by grind) (aNN x0.length u (h:Int)) (List.Pairwise.filter _ List.nodup_range') aVU r hr;rw[D5,ν (by lia)];refine⟨by grind [aJ],by lia,by lia,⟨rfl,by lia,by grind⟩,by grind [aJ],by grind [aJ],?_⟩;by_cases c:(fF x0 x1 (x1.length-t-1) (u++[(h:Int)])).isSome=true
  ·exact(π (by lia)).mpr ⟨by lia,by grind [aJ],yes c⟩
  ·exact(ν (λq=>c (key.1 (by lia)))).mpr ⟨by grind [aJ],no (Hb c)⟩
 | succ k ih =>
  intro i r hi hr hl;have e3:(i:Int)+1=((i+1:Nat):Int):=by lia
  have ii:aX .i64 ((i+1:Nat):Int):=by grind [aJ]
  rw[List.range'_succ,uL]at hr;rw[D5,π (by lia),e3];unfold aNM at hr;by_cases c1:((i:Int) != (h:Int))=true
  ·rw[c1,Ei]at hr;refine(π c1).mpr ?_;by_cases c2:(!GZ u (i:Int))=true
   ·rw[π c2]at hr;exact(π c2).mpr ⟨by lia,by lia,by lia,ii,ih (i+1) _ (by lia) (by rw[cK];exact hr) (by grind)⟩
   ·rw[ν c2]at hr;exact(ν c2).mpr ⟨ii,ih (i+1) r (by lia) hr (by lia)⟩
  ·rw[Hb c1,yP]at hr;exact(ν c1).mpr ⟨ii,ih (i+1) r (by lia) hr (by lia)⟩
theorem aK5{x0 x1:Γ HT}(hk:yb x0 x1)(t:Nat)(u:Γ Int)(hu:u.length=t)(ht:t<x1.length)(ds:Γ aS)(h:Nat)(hh:h<x0.length)(ok:Int->Bool)
  (hok:∀j:Nat,ok (j:Int)=(!tE u (j:Int)&&(oZ (x0.getD j hD) (x1.getD t hD)&&(fF x0 x1 (x1.length-t-1) (u++[(j:Int)])).isSome)))
  (h1:ok (h:Int)=true) (h2:∀i:Nat,i<h->ok (i:Int)=false) (hr:∃m,G3 m ((t:Int)+1) (u++[(h:Int)]) x0 x1 ds):∀(k j:Nat),j+k=h->∃m,yB m (j:Int) x0 x1 (t:Int) u ds:=by
 have l0:=hk.l0;have can:∀j:Nat,AB (x0.getD j (aC,0,0,())) (x1.getD t (aC,0,0,()))=oZ (x0.getD j hD) (x1.getD t hD):=λj=>hk.can j t;intro k
 induction k with
 | zero =>
  intro j hj;obtain rfl:j=h:=by lia
  rw[hok,aT,aT,eZ]at h1;obtain⟨a,b,c⟩:=h1;obtain⟨m,hm⟩:=hr;refine⟨m+x0.length+1+1,?_⟩;rw[yB,π (by lia),Wy,a,ν (by lia),aK,aK,can,b];refine⟨by lia,by lia,by lia,by lia,?_⟩;exact aEC hk t u hu ht j ds m (λ_=>hm) (λq=>by lia) hh x0.length 0 [] (cO _) rfl (aY _)
 | succ k ih =>
  intro j hj;have hf:=h2 j (by lia);have e3:(j:Int)+1=((j+1:Nat):Int):=by lia
  have ii:aX .i64 ((j:Int)+1):=by grind [aJ]
  obtain⟨m,hm⟩:=ih (j+1) (by lia);rw[hok]at hf;by_cases a:tE u (j:Int)=true
  ·refine⟨m+1,?_⟩;rw[yB,π (by lia),Wy,π a]
   lia
  ·by_cases b:oZ (x0.getD j hD) (x1.getD t hD)=true
   ·refine⟨m+x0.length+1+1,?_⟩;rw[yB,π (by lia),Wy,ν a,aK,aK,can,b];refine⟨by lia,by lia,by lia,by lia,?_⟩;exact aEC hk t u hu ht j ds m (λq=>by lia) (λ_=>hm) (by lia) x0.length 0 [] (cO _) rfl (aY _)
   ·refine⟨m+1,?_⟩;rw[yB,π (by lia),Wy,ν a,aK,aK,can]
    lia
theorem aK6{x0 x1:Γ HT}(hk:yb x0 x1):∀(k t:Nat) (u y:Γ Int),t+k=x1.length->u.length=t->fF x0 x1 k u=some y->∃m,G3 m (t:Int) u x0 x1 [⟨.sl Za,y⟩,⟨.int .i64,0⟩]:=by
 intro k
 induction k with
 | zero =>
  intro t u y ht hu hf;refine⟨1,?_⟩;rw[G3,ν (by lia)];obtain rfl:u=y:=by injection hf
  rfl
 | succ k ih =>
  intro t u y ht hu hf
  let ok:Int->Bool:=λh => !tE u h&&(oZ (x0.getD h.toNat hD) (x1.getD u.length hD)&&(fF x0 x1 k (u++[h])).isSome)
  have key:=jd x0 (x1.getD u.length hD) (fF x0 x1 k) u ok (λh _=>rfl) x0.length 0 (by lia);have e:fF x0 x1 (k+1) u=zY (fF x0 x1 k) u (pG (x1.getD u.length hD) (x0.drop 0) 0):=rfl;rw[e,key]at hf;by_cases hx:∃j:Nat,0<=j/\j<0+x0.length/\ok (j:Int)=true
  ·obtain⟨h,e1,_,h3,h4,h5⟩:=Rn x0.length 0 hx;rw[e1]at hf;obtain⟨m,hm⟩:=ih (t+1) (u++[(h:Int)]) y (by lia) (by grind) hf;obtain⟨m,hm⟩:=aK5 hk t u hu (by lia) _ h (by lia) ok (λj=>by rw[show x1.length-t-1=k by lia, <- hu];rfl) h4 (λi hi=>h5 i (aY _) hi) ⟨m,hm⟩ h 0 (cO _);refine⟨m+1,?_⟩;rw[G3]
   lia
  ·have:∀(k i:Nat),i+k<=x0.length->ZD ok k i=none:=λk=>by
    induction k with
    | zero=>intro i _;rfl
    | succ k ihk=>intro i hi;rw[ZD,ν (λc=>hx ⟨i,aY _,by lia,c⟩),ihk (i+1) (by lia)]
   grind
theorem bD9{x0 x1:Γ HT}(h0:qX x0=true)(h1:qY x1=true):yb x0 x1:=by
 have e0:∀h,0<=(x0.getD h hD).2.1/\(x0.getD h hD).2.1<=7:=λh=>by
  by_cases c:h<x0.length
  ·unfold qX at h0;rw[aT]at h0;obtain⟨j,hj⟩:=CZ _ _ h0.1 _ (cF x0 h hD c);unfold aJg at hj;rw[aT]at hj;exact aG8 hj.1
  grind
 have e1:∀h,0<=(x1.getD h hD).2.1/\(x1.getD h hD).2.1<=7:=λh=>by
  by_cases c:h<x1.length
  ·unfold qY at h1;rw[aT]at h1;obtain⟨j,hj⟩:=CZ _ _ h1.1 _ (cF x1 h hD c);unfold aJh at hj;rw[aT]at hj;exact aNL hj.1
  grind
 exact⟨by grind [xx],by grind [xy],λh t=>aVS (e0 h) (e1 t)⟩
theorem aVV(x0 x1:Γ HT):∃n,aG9 n x0 x1 [⟨.sl Za,Ww x0 x1⟩,⟨.int .i64,Wx x0 x1⟩]:=by
 unfold Ww Wx JA RG RC;by_cases c0:qX x0=true
 ·by_cases c1:qY x1=true
  ·have hk:=bD9 c0 c1;have l0:=hk.l0;have l1:=hk.l1;have key:=aEB hk x1.length 0 (cO _) [] rfl (HN x0.length) Se (λk=>⟨λq=>⟨DE.1 q,λq=>by cases q⟩,λq=>DE.2 q.1⟩) x0 (by
    refine List.ext_getElem (by simp) λi a b=>?_;simp only[Sf,List.getElem_range];rw[oG x0 i hD a])
   rw[pZ]at key;have le:=aCi (Ak x0 x1) x0.length x1.length 0 (aP x0.length (-1)) 0;have le:J0 x0 x1 (-1)<=0+(x1.length:Int):=le;have e1:Dw x0 x1 []=(fF x0 x1 x1.length []).isSome:=rfl;have e0:GF x0 x1 []=(fF x0 x1 x1.length []).getD []:=rfl;rw[c0,c1,e1,e0];cases hf:fF x0 x1 x1.length [] with
   | none =>
    have hn:¬J0 x0 x1 (-1)=(x1.length:Int):=λq=>by
     have:=key.1 q;rw[hf]at this;cases this
    refine⟨1,?_⟩;rw[aG9, <- Ai, <- FK,c0,c1,ν (by decide),ν (by decide)];exact⟨⟨rfl,by omega,by omega⟩,(π (by simp only[ε];omega)).mpr rfl⟩
   | some y =>
    have hn:J0 x0 x1 (-1)=(x1.length:Int):=key.2 (by rw[hf];rfl);obtain⟨m,hm⟩:=aK6 hk x1.length 0 [] y (cO _) rfl hf;refine⟨m+1,?_⟩;rw[aG9, <- Ai, <- FK,c0,c1,ν (by decide),ν (by decide)];exact⟨⟨rfl,by omega,by omega⟩,(ν (by simp only[ε];omega)).mpr hm⟩
  ·exact⟨1,by rw[aG9, <- Ai, <- FK,c0,Hb c1];rfl⟩
 ·exact⟨1,by rw[aG9, <- Ai, <- FK,Hb c0];rfl⟩
def bDA:KK:=mL aK4 (DO qb) nP (Ww,Wx,()) (λ⟨x0,x1,_⟩ h hwf K q =>
 let ⟨n,hn⟩:=aVV x0 x1
 (aVT _ K q n).1 hn)
def aVW:gC:=D0 qd [.v (.int .i64)] [.int .i64,.int .i64,.int .i64] [aQW]
mutual
def aVX:Nat->Int->Γ aS->Prop
 | 0,_,_=>False
 | n+1,x0,ds=>Wz n 2000 1 x0 ds
def Wz:Nat->Int->Int->Int->Γ aS->Prop
 | 0,_,_,_,_=>False
 | n+1,v5,v6,x0,ds=>il v5 v6/\if decide (x0>=mQ v5 v6)then il v5 v6/\aX .i64 (x0-mQ v5 v6)/\aX .i64 (v6+1)/\if decide (v6+1>12)then aX .i64 (v5+1)/\Wz n (v5+1) 1 (x0-mQ v5 v6) ds else Wz n v5 (v6+1) (x0-mQ v5 v6) ds else aX .i64 (x0+1)/\ds=[aI (.int .i64) v5,aI (.int .i64) v6,aI (.int .i64) (x0+1)]
end
def aVY(ds:Γ aS)(K:fG)(q:Nat->Value):∀n,(∀ {x0},aVX n x0 ds->St aVW (x0,()) ds [] K q)/\(∀ {v5 v6 x0},Wz n v5 v6 x0 ds->Cu aVW 3 ([eI 0 x0,eI 5 v5,eI 6 v6],[]) ds [] K q):=nI ⟨aH,aH⟩ λn ⟨i,i3⟩=>⟨bX i3,
  aL<|bD (aL<|aL<|aL<|bD (aL<|bX i3)<|bX i3)<|aL cM⟩
def FR:Nat->Int->Int->Int->Int×Int×Int
 | 0,d,y,m=>(y,m,d+1)
 | k+1,d,y,m=>if mQ y m<=d then(if m=12 then FR k (d-mQ y m) (y+1) 1 else FR k (d-mQ y m) y (m+1))else(y,m,d+1)
def aVZ(x0:Int):Prop:=0<=x0/\x0<=36524
def G4(x0:Int):Int:=(FR 1305 x0 2000 1).1
def G5(x0:Int):Int:=(FR 1305 x0 2000 1).2.1
def NM(x0:Int):Int:=(FR 1305 x0 2000 1).2.2
theorem aRe{y m:Int}(hy:2000<=y/\y<=4000)(h:1<=m/\m<=12):il y m/\28<=mQ y m/\mQ y m<=31:=by
 have e:bY y 4=y%4:=gN (by lia);have hm:m=1\/m=2\/m=3\/m=4\/m=5\/m=6\/m=7\/m=8\/m=9\/m=10\/m=11\/m=12:=by lia
 unfold il mQ;rw[e];have hi:aX .i64 (y%4):=by grind [aJ]
 by_cases hz:(y%4==0)=true
 ·rcases hm with rfl | rfl | rfl | rfl | rfl | rfl | rfl | rfl | rfl | rfl | rfl | rfl <;> simp[hz,hi] <;> decide
 ·rcases hm with rfl | rfl | rfl | rfl | rfl | rfl | rfl | rfl | rfl | rfl | rfl | rfl <;> simp[hz,hi] <;> decide
theorem aWa:∀(k:Nat) (d y m:Int),0<=d->d<28*(k:Int)->2000<=y->y+(k:Int)<=3305->1<=m/\m<=12 ->
  Wz (k+1) y m d [⟨.int .i64,(FR k d y m).1⟩,⟨.int .i64,(FR k d y m).2.1⟩,⟨.int .i64,(FR k d y m).2.2⟩]:=by
 intro k
 induction k with
 | zero=>lia
 | succ k ih =>
  intro d y m h0 h1 h2 h3 h4;obtain⟨p,l1,l2⟩:=aRe (y:=y) (m:=m) (by lia) h4;refine⟨p,?_⟩;unfold FR;by_cases hc:mQ y m<=d
  ·rw[π (by lia)];refine⟨p,by grind [aJ],by grind [aJ],?_⟩;by_cases hm:m=12
   ·grind [aJ]
   grind
  ·rw[ν (by lia),ν hc];exact⟨by grind [aJ],rfl⟩
theorem aWb(x0:Int)(h:aVZ x0):aVX (1305+1+1) x0 [⟨.int .i64,G4 x0⟩,⟨.int .i64,G5 x0⟩,⟨.int .i64,NM x0⟩]:=by
 rw[aVX];exact aWa 1305 x0 2000 1 h.1 (by have:=h.2;omega) (by omega) (by omega) (by omega)
def bDB:KK:=mL aVW (DO qd) aVZ (G4,G5,NM,()) (λ⟨x0,_⟩ h hwf K q =>
 (aVY _ K q _).1 (aWb x0 h))
def aK7(x0:Int):Prop:=if decide (x0<10)then 1+aG (gV x0)<=9223372036854775807/\True else True
def G6(x0:Int):Δ:=if decide (x0<10)then aA #[48]++gV x0 else gV x0
def bDC:KK:=mB Tryz.func357 [.v (.int .i64)] [.str] [Wt] aK7 (G6,()) λ_=>lT (bH<|aL pr)<|bH pr
def je(x0:Int):Prop:=((aVZ x0)/\((aG (gV (G4 x0))+1<=9223372036854775807)/\((aK7 (G5 x0))/\((aG (gV (G4 x0)++aA #[45])+aG (G6 (G5 x0))<=9223372036854775807)/\((aG (gV (G4 x0)++aA #[45]++G6 (G5 x0))+1<=9223372036854775807)/\((aK7 (NM x0))/\((aG (gV (G4 x0)++aA #[45]++G6 (G5 x0)++aA #[45])+aG (G6 (NM x0))<=9223372036854775807)/\True)))))))
def NN(x0:Int):Δ:=gV (G4 x0)++aA #[45]++G6 (G5 x0)++aA #[45]++G6 (NM x0)
def aRf:KK:=mB Tryz.func240 [.v (.int .i64)] [.str] [bDB,Wt,bDC] je (NN,()) λ_=>aL<|bH<|aL<|aL<|aL<|aL<|aL<|aL pr
def yc:gC:=D0 qe [.v (.sl (.sl .str))] [.sl .str] []
mutual
def aWc:Nat->Γ (Γ Δ)->Γ aS->Prop
 | 0,_,_=>False
 | n+1,x0,ds=>NO n 0 ([0,0,0,0,0,0,0,0,0,0,0,0]) x0 ds
def NO:Nat->Int->Γ Int->Γ (Γ Δ)->Γ aS->Prop
 | 0,_,_,_,_=>False
 | n+1,v4,h0,x0,ds=>if decide (v4<(x0.length:Int))then NP n 0 h0 x0 v4 ds else Ba n 0 ([]) x0 h0 ds
def NP:Nat->Int->Γ Int->Γ (Γ Δ)->Int->Γ aS->Prop
 | 0,_,_,_,_,_=>False
 | n+1,v5,h0,x0,v4,ds=>0<=v4/\v4<(x0.length:Int)/\if decide (v5<(↑(aF (aD x0 (aE v4) [])):Int))then 0<=v4/\v4<(x0.length:Int)/\0<=v5/\v5<(↑(aF (aD x0 (aE v4) [])):Int)/\0<=v5/\v5<(h0.length:Int)/\if decide ((↑(aG (aD (aD x0 (aE v4) []) (aE v5) aC)):Int)>aD h0 (aE v5) 0)then 0<=v4/\v4<(x0.length:Int)/\0<=v5/\v5<(↑(aF (aD x0 (aE v4) [])):Int)/\0<=v5/\v5<(h0.length:Int)/\aX .i64 (v5+1)/\NP n (v5+1) (eU h0 (aE v5) (↑(aG (aD (aD x0 (aE v4) []) (aE v5) aC)):Int)) x0 v4 ds else aX .i64 (v5+1)/\NP n (v5+1) h0 x0 v4 ds else aX .i64 (v4+1)/\NO n (v4+1) h0 x0 ds
def Ba:Nat->Int->Γ Δ->Γ (Γ Δ)->Γ Int->Γ aS->Prop
 | 0,_,_,_,_,_=>False
 | n+1,v7,h1,x0,h0,ds=>if decide (v7<(x0.length:Int))then D6 n (aA #[]) 0 x0 v7 h0 h1 ds else ds=[aI (.sl .str) h1]
def D6:Nat->Δ->Int->Γ (Γ Δ)->Int->Γ Int->Γ Δ->Γ aS->Prop
 | 0,_,_,_,_,_,_,_=>False
 | n+1,v8,v9,x0,v7,h0,h1,ds=>0<=v7/\v7<(x0.length:Int)/\if decide (v9<(↑(aF (aD x0 (aE v7) [])):Int))then(if decide (v9>0)then aG v8+2<=9223372036854775807/\0<=v7/\v7<(x0.length:Int)/\0<=v9/\v9<(↑(aF (aD x0 (aE v7) [])):Int)/\aG (v8++aA #[32,32])+aG (aD (aD x0 (aE v7) []) (aE v9) aC)<=9223372036854775807/\0<=v7/\v7<(x0.length:Int)/\0<=v9/\v9<(↑(aF (aD x0 (aE v7) [])):Int)/\Ky n (v8++aA #[32,32]++aD (aD x0 (aE v7) []) (aE v9) aC) ((↑(aG (aD (aD x0 (aE v7) []) (aE v9) aC)):Int)) x0 v7 v9 h0 h1 ds else 0<=v7/\v7<(x0.length:Int)/\0<=v9/\v9<(↑(aF (aD x0 (aE v7) [])):Int)/\aG v8+aG (aD (aD x0 (aE v7) []) (aE v9) aC)<=9223372036854775807/\0<=v7/\v7<(x0.length:Int)/\0<=v9/\v9<(↑(aF (aD x0 (aE v7) [])):Int)/\Ky n (v8++aD (aD x0 (aE v7) []) (aE v9) aC) ((↑(aG (aD (aD x0 (aE v7) []) (aE v9) aC)):Int)) x0 v7 v9 h0 h1 ds)else G7 n x0 v7 v8 h0 h1 ds
def Ky:Nat->Δ->Int->Γ (Γ Δ)->Int->Int->Γ Int->Γ Δ->Γ aS->Prop
 | 0,_,_,_,_,_,_,_,_=>False
 | n+1,v8,v10,x0,v7,v9,h0,h1,ds=>0<=v9/\v9<(h0.length:Int)/\if decide (v10<aD h0 (aE v9) 0)then aG v8+1<=9223372036854775807/\aX .i64 (v10+1)/\Ky n (v8++aA #[32]) (v10+1) x0 v7 v9 h0 h1 ds else aX .i64 (v9+1)/\D6 n v8 (v9+1) x0 v7 h0 h1 ds
def G7:Nat->Γ (Γ Δ)->Int->Δ->Γ Int->Γ Δ->Γ aS->Prop
 | 0,_,_,_,_,_,_=>False
 | n+1,x0,v7,v8,h0,h1,ds=>if decide ((↑(aG v8):Int)>0)then aX .i64 ((↑(aG v8):Int)-1)/\0<=(↑(aG v8):Int)-1/\(↑(aG v8):Int)-1<(↑(aG v8):Int)/\if(↑(cN (aD (cC (bO v8)) (aE ((↑(aG v8):Int)-1)) 0)):Int)==32 then aX .i64 ((↑(aG v8):Int)-1)/\0<=(↑(aG v8):Int)-1/\(↑(aG v8):Int)-1<=(↑(aG v8):Int)/\G7 n x0 v7 (aO v8 0 (aE ((↑(aG v8):Int)-1))) h0 h1 ds else(aF h1+1)*16<=140737488355328/\aX .i64 (v7+1)/\Ba n (v7+1) (h1++[v8]) x0 h0 ds else(aF h1+1)*16<=140737488355328/\aX .i64 (v7+1)/\Ba n (v7+1) (h1++[v8]) x0 h0 ds
end
theorem aWd(ds:Γ aS)(K:fG)(q:Nat->Value):∀n,(∀ {x0},aWc n x0 ds->St yc (x0,()) ds [] K q)/\(∀ {v4 h0 x0},NO n v4 h0 x0 ds->Cu yc 3 ([eL 0 (.sl .str) x0,eW 3 0,eI 4 v4],[cL (.int .i64) h0]) ds [] K q)/\(∀ {v5 h0 x0 v4},NP n v5 h0 x0 v4 ds->Cu yc 6 ([eL 0 (.sl .str) x0,eW 3 0,eI 4 v4,eI 5 v5],[cL (.int .i64) h0]) ds [] K q)/\(∀ {v7 h1 x0 h0},Ba n v7 h1 x0 h0 ds->Cu yc 12 ([eL 0 (.sl .str) x0,eW 3 0,eW 6 1,eI 7 v7],[cL (.int .i64) h0,cL .str h1]) ds [] K q)/\(∀ {v8 v9 x0 v7 h0 h1},D6 n v8 v9 x0 v7 h0 h1 ds->Cu yc 16 ([eL 0 (.sl .str) x0,eW 3 0,eW 6 1,eI 7 v7,eS 8 v8,eI 9 v9],[cL (.int .i64) h0,cL .str h1]) ds [] K q)/\(∀ {v8 v10 x0 v7 v9 h0 h1},Ky n v8 v10 x0 v7 v9 h0 h1 ds->Cu yc 22 ([eL 0 (.sl .str) x0,eW 3 0,eW 6 1,eI 7 v7,eS 8 v8,eI 9 v9,eI 10 v10],[cL (.int .i64) h0,cL .str h1]) ds [] K q)/\(∀ {x0 v7 v8 h0 h1},G7 n x0 v7 v8 h0 h1 ds->Cu yc 25 ([eL 0 (.sl .str) x0,eW 3 0,eW 6 1,eI 7 v7,eS 8 v8],[cL (.int .i64) h0,cL .str h1]) ds [] K q):=nI ⟨aH,aH,aH,aH,aH,aH,aH⟩ λn ⟨i,i3,i6,i12,i16,i22,i25⟩=>⟨pq 12<|sQ ((by decide):(12:Int)<=(12:Int))<|sQ ((by decide):(96:Int)<=(281474976710656:Int))<|bX i3,
  bD (bX i6)<|bX i12,
  cP<|bD (cP<|cP<|cP<|bD (cP<|cP<|cP<|aL<|bX i6)<|aL<|bX i6)<|aL<|bX i3,
  bD (bX i16) cM,
  cP<|bD (bD (aL<|cP<|cP<|aL<|cP<|cP<|bX i22)<|cP<|cP<|aL<|cP<|cP<|bX i22)<|bX i25,
  cP<|bD (aL<|aL<|bX i22)<|aL<|bX i16,
  bD (aL<|cP<|bD (aL<|cP<|bX i25)<|aL<|aL<|bX i12)<|dK<|aL<|aL<|bX i12⟩
def J1:Nat->Γ Δ->Γ Int->Γ Int
 | _,[],h=>h
 | k,c::r,h=>J1 (k+1) r (if((c.size:Nat):Int)>h.getD k 0 then h.set k (c.size:Nat)else h)
def wK(n:Nat):Γ UInt8:=aP n 32
def TT:Nat->Γ Δ->Γ Int->Γ UInt8->Γ UInt8
 | _,[],_,v=>v
 | k,c::r,h,v=>TT (k+1) r h ((v++(if k>0 then [32,32] else [])++c.data.toList)++wK (h.getD k 0-(c.size:Nat)).toNat)
def Bb(h:Γ Int)(r:Γ Δ):Δ:=⟨(fO (TT 0 r h []) 32).toArray⟩
def UP(x0:Γ (Γ Δ)):Γ Int:=x0.foldl (λh r=>J1 0 r h) [0,0,0,0,0,0,0,0,0,0,0,0]
def AC(x0:Γ (Γ Δ)):Γ Δ:=x0.map (Bb (UP x0))
def aNO(x0:Γ (Γ Δ)):Prop:=x0.length<=1100000/\∀r∈x0,r.length<=12/\∀c∈r,c.size<=4000000
def Cd(h:Γ Int):Prop:=h.length=12/\∀c∈h,0<=c/\c<=4000000
theorem aED{h:Γ Int}(hw:Cd h)(k:Nat):0<=h.getD k 0/\h.getD k 0<=4000000:=by
 by_cases hk:k<h.length
 ·exact hw.2 _ (cF h k 0 hk)
 grind
theorem aEE{h:Γ Int}(hw:Cd h)(k:Nat){c:Δ}(hc:c.size<=4000000):Cd (if((c.size:Nat):Int)>h.getD k 0 then h.set k (c.size:Nat)else h):=by
 split
 ·refine⟨by rw[vS];exact hw.1,λy hy=>?_⟩;rcases List.mem_or_eq_of_mem_set hy with hy | rfl
  ·exact hw.2 y hy
  lia
 lia
theorem aEF:∀(r:Γ Δ) (k:Nat) (h:Γ Int),Cd h->(∀c∈r,c.size<=4000000)->Cd (J1 k r h)
 | [],_,_,hw,_=>hw
 | c::r,k,h,hw,hc=>aEF r (k+1) _ (aEE hw k (hc c (aR ..))) (λd hd=>hc d (aM _ hd))
theorem bDD(v:Δ)(h:0<v.size)(hl:v.data.toList.getD (v.size-1) 0=32):fO (aO v 0 (v.size-1)).data.toList 32=fO v.data.toList 32:=by
 obtain⟨⟨l⟩⟩:=v;have hs:(aA ⟨l⟩).size=l.length:=rfl;rw[hs]at *;have hne:l≠[]:=λhn=>by grind
 have hd:l=l.dropLast++[32]:=by
  have h1:=List.dropLast_concat_getLast hne;have h2:l.getLast hne=32:=by
   have:l.getD (l.length-1) 0=32:=hl
   grind
  lia
 conv=>rhs;rw[hd]
 simp[fO]
theorem aK8(v:Δ)(hl:0<v.size->v.data.toList.getD (v.size-1) 0≠32):(⟨(fO v.data.toList 32).toArray⟩:Δ)=v:=by
 obtain⟨⟨l⟩⟩:=v;have hs:(aA ⟨l⟩).size=l.length:=rfl;rw[hs]at hl
 congr 2
 show fO l 32=l;rcases IA l with rfl | ⟨a,b,hab⟩
 ·rfl
 ·rw[IB]at hab;subst hab;have hb:b≠32:=by
   grind
  grind [fO,B0,List.dropWhile_cons]
section
variable {x0:Γ (Γ Δ)} {ds:Γ aS}
variable {h0:Γ Int}
theorem bDE{v7:Nat}{h1:Γ Δ}(hv:v7<1100000)(hl:h1.length<=1100000):∀(m:Nat) (v8:Δ),v8.size=m->v8.size<=100000000->(∃n,Ba n ((v7:Int)+1) (h1++[⟨(fO v8.data.toList 32).toArray⟩]) x0 h0 ds)->∃n,G7 n x0 (v7:Int) v8 h0 h1 ds:=by
 intro m
 induction m with
 | zero =>
  intro v8 hm _ ⟨n,hn⟩;refine⟨n+1,?_⟩;rw[G7]
  grind [aK8,aJ]
 | succ m ih =>
  intro v8 hm hb ⟨n,hn⟩;have e1:(((v8.size:Nat):Int)-1).toNat=v8.size-1:=by lia
  by_cases hc:v8.data.toList.getD (v8.size-1) 0=32
  ·obtain⟨n',hn'⟩:=ih (aO v8 0 (v8.size-1)) (by simp_all) (by grind [mW]) ⟨n,by grind [bDD]⟩;refine⟨n'+1,?_⟩;rw[G7,π (by lia)];rw[π (by simp_all)]
   grind [aJ]
  ·refine⟨n+1,?_⟩;rw[G7,π (by lia)];rw[ν (λh=>hc (by
    exact jJ.1 (by lia)))]
   grind [aK8,aJ]
theorem aRg{v7 v9:Nat}{h1:Γ Δ}(hw:Cd h0)(h9:v9<12):∀(k:Nat) (v8:Δ) (v10:Int),k=(h0.getD v9 0-v10).toNat->0<=v10->v8.size+k<=100000000->v10<=4000000 ->
  (∃n,D6 n ⟨(v8.data.toList++wK k).toArray⟩ ((v9:Int)+1) x0 (v7:Int) h0 h1 ds)->∃n,Ky n v8 v10 x0 (v7:Int) (v9:Int) h0 h1 ds:=by
 have hg:=aED hw v9;intro k
 induction k with
 | zero =>
  intro v8 v10 hk h10 hs hv ⟨n,hn⟩;refine⟨n+1,?_⟩;have e:(⟨(v8.data.toList++wK 0).toArray⟩:Δ)=v8:=by simp[wK]
  refine⟨by lia,by rw[hw.1];lia,?_⟩
  grind [aJ]
 | succ k ih =>
  intro v8 v10 hk h10 hs hv ⟨n,hn⟩;have s1:(aA #[32]).size=1:=rfl;have e:(⟨((v8++aA #[32]).data.toList++wK k).toArray⟩:Δ)=⟨(v8.data.toList++wK (k+1)).toArray⟩:=by
   simp[wK,List.replicate_succ]
  obtain⟨n',hn'⟩:=ih (v8++aA #[32]) (v10+1) (by lia) (by lia) (by grind) (by lia) ⟨n,by lia⟩;refine⟨n'+1,?_⟩;rw[Ky]
  grind [aJ]
theorem bDF{v7:Nat}{h1:Γ Δ}(hw:Cd h0)(h7:v7<x0.length)(hr:(x0.getD v7 []).length<=12)(hc:∀c∈x0.getD v7 [],c.size<=4000000)(hv:v7<1100000)(hl:h1.length<=1100000) :
  ∀(k v9:Nat) (v8:Δ),v9+k=(x0.getD v7 []).length->v8.size<=v9*4000002->(∃n,Ba n ((v7:Int)+1) (h1++[⟨(fO (TT v9 ((x0.getD v7 []).drop v9) h0 v8.data.toList) 32).toArray⟩]) x0 h0 ds)->∃n,D6 n v8 (v9:Int) x0 (v7:Int) h0 h1 ds:=by
 intro k
 induction k with
 | zero =>
  intro v9 v8 hk hs hn;rw[sV _ v9 (by lia)]at hn;obtain⟨n,hn⟩:=bDE (v8:=v8) hv hl _ rfl (by lia) hn;refine⟨n+1,?_⟩;rw[D6]
  grind
 | succ k ih =>
  intro v9 v8 hk hs hn;have h9:v9<(x0.getD v7 []).length:=by lia
  have hcell:=hc _ (cF (x0.getD v7 []) v9 aC h9);have hg:=aED hw v9;have s2:(aA #[32,32]).size=2:=rfl;have z:∀l:Γ UInt8,(aA l.toArray).size=l.length:=λl=>gA;rw[dQ _ v9 aC h9]at hn;simp only[TT]at hn;generalize hcl:(x0.getD v7 []).getD v9 aC=c at *;have hcs:c.data.toList.length=c.size:=rfl;have hv8:v8.data.toList.length=v8.size:=rfl;by_cases h0':v9>0
  ·have e:(⟨((v8++aA #[32,32]++c).data.toList++wK (h0.getD v9 0-(c.size:Nat)).toNat).toArray⟩:Δ).data.toList=(v8.data.toList++[32,32]++c.data.toList)++wK (h0.getD v9 0-(c.size:Nat)).toNat:=by
    rfl
   obtain⟨n,hn⟩:=aRg (x0:=x0) (ds:=ds) (v7:=v7) (h1:=h1) hw (by lia) _ (v8++aA #[32,32]++c) ((c.size:Nat):Int) rfl (by lia) (by grind) (by lia) (ih (v9+1) _ (by lia) (by rw[z];simp only[bS,wK,Hz,u7,hcs,hv8];grind) (by grind));refine⟨n+1,?_⟩;rw[D6]
   grind
  ·have e:(⟨((v8++c).data.toList++wK (h0.getD v9 0-(c.size:Nat)).toNat).toArray⟩:Δ).data.toList=(v8.data.toList++[]++c.data.toList)++wK (h0.getD v9 0-(c.size:Nat)).toNat:=by
    simp
   obtain⟨n,hn⟩:=aRg (x0:=x0) (ds:=ds) (v7:=v7) (h1:=h1) hw (by lia) _ (v8++c) ((c.size:Nat):Int) rfl (by lia) (by grind) (by lia) (ih (v9+1) _ (by lia) (by grind [bS,wK,u7]) (by grind));refine⟨n+1,?_⟩;rw[D6]
   grind
theorem bDG(hw:Cd h0)(hx:x0.length<=1100000)(hr:∀r∈x0,r.length<=12/\∀c∈r,c.size<=4000000):∀(k v7:Nat) (h1:Γ Δ),v7+k=x0.length->h1.length=v7->∃n,Ba n (v7:Int) h1 x0 h0 [⟨.sl .str,h1++(x0.drop v7).map (Bb h0)⟩]:=by
 intro k
 induction k with
 | zero =>
  intro v7 h1 hk hl;refine⟨1,?_⟩;rw[Ba,ν (by lia),sV _ v7 (by lia)];simp
 | succ k ih =>
  intro v7 h1 hk hl;have h7:v7<x0.length:=by lia
  obtain⟨r1,r2⟩:=hr _ (cF x0 v7 [] h7);obtain⟨n,hn⟩:=ih (v7+1) (h1++[Bb h0 (x0.getD v7 [])]) (by lia) (by grind);have e:h1++[Bb h0 (x0.getD v7 [])]++F9 (Bb h0) (x0.drop (v7+1))=h1++F9 (Bb h0) (x0.drop v7):=by
   grind [dQ]
  rw[e]at hn;obtain⟨n',hn'⟩:=bDF (h1:=h1) (v7:=v7) hw h7 r1 r2 (by lia) (by lia) (x0.getD v7 []).length 0 aC (by lia) (aY _) ⟨n,hn⟩;refine⟨n'+1,?_⟩;rw[Ba,π (by lia)];exact hn'
theorem bJx{v4:Nat}(h4:v4<x0.length)(hr:(x0.getD v4 []).length<=12)(hc:∀c∈x0.getD v4 [],c.size<=4000000)(hv:v4<1100000) :
  ∀(k v5:Nat) (h0:Γ Int),v5+k=(x0.getD v4 []).length->Cd h0->(∃n,NO n ((v4:Int)+1) (J1 v5 ((x0.getD v4 []).drop v5) h0) x0 ds)->∃n,NP n (v5:Int) h0 x0 (v4:Int) ds:=by
 intro k
 induction k with
 | zero =>
  intro v5 h0 hk hw ⟨n,hn⟩;rw[sV _ v5 (by lia)]at hn;refine⟨n+1,?_⟩;rw[NP];simp only[aK];refine⟨by lia,by lia,?_⟩;rw[ν (by lia)];exact⟨by grind [aJ],hn⟩
 | succ k ih =>
  intro v5 h0 hk hw hn;have h5:v5<(x0.getD v4 []).length:=by lia
  have hcell:=hc _ (cF (x0.getD v4 []) v5 aC h5);have hlen:=hw.1;rw[dQ _ v5 aC h5]at hn;have hw2:=aEE hw v5 hcell;obtain⟨n,hn⟩:=ih (v5+1) _ (by lia) hw2 hn;refine⟨n+1,?_⟩;rw[NP];simp;by_cases hgt:((((x0.getD v4 []).getD v5 aC).size:Nat):Int)>h0.getD v5 0
  ·grind [aJ]
  ·grind [aJ]
theorem bJy(hx:x0.length<=1100000)(hr:∀r∈x0,r.length<=12/\∀c∈r,c.size<=4000000):∀(k v4:Nat) (h0:Γ Int),v4+k=x0.length->Cd h0 ->
  ∃n,NO n (v4:Int) h0 x0 [⟨.sl .str,x0.map (Bb ((x0.drop v4).foldl (λh r=>J1 0 r h) h0))⟩]:=by
 intro k
 induction k with
 | zero =>
  intro v4 h0 hk hw;obtain⟨n,hn⟩:=bDG (x0:=x0) hw hx hr x0.length 0 [] (by lia) rfl;refine⟨n+1,?_⟩;rw[NO]
  grind
 | succ k ih =>
  intro v4 h0 hk hw;have h4:v4<x0.length:=by lia
  obtain⟨r1,r2⟩:=hr _ (cF x0 v4 [] h4);obtain⟨n,hn⟩:=ih (v4+1) (J1 0 (x0.getD v4 []) h0) (by lia) (aEF _ 0 h0 hw r2);rw[dQ x0 v4 [] h4,iQ];obtain⟨n',hn'⟩:=bJx (x0:=x0) h4 r1 r2 (by lia) (x0.getD v4 []).length 0 h0 (by lia) hw ⟨n,hn⟩;refine⟨n'+1,?_⟩;rw[NO]
  lia
end
theorem bJz:Cd [0,0,0,0,0,0,0,0,0,0,0,0]:=⟨rfl,by simp⟩
theorem aWe(x0:Γ (Γ Δ))(h:aNO x0):∃n,aWc n x0 [⟨.sl .str,AC x0⟩]:=by
 obtain⟨n,hn⟩:=bJy h.1 h.2 x0.length 0 _ (by omega) bJz;refine⟨n+1,?_⟩;rw[aWc];simpa [AC,UP] using hn
def bDH:KK:=mL yc (DO qe) aNO (AC,()) (λ⟨x0,_⟩ h hwf K q =>
 let ⟨n,hn⟩:=aWe x0 h
 (aWd _ K q n).1 hn)
def aWf:gC:=D0 qf [.v (.str)] [.bool] []
mutual
def aWg:Nat->Δ->Γ aS->Prop
 | 0,_,_=>False
 | n+1,x0,ds=>J2 n 0 x0 ds
def J2:Nat->Int->Δ->Γ aS->Prop
 | 0,_,_,_=>False
 | n+1,v3,x0,ds=>if decide (v3<(↑(aG x0):Int))then 0<=v3/\v3<(↑(aG x0):Int)/\if decide ((↑(cN (aD (cC (bO x0)) (aE v3) 0)):Int)<32)then ds=[aI .bool false] else 0<=v3/\v3<(↑(aG x0):Int)/\if decide ((↑(cN (aD (cC (bO x0)) (aE v3) 0)):Int)>126)then ds=[aI .bool false] else aX .i64 (v3+1)/\J2 n (v3+1) x0 ds else ds=[aI .bool (decide ((↑(aG x0):Int)<=100))]
end
def aWh(ds:Γ aS)(K:fG)(q:Nat->Value):∀n,(∀ {x0},aWg n x0 ds->St aWf (x0,()) ds [] K q)/\(∀ {v3 x0},J2 n v3 x0 ds->Cu aWf 2 ([eS 0 x0,eI 3 v3],[]) ds [] K q):=nI ⟨aH,aH⟩ λn ⟨i,i2⟩=>⟨bX i2,
  bD (cP<|bD (jM cM)<|cP<|bD cM<|aL<|bX i2) cM⟩
def da(b:Int):Bool:=decide (32<=b)&&decide (b<=126)
def EM(x0:Δ):Bool:=(cD x0).all da&&decide (x0.size<=100)
theorem aWi(x0:Δ)(hw:Wf .str x0):aWg (x0.size+1+1) x0 [⟨.bool,EM x0⟩]:=by
 have hl:=sW x0;rw[aWg];have key:=uH (cD x0) 0 da [(⟨.bool,false⟩:aS)] [⟨.bool,decide (x0.size<=100)⟩] (λn i ds=>J2 n i x0 ds) (λn=>?_) (λn i hi hok ds hr=>?_) (λn i hi hok=>?_)
 ·rw[hl]at key;unfold EM;cases h:(cD x0).all da <;> rw[h]at key <;> simpa using key
 ·show J2 (n+1) ((cD x0).length:Int) x0 _;rw[J2,hl,ν (by simp)];simp only[aS.mk.injEq,heq_eq_eq,true_and,List.cons.injEq,and_true]
  congr 1
  exact propext ⟨λh=>by omega,λh=>by omega⟩
 ·simp only[da,aT,ε]at hok;rw[J2,π (by simp;omega)];simp only[aK,Ig];generalize (cD x0).getD i 0=c at *;refine⟨by omega,by omega,?_⟩;rw[ν (by simp only[ε];omega)];refine⟨by omega,by omega,?_⟩;rw[ν (by simp only[ε];omega)];exact⟨iJ (xs:=cD x0) (by rw[hl];exact hw) hi,hr⟩
 ·simp only[da,Bool.and_eq_false_iff,decide_eq_false_iff_not]at hok;rw[J2,π (by simp;omega)];simp only[aK,Ig];generalize (cD x0).getD i 0=c at *;refine⟨by omega,by omega,?_⟩;by_cases h1:c<32
  ·rw[π (by simpa using h1)] <;> trivial
  ·rw[ν (by simpa using h1)];refine⟨by omega,by omega,?_⟩;rw[π (by simp only[ε];omega)] <;> trivial
def bDI:KK:=mL aWf (DO qf) nP (EM,()) (λ⟨x0,_⟩ h hwf K q =>
 (aWh _ K q _).1 (aWi x0 hwf.1))
def aWj:gC:=D0 qg [.v (.sl .str)] [.bool] [bDI]
mutual
def aWk:Nat->Γ Δ->Γ aS->Prop
 | 0,_,_=>False
 | n+1,x0,ds=>NQ n 0 x0 ds
def NQ:Nat->Int->Γ Δ->Γ aS->Prop
 | 0,_,_,_=>False
 | n+1,v3,x0,ds=>if decide (v3<(x0.length:Int))then 0<=v3/\v3<(x0.length:Int)/\if !EM (aD x0 (aE v3) aC)then ds=[aI .bool false] else aX .i64 (v3+1)/\NQ n (v3+1) x0 ds else ds=[aI .bool (decide ((x0.length:Int)<=200))]
end
def aWl(ds:Γ aS)(K:fG)(q:Nat->Value):∀n,(∀ {x0},aWk n x0 ds->St aWj (x0,()) ds [] K q)/\(∀ {v3 x0},NQ n v3 x0 ds->Cu aWj 2 ([eL 0 .str x0,eI 3 v3],[]) ds [] K q):=nI ⟨aH,aH⟩ λn ⟨i,i2⟩=>⟨bX i2,
  bD (cP<|bH<|bD cM<|aL<|bX i2) cM⟩
def G8(x0:Γ Δ):Bool:=x0.all EM&&decide (x0.length<=200)
theorem aWm(x0:Γ Δ)(hw:Wf (.sl .str) x0):aWk (x0.length+1+1) x0 [⟨.bool,G8 x0⟩]:=by
 rw[aWk];have key:=uH x0 aC EM [(⟨.bool,false⟩:aS)] [⟨.bool,decide (x0.length<=200)⟩] (λn i ds=>NQ n i x0 ds) (λn=>?_) (λn i hi hok ds hr=>?_) (λn i hi hok=>?_)
 ·unfold G8;cases h:x0.all EM <;> rw[h]at key <;> simpa using key
 ·rw[NQ,ν (by simp)];simp only[aS.mk.injEq,heq_eq_eq,true_and,List.cons.injEq,and_true]
  congr 1
  exact propext ⟨λh=>by omega,λh=>by omega⟩
 ·rw[NQ,π (by simp;omega)];simp only[aK];refine⟨by omega,by omega,?_⟩;rw[ν (by rw[hok];simp)];exact⟨iJ hw.1 hi,hr⟩
 ·rw[NQ,π (by simp;omega)];simp only[aK];refine⟨by omega,by omega,?_⟩;rw[π (by rw[hok];simp)] <;> trivial
def bDJ:KK:=mL aWj (DO qg) nP (G8,()) (λ⟨x0,_⟩ h hwf K q =>
 (aWl _ K q _).1 (aWm x0 hwf.1))
def G9(x0:Γ Δ):Γ Δ:=if !G8 x0 then [] else x0
def NR(x0:Γ Δ):Int:=if !G8 x0 then 5 else 0
def bDK:KK:=mV Tryz.func242 [.own .str] [.sl .str,.int .i64] [bDJ] nP (λ_=>[none]) (G9,NR,()) λ_=>bH<|vY pr pr
def aWn:gC:=D0 qh [.v (.sl cZ)] [.sl .str,.int .i64] [aMW,aRf,Wt,bDH,bDK]
mutual
def aNP:Nat->Γ b6->Γ aS->Prop
 | 0,_,_=>False
 | n+1,x0,ds=>if !w7 x0 then ds=[aI (.sl .str) [],aI (.int .i64) 1] else Ro n 0 ([[aA #[100,97,121],aA #[98,114,111,107,101,110],aA #[119,111,114,110]]]) x0 ds
def Ro:Nat->Int->Γ (Γ Δ)->Γ b6->Γ aS->Prop
 | 0,_,_,_,_=>False
 | n+1,v5,h0,x0,ds=>if decide (v5<(x0.length:Int))then 0<=v5/\v5<(x0.length:Int)/\je (aD x0 (aE v5) (0,0,0,())).1/\(aF h0+1)*24<=140737488355328/\aX .i64 (v5+1)/\Ro n (v5+1) (h0++[[NN (aD x0 (aE v5) (0,0,0,())).1,gV (aD x0 (aE v5) (0,0,0,())).2.1,gV (aD x0 (aE v5) (0,0,0,())).2.2.1]]) x0 ds else aNO h0/\ds=[aI (.sl .str) (G9 (AC h0)),aI (.int .i64) (NR (AC h0))]
end
def aWo(ds:Γ aS)(K:fG)(q:Nat->Value):∀n,(∀ {x0},aNP n x0 ds->St aWn (x0,()) ds [] K q)/\(∀ {v5 h0 x0},Ro n v5 h0 x0 ds->Cu aWn 5 ([eL 0 cZ x0,eW 4 0,eI 5 v5],[some (iE.mk (.sl .str) h0 true none none)]) ds [] K q):=nI ⟨aH,aH⟩ λn ⟨i,i5⟩=>⟨bH<|bD cM<|bX i5,
  bD (cP<|aL<|bH<|bH<|aL<|aL<|bX i5)<|aL<|bH cM⟩
def PN:Γ Δ:=[aA #[100,97,121],aA #[98,114,111,107,101,110],aA #[119,111,114,110]]
def Ce(f:b6):Γ Δ:=[NN f.1,gV f.2.1,gV f.2.2.1]
def aK9(x0:Γ b6):Prop:=w7 x0=true->x0.length<=1000/\∀f∈x0,je f.1/\∀c∈Ce f,c.size<=4000000
def J3(x0:Γ b6):Γ Δ:=if w7 x0 then G9 (AC (PN::x0.map Ce))else []
def NS(x0:Γ b6):Int:=if w7 x0 then NR (AC (PN::x0.map Ce))else 1
theorem aWp{x0:Γ b6}(hl:x0.length<=1000)(hc:∀f∈x0,∀c∈Ce f,c.size<=4000000):aNO (PN::x0.map Ce):=by
 refine⟨by grind,λr hr=>?_⟩;rcases bA.1 hr with rfl | hr
 ·exact⟨by decide,by decide⟩
 ·obtain⟨f,hf,rfl⟩:=cW.1 hr;exact⟨by show 3<=12;lia,hc f hf⟩
theorem aWq(x0:Γ b6)(hl:x0.length<=1000)(hc:∀f∈x0,je f.1/\∀c∈Ce f,c.size<=4000000):∀(k i:Nat),i+k=x0.length ->
  Ro (k+1) (i:Int) (PN::(x0.take i).map Ce) x0 [⟨.sl .str,G9 (AC (PN::x0.map Ce))⟩,⟨.int .i64,NR (AC (PN::x0.map Ce))⟩]:=by
 intro k
 induction k with
 | zero =>
  intro i hi;rw[Ro,ν (by lia),eA (by lia)];exact⟨aWp hl (λf hf=>(hc f hf).2),rfl⟩
 | succ k ih =>
  intro i hi;have hlt:i<x0.length:=by lia
  have h:=ih (i+1) (by lia);have hm:=cF x0 i ((0:Int),(0:Int),(0:Int),()) hlt;rw[Ro,π (by lia)];refine⟨by lia,by lia,(hc _ hm).1,?_,by grind [aJ],?_⟩
  ·grind
  ·have e:x0.take (i+1)=x0.take i++[x0.getD i ((0:Int),(0:Int),(0:Int),())]:=by
    simp_all
   rw[e,mF]at h;exact h
theorem aWr(x0:Γ b6)(h:aK9 x0):∃n,aNP n x0 [⟨.sl .str,J3 x0⟩,⟨.int .i64,NS x0⟩]:=by
 unfold J3 NS;cases hv:w7 x0 with
 | false =>
  refine⟨1,?_⟩;rw[aNP,π (by rw[hv];rfl)];rfl
 | true =>
  obtain⟨hl,hc⟩:=h hv;refine⟨x0.length+1+1,?_⟩;rw[aNP,ν (by rw[hv];simp)];simp only[if_true];exact aWq x0 hl hc x0.length 0 (by omega)
def bDL:KK:=mL aWn (DO qh) aK9 (J3,NS,()) (λ⟨x0,_⟩ h hwf K q =>
 let ⟨n,hn⟩:=aWr x0 h
 (aWo _ K q n).1 hn)
def aWs:gC:=D0 qi [.v iT] [.sl .str,.int .i64] [bB7,Wt]
mutual
def aNQ:Nat->bF->Γ aS->Prop
 | 0,_,_=>False
 | n+1,x0,ds=>if !Ir x0 then ds=[aI (.sl .str) [],aI (.int .i64) 1] else Rp n 0 ([]) x0 ds
def Rp:Nat->Int->Γ Δ->bF->Γ aS->Prop
 | 0,_,_,_,_=>False
 | n+1,v7,h2,x0,ds=>if decide (v7<9)then 0<=v7/\v7<9/\aG (aD [aA #[98,101,110,100,115],aA #[104,111,117,114,115],aA #[108,105,109,105,116,115],aA #[119,111,114,107,101,114,115],aA #[108,105,116,114,101,115],aA #[102,97,114,101,115],aA #[116,101,115,116,115],aA #[104,101,108,112,101,114,115],aA #[116,97,115,107,115]] (aE v7) aC)+1<=9223372036854775807/\0<=v7/\v7<(↑9:Int)/\aG (aD [aA #[98,101,110,100,115],aA #[104,111,117,114,115],aA #[108,105,109,105,116,115],aA #[119,111,114,107,101,114,115],aA #[108,105,116,114,101,115],aA #[102,97,114,101,115],aA #[116,101,115,116,115],aA #[104,101,108,112,101,114,115],aA #[116,97,115,107,115]] (aE v7) aC++aA #[32])+aG (gV (aD [(x0.1.length:Int),(x0.2.2.1.length:Int),(x0.2.2.2.1.length:Int),(x0.2.2.2.2.2.2.1.length:Int),x0.2.2.2.2.2.2.2.1.2.2.1,(x0.2.2.2.2.2.2.2.2.1.length:Int),(x0.2.2.2.2.2.2.2.2.2.1.length:Int),(x0.2.2.2.2.2.2.2.2.2.2.1.length:Int),(x0.2.2.2.2.2.2.2.2.2.2.2.1.length:Int)] (aE v7) 0))<=9223372036854775807/\(aF h2+1)*16<=140737488355328/\aX .i64 (v7+1)/\Rp n (v7+1) (h2++[aD [aA #[98,101,110,100,115],aA #[104,111,117,114,115],aA #[108,105,109,105,116,115],aA #[119,111,114,107,101,114,115],aA #[108,105,116,114,101,115],aA #[102,97,114,101,115],aA #[116,101,115,116,115],aA #[104,101,108,112,101,114,115],aA #[116,97,115,107,115]] (aE v7) aC++aA #[32]++gV (aD [(x0.1.length:Int),(x0.2.2.1.length:Int),(x0.2.2.2.1.length:Int),(x0.2.2.2.2.2.2.1.length:Int),x0.2.2.2.2.2.2.2.1.2.2.1,(x0.2.2.2.2.2.2.2.2.1.length:Int),(x0.2.2.2.2.2.2.2.2.2.1.length:Int),(x0.2.2.2.2.2.2.2.2.2.2.1.length:Int),(x0.2.2.2.2.2.2.2.2.2.2.2.1.length:Int)] (aE v7) 0)]) x0 ds else ds=[aI (.sl .str) h2,aI (.int .i64) 0]
end
def aWt(ds:Γ aS)(K:fG)(q:Nat->Value):∀n,(∀ {x0},aNQ n x0 ds->St aWs (x0,()) ds [] K q)/\(∀ {v7 h2 x0},Rp n v7 h2 x0 ds->Cu aWs 7 ([eW 4 0,eW 5 1,eW 6 2,eI 7 v7],[cL .str [aA #[98,101,110,100,115],aA #[104,111,117,114,115],aA #[108,105,109,105,116,115],aA #[119,111,114,107,101,114,115],aA #[108,105,116,114,101,115],aA #[102,97,114,101,115],aA #[116,101,115,116,115],aA #[104,101,108,112,101,114,115],aA #[116,97,115,107,115]],cL (.int .i64) [(x0.1.length:Int),(x0.2.2.1.length:Int),(x0.2.2.2.1.length:Int),(x0.2.2.2.2.2.2.1.length:Int),x0.2.2.2.2.2.2.2.1.2.2.1,(x0.2.2.2.2.2.2.2.2.1.length:Int),(x0.2.2.2.2.2.2.2.2.2.1.length:Int),(x0.2.2.2.2.2.2.2.2.2.2.1.length:Int),(x0.2.2.2.2.2.2.2.2.2.2.2.1.length:Int)],cL .str h2]) ds [] K q):=nI ⟨aH,aH⟩ λn ⟨i,i7⟩=>⟨bH<|bD cM<|bX i7,
  bD (cP<|aL<|cP<|bH<|aL<|aL<|aL<|bX i7) cM⟩
def Tl:Γ Δ:=[aA #[98,101,110,100,115],aA #[104,111,117,114,115],aA #[108,105,109,105,116,115],aA #[119,111,114,107,101,114,115],aA #[108,105,116,114,101,115],aA #[102,97,114,101,115],aA #[116,101,115,116,115],aA #[104,101,108,112,101,114,115],aA #[116,97,115,107,115]]
def Tm(x0:bF):Γ Int:=[((x0.1.length:Nat):Int),((x0.2.2.1.length:Nat):Int),((x0.2.2.2.1.length:Nat):Int),((x0.2.2.2.2.2.2.1.length:Nat):Int),x0.2.2.2.2.2.2.2.1.2.2.1,((x0.2.2.2.2.2.2.2.2.1.length:Nat):Int),((x0.2.2.2.2.2.2.2.2.2.1.length:Nat):Int),((x0.2.2.2.2.2.2.2.2.2.2.1.length:Nat):Int),((x0.2.2.2.2.2.2.2.2.2.2.2.1.length:Nat):Int)]
def yd(w:Δ)(n:Int):Δ:=w++aA #[32]++gV n
def NT(x0:bF):Γ Δ:=if Ir x0 then uQ yd Tl (Tm x0)else []
def NU(x0:bF):Int:=if Ir x0 then 0 else 1
theorem bDM(x0:bF)(hw:Wf iT x0):∀n∈Tm x0, -9223372036854775808<=n/\n<=9223372036854775807:=by
 have hmx:maxLen<=9223372036854775807:=by decide
 have a0:x0.1.length<=maxLen:=hw.1.1;have a2:x0.2.2.1.length<=maxLen:=hw.2.2.1.1;have a3:x0.2.2.2.1.length<=maxLen:=hw.2.2.2.1.1;have a6:x0.2.2.2.2.2.2.1.length<=maxLen:=hw.2.2.2.2.2.2.1.1;have a8:x0.2.2.2.2.2.2.2.2.1.length<=maxLen:=hw.2.2.2.2.2.2.2.2.1.1;have a9:x0.2.2.2.2.2.2.2.2.2.1.length<=maxLen:=hw.2.2.2.2.2.2.2.2.2.1.1;have aa:x0.2.2.2.2.2.2.2.2.2.2.1.length<=maxLen:=hw.2.2.2.2.2.2.2.2.2.2.1.1;have ab:x0.2.2.2.2.2.2.2.2.2.2.2.1.length<=maxLen:=hw.2.2.2.2.2.2.2.2.2.2.2.1.1;have a7:aX .i64 x0.2.2.2.2.2.2.2.1.2.2.1:=hw.2.2.2.2.2.2.2.1.2.2.1;rw[aJ]at a7;intro n hn;unfold Tm at hn;simp at hn
 lia
theorem bDN:∀w∈Tl,w.size<=7:=by
 intro w hw;unfold Tl at hw;simp at hw;rcases hw with rfl | rfl | rfl | rfl | rfl | rfl | rfl | rfl | rfl <;> decide
theorem aWu(x0:bF)(hn:∀n∈Tm x0, -9223372036854775808<=n/\n<=9223372036854775807):∀(k i:Nat) (h:Γ Δ),i+k=9->h.length=i ->
  Rp (k+1) (i:Int) h x0 [⟨.sl .str,h++uQ yd (Tl.drop i) ((Tm x0).drop i)⟩,⟨.int .i64,0⟩]:=by
 intro k
 induction k with
 | zero =>
  intro i h hi hl;obtain rfl:i=9:=by lia
  rw[Rp,ν (by lia)];have e:uQ yd (Tl.drop 9) ((Tm x0).drop 9)=[]:=rfl;rw[e,dN]
 | succ k ih =>
  intro i h hi hl;have lW:Tl.length=9:=rfl;have lN:(Tm x0).length=9:=rfl;have mw:=bDN _ (cF Tl i aC (by lia));have mn:=hn _ (cF (Tm x0) i 0 (by lia));have hz:=w5 _ mn.1 mn.2;have hnext:=ih (i+1) (h++[yd (Tl.getD i aC) ((Tm x0).getD i 0)]) (by lia) (by grind);rw[dQ Tl i aC (by lia),dQ (Tm x0) i 0 (by lia)];rw[cK]at hnext;rw[Rp,π (by lia)];have s1:(aA #[32]).size=1:=rfl;have hws:(Tl.getD i aC).size+1<=9223372036854775807:=by lia
  have hsum:(Tl.getD i aC++aA #[32]).size+(lD ((Tm x0).getD i 0)).size<=9223372036854775807:=by
   grind
  exact⟨by lia,by lia,hws,by lia,by lia,hsum,by lia,by rw[aJ];lia,hnext⟩
theorem aWv(x0:bF)(hw:Wf iT x0):∃n,aNQ n x0 [⟨.sl .str,NT x0⟩,⟨.int .i64,NU x0⟩]:=by
 unfold NT NU;cases hv:Ir x0 with
 | false =>
  refine⟨1,?_⟩;rw[aNQ,π (by rw[hv];rfl)];rfl
 | true =>
  refine⟨9+1+1,?_⟩;rw[aNQ,ν (by rw[hv];simp)];exact aWu x0 (bDM x0 hw) 9 0 [] (by omega) rfl
def bDO:KK:=mL aWs (DO qi) nP (NT,NU,()) (λ⟨x0,_⟩ h hwf K q =>
 let ⟨n,hn⟩:=aWv x0 hwf.1
 (aWt _ K q n).1 hn)
def aKA:Γ Δ:=[aA #[98,97,115,105,110],aA #[98,101,110,100],aA #[99,111,118,101,114],aA #[100,117,101],aA #[101,118,101,110,116],aA #[102,97,114,101],aA #[102,105,108,108],aA #[104,101,108,112],aA #[104,101,108,112,101,114],aA #[104,111,117,114],aA #[108,105,109,105,116],aA #[109,111,116,111,114],aA #[112,111,119,101,114],aA #[113,117,101,117,101],aA #[114,101,112,111,114,116],aA #[114,101,115,101,114,118,101],aA #[114,111,112,101],aA #[114,117,110,110,105,110,103],aA #[115,104,111,119],aA #[115,108,111,119,101,115,116],aA #[116,97,115,107],aA #[116,101,115,116],aA #[116,114,105,112,115],aA #[118,111,116,101],aA #[119,97,116,101,114],aA #[119,111,114,107,101,114]]
def bDP:KK:=mB Tryz.func154 [] [.sl .str] [] nP (aKA,()) λ_=>pr
def P89(x0:bF)(x1:Δ):Prop:=if aB x1==aB (aA #[114,117,110,110,105,110,103])then aCh (Wr x0.2.2.2.1 x0.2.2.1) (Ws x0.2.2.2.1 x0.2.2.1)/\True else if aB x1==aB (aA #[102,105,108,108])then aCh (Ww x0.2.2.2.2.2.2.2.2.2.2.1 x0.2.2.2.2.2.2.2.2.2.2.2.1) (Wx x0.2.2.2.2.2.2.2.2.2.2.1 x0.2.2.2.2.2.2.2.2.2.2.2.1)/\True else if aB x1==aB (aA #[114,101,112,111,114,116])then aK9 x0.2.2.2.2.2.2.2.2.2.1/\Wv (J3 x0.2.2.2.2.2.2.2.2.2.1) (NS x0.2.2.2.2.2.2.2.2.2.1)/\True else if aB x1==aB (aA #[115,104,111,119])then Wv (NT x0) (NU x0)/\True else True
def PO(x0:bF)(x1:Δ):Γ Δ:=if aB x1==aB (aA #[114,117,110,110,105,110,103])then NI (Wr x0.2.2.2.1 x0.2.2.1) (Ws x0.2.2.2.1 x0.2.2.1)else if aB x1==aB (aA #[102,105,108,108])then NI (Ww x0.2.2.2.2.2.2.2.2.2.2.1 x0.2.2.2.2.2.2.2.2.2.2.2.1) (Wx x0.2.2.2.2.2.2.2.2.2.2.1 x0.2.2.2.2.2.2.2.2.2.2.2.1)else if aB x1==aB (aA #[114,101,112,111,114,116])then AA (J3 x0.2.2.2.2.2.2.2.2.2.1) (NS x0.2.2.2.2.2.2.2.2.2.1)else if aB x1==aB (aA #[115,104,111,119])then AA (NT x0) (NU x0)else if aB x1==aB (aA #[104,101,108,112])then aKA else []
def PP(x0:bF)(x1:Δ):Bool:=if aB x1==aB (aA #[114,117,110,110,105,110,103])then true else if aB x1==aB (aA #[102,105,108,108])then true else if aB x1==aB (aA #[114,101,112,111,114,116])then true else if aB x1==aB (aA #[115,104,111,119])then true else if aB x1==aB (aA #[104,101,108,112])then true else false
def bJ0:KK:=mB Tryz.func89 [.p iT,.v (.str)] [.sl .str,.bool] [bD0,aKx,bDA,bDL,xz,bDO,bDP] P89 (PO,PP,()) λ_=>dL (bH<|aL pr)<|dL (bH<|aL pr)<|dL (aL<|aL pr)<|dL (bH<|aL pr)<|vY (bH pr) pr
def aCj(x0:Δ):Prop:=((P88 x0 32)/\(if((↑(aF (bU x0 32)):Int) != 2)=true then True else((1<(↑(aF (bU x0 32)):Int))/\((LR (aD (bU x0 32) 1 aC))/\(if(!jU (aD (bU x0 32) 1 aC))=true then True else(if((↑(aF (b5 (aD (bU x0 32) 1 aC))):Int) != 3)=true then True else((0<(↑(aF (bU x0 32)):Int))/\True)))))))
def yC(x0:Δ):Δ:=if(↑(aF (bU x0 32)):Int) != 2 then aA #[] else if !jU (aD (bU x0 32) 1 aC)then aA #[] else if(↑(aF (b5 (aD (bU x0 32) 1 aC))):Int) != 3 then aA #[] else aD (bU x0 32) 0 aC
def fR(x0:Δ):Γ Int:=if(↑(aF (bU x0 32)):Int) != 2 then [] else if !jU (aD (bU x0 32) 1 aC)then [] else if(↑(aF (b5 (aD (bU x0 32) 1 aC))):Int) != 3 then [] else b5 (aD (bU x0 32) 1 aC)
def u4(x0:Δ):Bool:=if(↑(aF (bU x0 32)):Int) != 2 then false else if !jU (aD (bU x0 32) 1 aC)then false else if(↑(aF (b5 (aD (bU x0 32) 1 aC))):Int) != 3 then false else true
def aRh:KK:=mB Tryz.func244 [.v (.str)] [.str,.sl Za,.bool] [aB9,Wj] aCj (yC,fR,u4,()) λ_=>aL<|Yz pr<|pq 1<|aL<|aL<|Yz (jM pr)<|Yz pr<|pq 0<|aL pr
def aNS(x0:Δ):Prop:=((aCj x0)/\(if(!u4 x0)=true then True else((0<(↑(aF (fR x0)):Int))/\((1<(↑(aF (fR x0)):Int))/\((2<(↑(aF (fR x0)):Int))/\True)))))
def NV(x0:Δ):dO:=if !u4 x0 then(aC,0,0,0,())else if !Ij (yC x0,aD (fR x0) 0 0,aD (fR x0) 1 0,aD (fR x0) 2 0,())then(aC,0,0,0,())else(yC x0,aD (fR x0) 0 0,aD (fR x0) 1 0,aD (fR x0) 2 0,())
def EN(x0:Δ):Bool:=if !u4 x0 then false else if !Ij (yC x0,aD (fR x0) 0 0,aD (fR x0) 1 0,aD (fR x0) 2 0,())then false else true
def bDQ:KK:=mB Tryz.func155 [.v (.str)] [.cons .str cZ,.bool] [aRh,aQe] aNS (NV,EN,()) λ_=>aL<|dL pr<|pq 0<|aL<|pq 1<|aL<|pq 2<|aL<|bH<|vY pr pr
def aWw:gC:=D0 qj [.v (.sl .str),.v (.str),.v (.int .i64)] [.int .i64,.int .i64] []
mutual
def bDR:Nat->Γ Δ->Δ->Int->Γ aS->Prop
 | 0,_,_,_,_=>False
 | n+1,x0,x1,x2,ds=>Rq n 0 x0 x1 x2 ds
def Rq:Nat->Int->Γ Δ->Δ->Int->Γ aS->Prop
 | 0,_,_,_,_,_=>False
 | n+1,v8,x0,x1,x2,ds=>if decide (v8<(x0.length:Int))then 0<=v8/\v8<(x0.length:Int)/\if bL (aB (aD x0 (aE v8) aC)) (aB x1)then aX .i64 (v8+1)/\Rq n (v8+1) x0 x1 x2 ds else 0<=v8/\v8<(x0.length:Int)/\if aB (aD x0 (aE v8) aC)==aB x1 then ds=[aI (.int .i64) 0,aI (.int .i64) 4] else if(x0.length:Int)==x2 then ds=[aI (.int .i64) 0,aI (.int .i64) 5] else ds=[aI (.int .i64) v8,aI (.int .i64) 0] else if(x0.length:Int)==x2 then ds=[aI (.int .i64) 0,aI (.int .i64) 5] else ds=[aI (.int .i64) v8,aI (.int .i64) 0]
end
def aWx(ds:Γ aS)(K:fG)(q:Nat->Value):∀n,(∀ {x0 x1 x2},bDR n x0 x1 x2 ds->St aWw (x0,x1,x2,()) ds [] K q)/\(∀ {v8 x0 x1 x2},Rq n v8 x0 x1 x2 ds->Cu aWw 2 ([eL 0 .str x0,eS 1 x1,eI 2 x2,eI 8 v8],[]) ds [] K q):=nI ⟨aH,aH⟩ λn ⟨i,i2⟩=>⟨bX i2,
  pbS (λb0=>cP<|bD (aL<|bX i2)<|pkT b0<|cP<|bD cM<|bD cM cM) λb0=>dK<|pkF b0<|dK<|bD cM cM⟩
def PQ(x1:Δ):Γ Δ->Nat
 | []=>0
 | y::r=>if bL (aB y) (aB x1)=true then PQ x1 r+1 else 0
def NW(x0:Γ Δ)(x1:Δ)(x2:Int)(a:Nat):Int×Int:=if a<x0.length then(if(aB (x0.getD a aC)==aB x1)=true then(0,4)else if((x0.length:Int)==x2)=true then(0,5)else((a:Int),0))else if((x0.length:Int)==x2)=true then(0,5)else((a:Int),0)
def aCk(x0:Γ Δ)(x1:Δ)(x2:Int):Int:=(NW x0 x1 x2 (PQ x1 x0)).1
def aCl(x0:Γ Δ)(x1:Δ)(x2:Int):Int:=(NW x0 x1 x2 (PQ x1 x0)).2
theorem aWy(x0:Γ Δ)(x1:Δ)(x2:Int)(hm:x0.length<=maxLen):∀(k i:Nat),i+k=x0.length->Rq (k+1) (i:Int) x0 x1 x2 [⟨.int .i64,(NW x0 x1 x2 (i+PQ x1 (x0.drop i))).1⟩,⟨.int .i64,(NW x0 x1 x2 (i+PQ x1 (x0.drop i))).2⟩]:=by
 intro k
 induction k with
 | zero =>
  intro i hi;rw[Rq,bT (by lia),PQ,NW]
  lia
 | succ k ih =>
  intro i hi;have hlt:i<x0.length:=by lia
  have hu:=iJ hm hlt;have e3:(i:Int)+1=((i+1:Nat):Int):=by lia
  rw[Rq,π (by lia),dQ x0 i aC hlt,PQ,aK];refine⟨by lia,by lia,?_⟩;by_cases c:bL (aB (x0.getD i aC)) (aB x1)=true
  ·refine(π c).mpr ⟨hu,?_⟩;rw[π c,e3]
   grind
  ·refine(ν c).mpr ⟨by lia,by lia,?_⟩;rw[ν c,oJ,NW]
   lia
def ye:KK:=mL aWw (DO qj) nP (aCk,aCl,()) (λ⟨x0,x1,x2,_⟩ h hwf K q =>
 (aWx _ K q ((x0.length+2))).1 (by
  rw[bDR];have:=aWy x0 x1 x2 hwf.1.1 x0.length 0 (by omega)
  rwa [cO,pZ]at this))
def Rr(x0:Δ):Bool := !aB x0==aB x0
def bDS:KK:=mB Tryz.func400 [.v (.str)] [.bool] [] nP (Rr,()) λ_=>pr
end
theorem aNT(s:Δ):Rr s=false:=by simp[Rr]
def Kl(a b:Δ):Prop:=bL (aB a) (aB b)=true
theorem Kl.trans{a b c:Δ}(h:Kl a b)(k:Kl b c):Kl a c:=VW _ _ _ h k
theorem Kl.irr(a:Δ):¬Kl a a:=by simp[Kl,Kk]
theorem Kl.tri{a b:Δ}(h:¬Kl a b)(k:¬a=b):Kl b a:=by
 unfold Kl at *;cases h2:bL (aB b) (aB a)with
 | true=>rfl
 | false=>exact absurd ((bC a b).1 (beq_iff_eq.2 (aB1 _ _ (bV.2 h) h2))) k
theorem aKB(p:Nat->Bool)(k N:Nat)(hk:∀i,i<N->p i=decide (i<k)):∀(m i j:Nat),j-i<m->i<=k->k<=j->j<=N->iA p m i j=k
 | 0,i,j,h,_,_,_=>by lia
 | m+1,i,j,h,h1,h2,h3=>by
  simp[iA];split
  ·rw[hk _ (by lia)];split
   ·rename_i h4;simp at h4;exact aKB p k N hk m _ _ (by omega) (by omega) h2 h3
   ·exact aKB p k N hk m _ _ (by lia) h1 (by lia) (by lia)
  lia
theorem aCm{α:Type}(key:α->Δ)(x:Δ):∀(l:Γ α),l.Pairwise (λa b=>Kl (key a) (key b))->∃A B,l=A++B/\(∀y∈A,Kl (key y) x)/\∀y∈B,¬Kl (key y) x
 | [],_=>⟨[],[],rfl,λ_ h=>(by cases h),λ_ h=>(by cases h)⟩
 | y::r,h=>by
  obtain⟨h1,h2⟩:=wY.1 h;by_cases c:Kl (key y) x
  ·obtain⟨A,B,e,k1,k2⟩:=aCm key x r h2;refine⟨y::A,B,by rw[e];rfl,λz hz=>?_,k2⟩;rcases bA.1 hz with rfl | hz
   ·exact c
   ·exact k1 z hz
  ·refine⟨[],y::r,rfl,λ_ h=>(by cases h),λz hz hb=>?_⟩;rcases bA.1 hz with rfl | hz
   ·exact c hb
   ·exact c ((h1 z hz).trans hb)
theorem aKC{α:Type}{q:Nat->α->Bool}:∀ {l:Γ α} {i:Nat},nF q i l=true↔∀(j:Nat) (h:j<l.length),q (i+j) l[j]=true
 | [],i=>⟨λ_ j h=>absurd h (Hk j),λ_=>rfl⟩
 | x::r,i=>by
  simp[nF,aKC (l:=r)];constructor
  ·grind
  ·intro h;refine⟨h 0 (by simp),λj hj=>?_⟩;have:=h (j+1) (by grind)
   grind
theorem PR{α:Type}(q:α->Bool)(r:α->α->Prop)(rb:α->α->Bool)(d:α)(hr:∀a b,rb a b=true↔r a b)(tr:∀a b c,r a b->r b c->r a c)(l:Γ α):nF (λi x=>q x&&(i==0||rb (l.getD (i-1) d) x)) 0 l=true↔(∀x∈l,q x=true)/\l.Pairwise r:=by
 rw[aKC,DK];simp only[cO,aT,Bool.or_eq_true,hr,beq_iff_eq];constructor
 ·intro h;refine⟨λx hx=>?_,?_⟩
  ·obtain⟨j,hj,rfl⟩:=Ap.1 hx;exact(h j hj).1
  ·have step:∀j (hj:j+1<l.length),r l[j] l[j+1]:=λj hj=>by
    have:=(h (j+1) hj).2.resolve_left (by omega);rw[Nat.add_sub_cancel,oG l j d (by omega)]at this;exact this
   intro i j hi hj hij
   induction j with
   | zero=>omega
   | succ j ih =>
    rcases mS i j with hlt | hge
    ·exact tr _ _ _ (ih (by omega) hlt) (step j hj)
    ·obtain rfl:i=j:=by omega
     exact step i hj
 ·rintro⟨h1,h2⟩ j hj;refine⟨h1 _ (uN hj),?_⟩;rcases Nat.eq_zero_or_pos j with h | h
  ·exact .inl h
  ·refine .inr ?_;rw[oG l (j-1) d (by omega)];exact h2 (j-1) j (by omega) hj (by omega)
def EO(a b:Δ):Bool:=bL (aB a) (aB b)
variable {β:Type}
def pR(l:Γ (Δ×β))(x:Δ×β):Γ (Δ×β):=l.filter (λy=>EO y.1 x.1)++x::l.filter (λy => !EO y.1 x.1)
def Al(l:Γ (Δ×β))(x:Δ):Bool:=l.any λy=>decide (y.1=x)
def pC(l:Γ (Δ×β))(x:Δ×β)(m:Int):Int:=if Al l x.1=true then 4 else if(l.length:Int)>=m then 5 else 0
def pL(l:Γ (Δ×β))(x:Δ×β)(m:Int):Γ (Δ×β):=if pC l x m=0 then pR l x else l
structure bDT {β:Type} (l:Γ (Δ×β)) (x:Δ×β) (k:Nat):Prop where
 le:k<=l.length
 tk:l.take k=l.filter λy=>EO y.1 x.1
 dr:l.drop k=l.filter λy => !EO y.1 x.1
 has:∀d,k<l.length->(decide ((l.getD k d).1=x.1))=Al l x.1
 no:¬k<l.length->Al l x.1=false
 up:Al l x.1=false->(pR l x).Pairwise λa b=>Kl a.1 b.1
theorem PS{l:Γ (Δ×β)}(hs:l.Pairwise λa b=>Kl a.1 b.1)(x:Δ×β):bDT l x (l.filter λy=>EO y.1 x.1).length:=by
 obtain⟨A,B,e,k1,k2⟩:=aCm (λy:Δ×β=>y.1) x.1 l hs;have k1':∀y∈A,EO y.1 x.1=true:=k1;have k2':∀y∈B,¬EO y.1 x.1=true:=k2;have fA:l.filter (λy=>EO y.1 x.1)=A:=by
  rw[e,DF,B3.2 k1',rK.2 k2',dN]
 have fB:l.filter (λy => !EO y.1 x.1)=B:=by
  rw[e,DF,rK.2 (λy hy=>by grind),B3.2 (λy hy=>by grind),fV]
 have hA:Al A x.1=false:=by
  unfold Al;rw[fC];intro y hy h;have h:=of_decide_eq_true h
  grind [Kl.irr]
 have hB:Al l x.1=Al B x.1:=by
  unfold Al at *
  grind
 rw[fA];refine⟨by grind,by grind,by grind,λd hk=>?_,λhk=>?_,λhn=>?_⟩
 ·rw[hB];subst e;rw[oG _ _ _ hk,List.getElem_append_right (aU _)];simp only[Nat.sub_self];cases B with
  | nil=>grind
  | cons b r =>
   show decide (b.1=x.1)=(decide (b.1=x.1)||r.any λy=>decide (y.1=x.1));by_cases c:b.1=x.1
   ·lia
   ·rw[decide_eq_false c,Bool.false_or]
    symm
    rw[fC];intro y hy h;have h:=of_decide_eq_true h;have hb:=(wY.1 (K4.1 hs).2.1).1 y hy
    grind
 ·simp_all
 ·unfold pR;rw[fA,fB];have k3:∀y∈B,Kl x.1 y.1:=λy hy=>by
   grind [Kl.tri,Al,fC,decide_eq_true]
  subst e;rw[K4]at hs ⊢;refine⟨hs.1,wY.2 ⟨k3,hs.2.1⟩,λa ha b hb=>?_⟩
  grind
theorem XA{l:Γ (Δ×β)}(hs:l.Pairwise λa b=>Kl a.1 b.1)(x d:Δ×β)(p:Nat->Bool)(hp:∀i,i<l.length->(p i=true↔Kl (l.getD i d).1 x.1)):iA p (l.length+1) 0 l.length=(l.filter λy=>EO y.1 x.1).length:=by
 obtain⟨A',B',e',k1,k2⟩:=aCm (λy:Δ×β=>y.1) x.1 l hs;have h:=aKB p (l.filter λy=>EO y.1 x.1).length l.length (λi hi=>?_) (l.length+1) 0 l.length (by lia) (aY _) (List.length_filter_le ..) (aU _)
 ·lia
 ·have k1':∀y∈A',EO y.1 x.1=true:=k1;have k2':∀y∈B',¬EO y.1 x.1=true:=k2;have fA:l.filter (λy=>EO y.1 x.1)=A':=by
   rw[e',DF,B3.2 k1',rK.2 k2',dN]
  rcases mS i A'.length with c | c
  all_goals grind
theorem XB{l:Γ (Δ×β)}{x:Δ×β}{m:Int}{q:Δ×β->Bool}(h:∀y∈l,q y=true)(hx:q x=true):∀y∈pL l x m,q y=true:=by
 intro y hy;unfold pL at hy;split at hy
 ·rcases dC.1 hy with hy | hy
  all_goals grind
 grind
theorem XC(l:Γ (Δ×β))(x:Δ×β)(m:Int)(h:(l.length:Int)<=m):((pL l x m).length:Int)<=m:=by
 have e:(pR l x).length=l.length+1:=by
  unfold pR;have:∀l:Γ (Δ×β),(l.filter λy=>EO y.1 x.1).length+(l.filter λy => !EO y.1 x.1).length=l.length:=λl=>by
   induction l with
   | nil=>rfl
   | cons y l ih =>
    grind
  grind
 grind [pL,pC]
theorem yf{l:Γ (Δ×β)}{x:Δ×β}{m:Int}(hs:l.Pairwise λa b=>Kl a.1 b.1):(pL l x m).Pairwise λa b=>Kl a.1 b.1:=by
 unfold pL;split
 ·rename_i c;refine(PS hs x).up ?_;unfold pC at c
  lia
 lia
theorem aWz{l:Γ (Δ×β)}(hs:l.Pairwise λa b=>Kl a.1 b.1)(x:Δ×β){z:Int}(hz:z=(((l.filter λy=>EO y.1 x.1).length:Nat):Int)):[]++bG 0 (bK (0+aE z) l)++[x]++bG (0+aE z) (bK (0+aE ((l.length-0:Nat):Int)) l)=pR l x:=by
 have q:=PS hs x;rw[hz,aK,aK,cO,cO,Nat.sub_zero,nG,q.tk,q.dr,cK];rfl
theorem yg{β:Type}(x:Δ):∀(l:Γ (Δ×β)),l.Pairwise (λa b=>Kl a.1 b.1)->PQ x (l.map eE)=(l.filter λy=>EO y.1 x).length
 | [],_=>rfl
 | y::l,h=>by
  obtain⟨h1,h2⟩:=wY.1 h;rw[dY,PQ,uL,yg x l h2];by_cases c:EO y.1 x=true
  ·rw[π c,π (show bL _ _=true from c)];rfl
  ·have hn:∀z∈l,¬EO z.1 x=true:=λz hz hk=>c (show Kl y.1 x from Kl.trans (h1 z hz) (show Kl z.1 x from hk));rw[ν c,ν (show ¬bL _ _=true from c),rK.2 hn];rfl
theorem aKD{l:Γ (Δ×β)}(hs:l.Pairwise λa b=>Kl a.1 b.1)(x:Δ×β){m:Int}(hm:(l.length:Int)<=m):aCl (l.map eE) x.1 m=pC l x m/\(pC l x m=0->aCk (l.map eE) x.1 m=(((l.filter λy=>EO y.1 x.1).length:Nat):Int)):=by
 have q:=PS hs x;unfold aCk aCl NW pC;rw[yg x.1 l hs,eV];by_cases c:(l.filter λy=>EO y.1 x.1).length<l.length
 ·have e:(aB ((l.map eE).getD (l.filter λy=>EO y.1 x.1).length aC)==aB x.1)=Al l x.1:=by
   rw[<- q.has x c];exact oF.2 (by grind [bC])
  lia
 ·rw[q.no c]
  lia
noncomputable section
def RP{β:Type}(l:Γ (Δ×β))(e x:Δ×β)(m:Int)(s:Nat)(w:Γ (Δ×β)->Γ (Option jD)):Nat->Int->Γ Δ->Γ aS->Γ (Option jD)->Prop
 | 0,_,_,_,_=>False
 | n+1,v,h,ds,us=>if decide (v<(l.length:Int))then 0<=v/\v<(l.length:Int)/\(aF h+1)*16<=140737488355328/\aX .i64 (v+1)/\RP l e x m s w n (v+1) (h++[(aD l (aE v) e).1]) ds us else if aCl h x.1 m==0 then 0<=aCk h x.1 m/\aCk h x.1 m<=(↑(aF l-0):Int)/\(0+aF (bG 0 (bK (0+aE (aCk h x.1 m)) l)))*s<=140737488355328/\(aF ([]++bG 0 (bK (0+aE (aCk h x.1 m)) l))+1)*s<=140737488355328/\0<=aCk h x.1 m/\aCk h x.1 m<=(↑(aF l-0):Int)/\(aF ([]++bG 0 (bK (0+aE (aCk h x.1 m)) l)++[x])+aF (bG (0+aE (aCk h x.1 m)) (bK (0+aE (↑(aF l-0):Int)) l)))*s<=140737488355328/\ds=[aI (.int .i64) (aCl h x.1 m)]/\us=w ([]++bG 0 (bK (0+aE (aCk h x.1 m)) l)++[x]++bG (0+aE (aCk h x.1 m)) (bK (0+aE (↑(aF l-0):Int)) l))else ds=[aI (.int .i64) (aCl h x.1 m)]/\us=w l
theorem aKE{β:Type}{l:Γ (Δ×β)}{e x:Δ×β}{m:Int}{s:Nat}{w:Γ (Δ×β)->Γ (Option jD)}(hs:l.Pairwise λa b=>Kl a.1 b.1)(hl:(l.length:Int)<=m)(hm:m<=12:=by decide)(hq:s<=40:=by decide):∀(k i:Nat) (h:Γ Δ),i+k=l.length->h=(l.take i).map eE->RP l e x m s w (k+1) (i:Int) h [⟨.int .i64,pC l x m⟩] (w (pL l x m)):=by
 have big:∀y,y<=25->y*s<=140737488355328:=λy hy=>gI (yO hy hq) (by decide)
 intro k
 induction k with
 | zero =>
  intro i h hi hh;obtain⟨e1,e2⟩:=aKD hs x hl;have hk:=(PS hs x).le;have hn:h=l.map eE:=by rw[hh,eA (by omega)]
  rw[RP,ν (by simp only[ε];omega),hn];by_cases c:pC l x m=0
  ·have e2:=e2 c;have ei:=aWz hs x e2;have eu:pL l x m=pR l x:=π c;have lk:((l.take (0+aE (aCk (l.map eE) x.1 m))).drop 0).length<=12:=by
    rw[pZ,fL];omega
   have l2:((l.take (0+aE ((l.length-0:Nat):Int))).drop (0+aE (aCk (l.map eE) x.1 m))).length<=12:=by
    rw[List.length_drop,fL];omega
   refine(π (by rw[e1,c]<;>rfl)).mpr ⟨by omega,by omega,big _ (by omega),big _ (by rw[fV];omega),by omega,by omega,big _ ?_,?_,?_⟩
   ·rw[fV,bS,jE];omega
   ·rw[e1]
   ·rw[eu, <- ei]
  ·exact(ν (by rw[e1,beq_iff_eq];exact c)).mpr ⟨by rw[e1],by rw[show pL l x m=l from ν c]⟩
 | succ k ih =>
  intro i h hi hh;have hlt:i<l.length:=by omega
  have e3:(i:Int)+1=((i+1:Nat):Int):=by omega
  have hz:h.length<=12:=by rw[hh,eV,fL];omega
  rw[RP,π (by simp only[ε];omega),e3,aK];refine⟨by omega,by omega,by omega,by rw[aJ];omega,ih (i+1) _ (by omega) ?_⟩;rw[hh,iC,aV hlt,oG l i _ hlt,mF]<;>rfl
def RP0{β:Type}(l:Γ (Δ×β))(e x:Δ×β)(m:Int)(s:Nat)(w:Γ (Δ×β)->Γ (Option jD)):Nat->Γ aS->Γ (Option jD)->Prop
 | 0,_,_=>False
 | n+1,ds,us=>RP l e x m s w n 0 [] ds us
def aRi(x0:bF)(y:Γ dO):Γ (Option jD):=[some (iX iT [(y,x0.2.1,x0.2.2.1,x0.2.2.2.1,x0.2.2.2.2.1,x0.2.2.2.2.2.1,x0.2.2.2.2.2.2.1,x0.2.2.2.2.2.2.2.1,x0.2.2.2.2.2.2.2.2.1,x0.2.2.2.2.2.2.2.2.2.1,x0.2.2.2.2.2.2.2.2.2.2.1,x0.2.2.2.2.2.2.2.2.2.2.2.1,())])]
def aW0:gC:=D0 qk [.po iT,.v eC] [.int .i64] [ye]
def aW1(ds:Γ aS)(us:Γ (Option jD))(K:fG)(q:Nat->Value):∀n,(∀ {x0:bF} {x1},RP0 x0.1 (aC,0,0,0,()) x1 12 40 (aRi x0) n ds us->St aW0 (x0,x1,()) ds us K q)/\(∀ {v6 h2} {x0:bF} {x1},RP x0.1 (aC,0,0,0,()) x1 12 40 (aRi x0) n v6 h2 ds us->Cu aW0 3 ([eP 0 0 0 iT,eO 3 1 0 [],eW 5 2,eI 6 v6],[TD x0 3 4 5 6 7 8 9 10,some (iE.mk eC [x1] true none (some false)),cL .str h2,cL eC x0.1,cL cZ x0.2.2.1,cL cZ x0.2.2.2.1,cL c8 x0.2.2.2.2.2.2.1,cL eC x0.2.2.2.2.2.2.2.2.1,cL cZ x0.2.2.2.2.2.2.2.2.2.1,cL c8 x0.2.2.2.2.2.2.2.2.2.2.1,cL c8 x0.2.2.2.2.2.2.2.2.2.2.2.1]) ds us K q):=nI ⟨aH,aH⟩ λn ⟨i,i3⟩=>⟨bX i3,
  bD (cP<|aL<|aL<|bX i3)<|bH<|bD (cP<|aL<|aL<|cP<|aL Et) Et⟩
abbrev aEG:=bF
def aKF(x0:aEG)(x1:dO):aEG:=(pL x0.1 x1 12,x0.2)
def aCn(x0:aEG)(x1:dO):Int:=pC x0.1 x1 12
def bDV(x0:aEG)(x1:dO):Prop:=x0.1.Pairwise (λa b=>Kl a.1 b.1)/\(x0.1.length:Int)<=12
def bDW:KK:=mN aW0 (DO qk) bDV (λx=>[some ⟨iT,[aKF x.1 x.2.1]⟩]) (aCn,()) (λ⟨x0,x1,_⟩ h hwf K q =>
 (aW1 _ _ K q ((x0.1.length+2))).1 ((aKE h.1 h.2) _ 0 [] (cO _) rfl))
def aNU(x0:Δ):Prop:=((LR x0)/\(if(!jU x0)=true then True else(if((↑(aF (b5 x0)):Int) != 4)=true then True else((0<(↑(aF (b5 x0)):Int))/\((1<(↑(aF (b5 x0)):Int))/\((2<(↑(aF (b5 x0)):Int))/\((3<(↑(aF (b5 x0)):Int))/\True)))))))
def jf(x0:Δ):Int×Int×Int×Int×Unit:=if !jU x0 then(0,0,0,0,())else if(↑(aF (b5 x0)):Int) != 4 then(0,0,0,0,())else if !L7 (aD (b5 x0) 0 0,aD (b5 x0) 1 0,aD (b5 x0) 2 0,aD (b5 x0) 3 0,())then(0,0,0,0,())else(aD (b5 x0) 0 0,aD (b5 x0) 1 0,aD (b5 x0) 2 0,aD (b5 x0) 3 0,())
def EP(x0:Δ):Bool:=if !jU x0 then false else if(↑(aF (b5 x0)):Int) != 4 then false else if !L7 (aD (b5 x0) 0 0,aD (b5 x0) 1 0,aD (b5 x0) 2 0,aD (b5 x0) 3 0,())then false else true
def bDX:KK:=mB Tryz.func158 [.v (.str)] [.cons Za cZ,.bool] [Wj,aS5] aNU (jf,EP,()) λ_=>aL<|dL (jM pr)<|dL pr<|pq 0<|aL<|pq 1<|aL<|pq 2<|aL<|pq 3<|aL<|bH<|vY pr pr
def aNV(x0:Δ):Prop:=((LR x0)/\(if(!jU x0)=true then True else(if((↑(aF (b5 x0)):Int) != 3)=true then True else((0<(↑(aF (b5 x0)):Int))/\((1<(↑(aF (b5 x0)):Int))/\((2<(↑(aF (b5 x0)):Int))/\True))))))
def rZ(x0:Δ):b6:=if !jU x0 then(0,0,0,())else if(↑(aF (b5 x0)):Int) != 3 then(0,0,0,())else if !Ds (aD (b5 x0) 0 0,aD (b5 x0) 1 0,aD (b5 x0) 2 0,())then(0,0,0,())else(aD (b5 x0) 0 0,aD (b5 x0) 1 0,aD (b5 x0) 2 0,())
def o5(x0:Δ):Bool:=if !jU x0 then false else if(↑(aF (b5 x0)):Int) != 3 then false else if !Ds (aD (b5 x0) 0 0,aD (b5 x0) 1 0,aD (b5 x0) 2 0,())then false else true
def bDY:KK:=mB Tryz.func159 [.v (.str)] [.cons Za Ti,.bool] [Wj,aQf] aNV (rZ,o5,()) λ_=>aL<|dL (jM pr)<|dL pr<|pq 0<|aL<|pq 1<|aL<|pq 2<|aL<|bH<|vY pr pr
def jg(x0:Δ):b6:=if !jU x0 then(0,0,0,())else if(↑(aF (b5 x0)):Int) != 3 then(0,0,0,())else if !L8 (aD (b5 x0) 0 0,aD (b5 x0) 1 0,aD (b5 x0) 2 0,())then(0,0,0,())else(aD (b5 x0) 0 0,aD (b5 x0) 1 0,aD (b5 x0) 2 0,())
def EQ(x0:Δ):Bool:=if !jU x0 then false else if(↑(aF (b5 x0)):Int) != 3 then false else if !L8 (aD (b5 x0) 0 0,aD (b5 x0) 1 0,aD (b5 x0) 2 0,())then false else true
def bDZ:KK:=mB Tryz.func160 [.v (.str)] [.cons Za Ti,.bool] [Wj,aS7] aNV (jg,EQ,()) λ_=>aL<|dL (jM pr)<|dL pr<|pq 0<|aL<|pq 1<|aL<|pq 2<|aL<|bH<|vY pr pr
def aKG(x0:Δ):Prop:=((P88 x0 32)/\(if((↑(aF (bU x0 32)):Int) != 3)=true then True else((1<(↑(aF (bU x0 32)):Int))/\((aJG (aD (bU x0 32) 1 aC))/\((2<(↑(aF (bU x0 32)):Int))/\((aJG (aD (bU x0 32) 2 aC))/\((0<(↑(aF (bU x0 32)):Int))/\True)))))))
def J4(x0:Δ):bP:=if(↑(aF (bU x0 32)):Int) != 3 then(aC,0,0,())else if !C4 (aD (bU x0 32) 1 aC)then(aC,0,0,())else if !C4 (aD (bU x0 32) 2 aC)then(aC,0,0,())else if !CS (aD (bU x0 32) 0 aC,C3 (aD (bU x0 32) 1 aC),C3 (aD (bU x0 32) 2 aC),())then(aC,0,0,())else(aD (bU x0 32) 0 aC,C3 (aD (bU x0 32) 1 aC),C3 (aD (bU x0 32) 2 aC),())
def ER(x0:Δ):Bool:=if(↑(aF (bU x0 32)):Int) != 3 then false else if !C4 (aD (bU x0 32) 1 aC)then false else if !C4 (aD (bU x0 32) 2 aC)then false else if !CS (aD (bU x0 32) 0 aC,C3 (aD (bU x0 32) 1 aC),C3 (aD (bU x0 32) 2 aC),())then false else true
def bEa:KK:=mB Tryz.func161 [.v (.str)] [.cons .str Ti,.bool] [aB9,bDg,aQh] aKG (J4,ER,()) λ_=>aL<|dL pr<|pq 1<|aL<|aL<|pq 2<|aL<|aL<|pq 0<|aL<|vY (jM<|jM pr)<|vY (jM pr)<|bH<|vY pr pr
def aRj(x0:bF)(y:Γ bP):Γ (Option jD):=[some (iX iT [(x0.1,x0.2.1,x0.2.2.1,x0.2.2.2.1,x0.2.2.2.2.1,x0.2.2.2.2.2.1,y,x0.2.2.2.2.2.2.2.1,x0.2.2.2.2.2.2.2.2.1,x0.2.2.2.2.2.2.2.2.2.1,x0.2.2.2.2.2.2.2.2.2.2.1,x0.2.2.2.2.2.2.2.2.2.2.2.1,())])]
def aW2:gC:=D0 qm [.po iT,.v c8] [.int .i64] [ye]
def aW3(ds:Γ aS)(us:Γ (Option jD))(K:fG)(q:Nat->Value):∀n,(∀ {x0:bF} {x1},RP0 x0.2.2.2.2.2.2.1 (aC,0,0,()) x1 12 32 (aRj x0) n ds us->St aW2 (x0,x1,()) ds us K q)/\(∀ {v6 h2} {x0:bF} {x1},RP x0.2.2.2.2.2.2.1 (aC,0,0,()) x1 12 32 (aRj x0) n v6 h2 ds us->Cu aW2 3 ([eP 0 0 0 iT,eO 3 1 0 [],eW 5 2,eI 6 v6],[TD x0 3 4 5 6 7 8 9 10,some (iE.mk c8 [x1] true none (some false)),cL .str h2,cL eC x0.1,cL cZ x0.2.2.1,cL cZ x0.2.2.2.1,cL c8 x0.2.2.2.2.2.2.1,cL eC x0.2.2.2.2.2.2.2.2.1,cL cZ x0.2.2.2.2.2.2.2.2.2.1,cL c8 x0.2.2.2.2.2.2.2.2.2.2.1,cL c8 x0.2.2.2.2.2.2.2.2.2.2.2.1]) ds us K q):=nI ⟨aH,aH⟩ λn ⟨i,i3⟩=>⟨bX i3,
  bD (cP<|aL<|aL<|bX i3)<|bH<|bD (cP<|aL<|aL<|cP<|aL Et) Et⟩
def aKH(x0:aEG)(x1:bP):aEG:=(x0.1,x0.2.1,x0.2.2.1,x0.2.2.2.1,x0.2.2.2.2.1,x0.2.2.2.2.2.1,pL x0.2.2.2.2.2.2.1 x1 12,x0.2.2.2.2.2.2.2)
def aCo(x0:aEG)(x1:bP):Int:=pC x0.2.2.2.2.2.2.1 x1 12
def bEb(x0:aEG)(x1:bP):Prop:=x0.2.2.2.2.2.2.1.Pairwise (λa b=>Kl a.1 b.1)/\(x0.2.2.2.2.2.2.1.length:Int)<=12
def bEc:KK:=mN aW2 (DO qm) bEb (λx=>[some ⟨iT,[aKH x.1 x.2.1]⟩]) (aCo,()) (λ⟨x0,x1,_⟩ h hwf K q =>
 (aW3 _ _ K q ((x0.2.2.2.2.2.2.1.length+2))).1 ((aKE h.1 h.2) _ 0 [] (cO _) rfl))
def jh(x0:Δ):Int×Int×Int×Int×Unit:=if !jU x0 then(0,0,0,0,())else if(↑(aF (b5 x0)):Int) != 4 then(0,0,0,0,())else if !L9 (aD (b5 x0) 0 0,aD (b5 x0) 1 0,aD (b5 x0) 2 0,aD (b5 x0) 3 0,())then(0,0,0,0,())else(aD (b5 x0) 0 0,aD (b5 x0) 1 0,aD (b5 x0) 2 0,aD (b5 x0) 3 0,())
def ES(x0:Δ):Bool:=if !jU x0 then false else if(↑(aF (b5 x0)):Int) != 4 then false else if !L9 (aD (b5 x0) 0 0,aD (b5 x0) 1 0,aD (b5 x0) 2 0,aD (b5 x0) 3 0,())then false else true
def bEd:KK:=mB Tryz.func163 [.v (.str)] [.cons Za cZ,.bool] [Wj,aS9] aNU (jh,ES,()) λ_=>aL<|dL (jM pr)<|dL pr<|pq 0<|aL<|pq 1<|aL<|pq 2<|aL<|pq 3<|aL<|bH<|vY pr pr
def NX(x0:Δ):dO:=if !u4 x0 then(aC,0,0,0,())else if !Il (yC x0,aD (fR x0) 0 0,aD (fR x0) 1 0,aD (fR x0) 2 0,())then(aC,0,0,0,())else(yC x0,aD (fR x0) 0 0,aD (fR x0) 1 0,aD (fR x0) 2 0,())
def ET(x0:Δ):Bool:=if !u4 x0 then false else if !Il (yC x0,aD (fR x0) 0 0,aD (fR x0) 1 0,aD (fR x0) 2 0,())then false else true
def bEe:KK:=mB Tryz.func248 [.v (.str)] [.cons .str cZ,.bool] [aRh,aQi] aNS (NX,ET,()) λ_=>aL<|dL pr<|pq 0<|aL<|pq 1<|aL<|pq 2<|aL<|bH<|vY pr pr
def aRk(x0:bF)(y:Γ dO):Γ (Option jD):=[some (iX iT [(x0.1,x0.2.1,x0.2.2.1,x0.2.2.2.1,x0.2.2.2.2.1,x0.2.2.2.2.2.1,x0.2.2.2.2.2.2.1,x0.2.2.2.2.2.2.2.1,y,x0.2.2.2.2.2.2.2.2.2.1,x0.2.2.2.2.2.2.2.2.2.2.1,x0.2.2.2.2.2.2.2.2.2.2.2.1,())])]
def aW4:gC:=D0 qn [.po iT,.v eC] [.int .i64] [ye]
def aW5(ds:Γ aS)(us:Γ (Option jD))(K:fG)(q:Nat->Value):∀n,(∀ {x0:bF} {x1},RP0 x0.2.2.2.2.2.2.2.2.1 (aC,0,0,0,()) x1 8 40 (aRk x0) n ds us->St aW4 (x0,x1,()) ds us K q)/\(∀ {v6 h2} {x0:bF} {x1},RP x0.2.2.2.2.2.2.2.2.1 (aC,0,0,0,()) x1 8 40 (aRk x0) n v6 h2 ds us->Cu aW4 3 ([eP 0 0 0 iT,eO 3 1 0 [],eW 5 2,eI 6 v6],[TD x0 3 4 5 6 7 8 9 10,some (iE.mk eC [x1] true none (some false)),cL .str h2,cL eC x0.1,cL cZ x0.2.2.1,cL cZ x0.2.2.2.1,cL c8 x0.2.2.2.2.2.2.1,cL eC x0.2.2.2.2.2.2.2.2.1,cL cZ x0.2.2.2.2.2.2.2.2.2.1,cL c8 x0.2.2.2.2.2.2.2.2.2.2.1,cL c8 x0.2.2.2.2.2.2.2.2.2.2.2.1]) ds us K q):=nI ⟨aH,aH⟩ λn ⟨i,i3⟩=>⟨bX i3,
  bD (cP<|aL<|aL<|bX i3)<|bH<|bD (cP<|aL<|aL<|cP<|aL Et) Et⟩
def aKI(x0:aEG)(x1:dO):aEG:=(x0.1,x0.2.1,x0.2.2.1,x0.2.2.2.1,x0.2.2.2.2.1,x0.2.2.2.2.2.1,x0.2.2.2.2.2.2.1,x0.2.2.2.2.2.2.2.1,pL x0.2.2.2.2.2.2.2.2.1 x1 8,x0.2.2.2.2.2.2.2.2.2)
def aCp(x0:aEG)(x1:dO):Int:=pC x0.2.2.2.2.2.2.2.2.1 x1 8
def bEf(x0:aEG)(x1:dO):Prop:=x0.2.2.2.2.2.2.2.2.1.Pairwise (λa b=>Kl a.1 b.1)/\(x0.2.2.2.2.2.2.2.2.1.length:Int)<=8
def bEg:KK:=mN aW4 (DO qn) bEf (λx=>[some ⟨iT,[aKI x.1 x.2.1]⟩]) (aCp,()) (λ⟨x0,x1,_⟩ h hwf K q =>
 (aW5 _ _ K q ((x0.2.2.2.2.2.2.2.2.1.length+2))).1 ((aKE h.1 h.2) _ 0 [] (cO _) rfl))
def aNZ(x0:Δ):Prop:=if(↑(aG x0):Int) != 10 then True else 4<(↑(aG x0):Int)/\if(↑(cN (aD (cC (bO x0)) 4 0)):Int) != 45 then True else 7<(↑(aG x0):Int)/\if(↑(cN (aD (cC (bO x0)) 7 0)):Int) != 45 then True else 4<=(↑(aG x0):Int)/\wz (aO x0 0 4)/\7<=(↑(aG x0):Int)/\wz (aO x0 5 7)/\8<=(↑(aG x0):Int)/\wz (aO x0 8 (aE (↑(aG x0):Int)))/\True
def J5(x0:Δ):Int:=if(↑(aG x0):Int) != 10 then 0 else if(↑(cN (aD (cC (bO x0)) 4 0)):Int) != 45 then 0 else if(↑(cN (aD (cC (bO x0)) 7 0)):Int) != 45 then 0 else if !oB (aO x0 0 4)then 0 else if !oB (aO x0 5 7)then 0 else if !oB (aO x0 8 (aE (↑(aG x0):Int)))then 0 else Mz (j8 (aO x0 0 4)) (j8 (aO x0 5 7)) (j8 (aO x0 8 (aE (↑(aG x0):Int))))
def Cf(x0:Δ):Bool:=if(↑(aG x0):Int) != 10 then false else if(↑(cN (aD (cC (bO x0)) 4 0)):Int) != 45 then false else if(↑(cN (aD (cC (bO x0)) 7 0)):Int) != 45 then false else if !oB (aO x0 0 4)then false else if !oB (aO x0 5 7)then false else if !oB (aO x0 8 (aE (↑(aG x0):Int)))then false else JT (j8 (aO x0 0 4)) (j8 (aO x0 5 7)) (j8 (aO x0 8 (aE (↑(aG x0):Int))))
def bEh:KK:=mB Tryz.func360 [.v (.str)] [.int .i64,.bool] [aQR,bDw] aNZ (J5,Cf,()) λ_=>dL (jM<|jM pr)<|pq 4<|aL<|dL (jM pr)<|pq 7<|aL<|dL pr<|pq 4<|aL<|aL<|pq 5<|sQ ((by decide):(5:Int)<=(7:Int))<|aL<|aL<|pq 8<|aL<|aL<|vY (jM<|jM pr)<|vY (jM pr)<|vY pr<|bH pr
def aGA(x0:Δ):Prop:=((P88 x0 32)/\(if((↑(aF (bU x0 32)):Int) != 2)=true then True else((0<(↑(aF (bU x0 32)):Int))/\((aNZ (aD (bU x0 32) 0 aC))/\((1<(↑(aF (bU x0 32)):Int))/\((LR (aD (bU x0 32) 1 aC))/\(if(!Cf (aD (bU x0 32) 0 aC))=true then True else(if(!jU (aD (bU x0 32) 1 aC))=true then True else(if((↑(aF (b5 (aD (bU x0 32) 1 aC))):Int) != 2)=true then True else((0<(↑(aF (b5 (aD (bU x0 32) 1 aC))):Int))/\((1<(↑(aF (b5 (aD (bU x0 32) 1 aC))):Int))/\True)))))))))))
def wL(x0:Δ):b6:=if(↑(aF (bU x0 32)):Int) != 2 then(0,0,0,())else if !Cf (aD (bU x0 32) 0 aC)then(0,0,0,())else if !jU (aD (bU x0 32) 1 aC)then(0,0,0,())else if(↑(aF (b5 (aD (bU x0 32) 1 aC))):Int) != 2 then(0,0,0,())else if !vZ (J5 (aD (bU x0 32) 0 aC),aD (b5 (aD (bU x0 32) 1 aC)) 0 0,aD (b5 (aD (bU x0 32) 1 aC)) 1 0,())then(0,0,0,())else(J5 (aD (bU x0 32) 0 aC),aD (b5 (aD (bU x0 32) 1 aC)) 0 0,aD (b5 (aD (bU x0 32) 1 aC)) 1 0,())
def Cg(x0:Δ):Bool:=if(↑(aF (bU x0 32)):Int) != 2 then false else if !Cf (aD (bU x0 32) 0 aC)then false else if !jU (aD (bU x0 32) 1 aC)then false else if(↑(aF (b5 (aD (bU x0 32) 1 aC))):Int) != 2 then false else if !vZ (J5 (aD (bU x0 32) 0 aC),aD (b5 (aD (bU x0 32) 1 aC)) 0 0,aD (b5 (aD (bU x0 32) 1 aC)) 1 0,())then false else true
def bEi:KK:=mB Tryz.func250 [.v (.str)] [.cons Za Ti,.bool] [aB9,bEh,Wj,aIX] aGA (wL,Cg,()) λ_=>aL<|dL pr<|pq 0<|aL<|aL<|pq 1<|aL<|aL<|dL (jM<|jM pr)<|dL (jM pr)<|dL pr<|pq 0<|aL<|pq 1<|aL<|bH<|vY pr pr
def aOa(x0:Γ b6)(x1:b6):Prop:=if !w7 x0 then True else if !vZ x1 then True else(0+aF x0)*24<=140737488355328/\(aF ([]++x0)+1)*24<=140737488355328/\True
def ji(x0:Γ b6)(x1:b6):Γ b6:=if !w7 x0 then [] else if !vZ x1 then [] else if !Im ([]++x0++[x1])then [] else if decide ((↑(aF ([]++x0++[x1])):Int)>24)then [] else []++x0++[x1]
def AD(x0:Γ b6)(x1:b6):Int:=if !w7 x0 then 1 else if !vZ x1 then 2 else if !Im ([]++x0++[x1])then 6 else if decide ((↑(aF ([]++x0++[x1])):Int)>24)then 5 else 0
def bEj:KK:=mB Tryz.func251 [.v (.sl cZ),.v cZ] [.sl cZ,.int .i64] [aMW,aIX,aQk] aOa (ji,AD,()) λ_=>bH<|dL pr<|bH<|dL pr<|aL<|aL<|bH<|vY pr<|vY pr pr
end
end Go.Proofs.YtbaoaedmbhpolaaGreatDoor
