/- The functions that this law reaches, and their laws. -/
import Derived.Test.YtbaoaedmbhpolaaGreatDoorZ3D
import Derived.Deep.RegionLaw
set_option linter.unusedVariables false
set_option linter.unusedSimpArgs false
set_option linter.defProp false
open BitVec renaming ofInt->fY,toNat->yQ
open Bool renaming eq_false_iff->bV,not_not->qv
open ByteArray renaming data->bO,empty->aC,mk->aA,size->aG,size_append->dH,toList->aB
open False renaming elim->aH
open Go.Act renaming eval->Yk,put->LJ
open Go.Am.AT renaming own->rE,v->nV
open Go.Am.iE renaming mk->fE
open Go.Am.c7 renaming optr->LM,osl->qC,ptr->rR,st->mZ
open Go.Am.aS renaming mk->aI
open Go.Am.gB renaming val->K7
open Go.Am.PV renaming fn->pF,tup->gF
open Go.Am.Ty renaming cons->lQ,fn->Ll,int->mX,sl->sM,str->qA,unit->LL
open Go.IntKind renaming i64->eN,u64->aAG,wrap->mT,wrap_i64->uR
open Go.Lib renaming countB->gX,countB_le->A8,joinTail->iW,lens->DD,splitB_all->yV,trimRightB->fO,wpList_append_run->zG
open Go.Proofs.Tryz renaming func119->re,func167->qw,func169->qy,func170->rf,func189->tf,func196->ra,func223->su,func227->tc,func228->td,func253->qq,func255->qt,func260->qx,func261->qz,func263->ri,func264->rm,func266->rn,func270->ry,func300->sf,func301->se,func303->Bl,func306->sh,func307->sg,func308->Bm,func310->sj,func311->si,func312->Bn,func314->so,func315->sn,func316->Bo,func317->sr,func318->sq,func319->Bp,func332->rr,func342->ta,func362->qu,func367->rj,func376->rp,func38->aAI,func380->rz,func381->sa,func39->aAJ,func409->sd,func436->rq,func457->qp,func480->sb,func505->sy,func506->sx,func508->sw,func515->qo,func535->H6,func536->H5,func90->aAH,ntmps303->En,ntmps308->Eo,ntmps312->Ep,ntmps316->Er,ntmps319->Es,prog->aN,underlying3->eR
open Go.Value renaming slice->T8,string->oR
open Int renaming add_mul_ediv_left->ID,ediv_eq_zero_of_lt->yY,ediv_le_ediv->Sg,ediv_le_self->Fb,ediv_nonneg->Hs,fdiv->cQ,le_refl->dX,le_trans->Bk,mul_le_mul->KY,neg_tdiv->rk,neg_tmod->rl,pow_pos->aAF,tdiv->aQ,tdiv_eq_ediv_of_nonneg->eY,tmod->bY,toNat->aE,toNat_natCast->aK
open List renaming append_assoc->cK,append_nil->dN,drop->bG,drop_eq_getElem_cons->uW,drop_eq_nil_of_le->bT,drop_zero->pZ,foldl_append->QT,foldl_cons->iQ,getD->aD,getElem?_eq_getElem->aV,getElem_of_mem->pN,length->aF,length_map->eV,map->F9,map_append->mF,map_cons->dY,map_map->mY,mem_cons->bA,mem_cons_of_mem->aM,mem_cons_self->aR,mem_map->cW,nil_append->fV,replicate->aP,set->eU,set_set->QU,take->bK,take_add_one->iC,take_of_length_le->eA,toArray->rD,zipWith->uQ
open Min renaming min->yX
open Nat renaming add_zero->oJ,le_of_ble_eq_true->nZ,le_refl->aU,zero_add->cO,zero_le->aY
set_option maxRecDepth 100000
namespace Go.Proofs.YtbaoaedmbhpolaaGreatDoor
open Go Go.Am Go.Proofs
noncomputable section
def aW6:gC:=D0 qo [.v (.int .i64)] [.str] []
mutual
def bEk:Nat->Int->Γ aS->Prop
 | 0,_,_=>False
 | n+1,x0,ds=>J6 n (aA #[]) 0 x0 ds
def J6:Nat->Δ->Int->Int->Γ aS->Prop
 | 0,_,_,_,_=>False
 | n+1,v3,v5,x0,ds=>if decide (v5<3)then aX .u64 v5/\0<=v5/\aX .i64 (cQ x0 (2^yX (aE v5) 64))/\if mT eN (↑(yQ (fY 64 (cQ x0 (2^yX (aE v5) 64)) &&& fY 64 1)):Int)==1 then(if !aB v3==aB (aA #[])then aG v3+1<=9223372036854775807/\0<=v5/\v5<3/\aG (v3++aA #[43])+aG (aD [aA #[114,111,112,101],aA #[102,105,114,115,116],aA #[114,97,100,105,111]] (aE v5) aC)<=9223372036854775807/\aX .i64 (v5+1)/\J6 n (v3++aA #[43]++aD [aA #[114,111,112,101],aA #[102,105,114,115,116],aA #[114,97,100,105,111]] (aE v5) aC) (v5+1) x0 ds else 0<=v5/\v5<3/\aG v3+aG (aD [aA #[114,111,112,101],aA #[102,105,114,115,116],aA #[114,97,100,105,111]] (aE v5) aC)<=9223372036854775807/\aX .i64 (v5+1)/\J6 n (v3++aD [aA #[114,111,112,101],aA #[102,105,114,115,116],aA #[114,97,100,105,111]] (aE v5) aC) (v5+1) x0 ds)else aX .i64 (v5+1)/\J6 n v3 (v5+1) x0 ds else if aB v3==aB (aA #[])then ds=[aI .str (aA #[110,111,110,101])] else ds=[aI .str v3]
end
def aW7(ds:Γ aS)(K:fG)(q:Nat->Value):∀n,(∀ {x0},bEk n x0 ds->St aW6 (x0,()) ds [] K q)/\(∀ {v3 v5 x0},J6 n v3 v5 x0 ds->Cu aW6 4 ([eI 0 x0,eS 3 v3,eW 4 0,eI 5 v5],[cL .str [aA #[114,111,112,101],aA #[102,105,114,115,116],aA #[114,97,100,105,111]]]) ds [] K q):=nI ⟨aH,aH⟩ λn ⟨i,i4⟩=>⟨bX i4,
  bD (aL<|cP<|bD (bD (aL<|cP<|aL<|aL<|bX i4)<|cP<|aL<|aL<|bX i4)<|aL<|bX i4)<|bD cM cM⟩
abbrev aRl:Γ Δ:=[aA #[114,111,112,101],aA #[102,105,114,115,116],aA #[114,97,100,105,111]]
def aKJ(x0:Int)(i:Nat):Bool:=mT eN (↑(yQ (fY 64 (cQ x0 (2^yX i 64)) &&& fY 64 1)):Int)==1
def aKK(s w:Δ):Δ:=if(!aB s==aB (aA #[]))=true then s++aA #[43]++w else s++w
def NY(x0:Int):Nat->Nat->Δ->Δ
 | 0,_,s=>s
 | k+1,i,s=>NY x0 k (i+1) (if aKJ x0 i=true then aKK s (aRl.getD i aC)else s)
def jj(x0:Int):Δ:=if aB (NY x0 3 0 (aA #[]))==aB (aA #[])then aA #[110,111,110,101] else NY x0 3 0 (aA #[])
def aW8{x0:Int}(h:aX .i64 x0)(i:Nat):aX .i64 (cQ x0 (2^yX i 64)):=by
 have hp:(0:Int)<2^yX i 64:=aAF (by lia);rw[aJ]at h;rw[Int.fdiv_eq_ediv_of_nonneg _ (by lia),aJ];refine⟨(Int.le_ediv_iff_mul_le hp).2 ?_,?_⟩
 ·lia
 ·rcases Int.lt_or_le x0 0 with c | c
  ·have:=Int.ediv_neg_of_neg_of_pos c hp
   lia
  ·have:=Fb (2^yX i 64) c
   lia
def aW9(i:Nat):(aRl.getD i aC).size<=5:=by
 rcases i with _ | _ | _ | i
 ·decide
 ·decide
 ·decide
 simp
def aWA(x0:Int)(h:aX .i64 x0):∀(k i:Nat) (s:Δ),i+k=3->s.size<=6*i->J6 (k+1) s (i:Int) x0 [⟨.str,if(aB (NY x0 k i s)==aB (aA #[]))=true then aA #[110,111,110,101] else NY x0 k i s⟩]:=by
 intro k
 induction k with
 | zero =>
  intro i s hi hs;rw[J6,NY]
  lia
 | succ k ih =>
  intro i s hi hs;have e3:(i:Int)+1=((i+1:Nat):Int):=by lia
  have hw:(aD [aA #[114,111,112,101],aA #[102,105,114,115,116],aA #[114,97,100,105,111]] i aC).size<=5:=aW9 i;have e1:(s++aA #[43]).size=s.size+1:=by rw[dH]<;>rfl
  have u64:aX .u64 (i:Int):=by
   have e1:(aAG).min=0:=by rfl
   have e2:(aAG).max=18446744073709551615:=by rfl
   simp[aX]
   lia
  rw[NY,J6,π (by lia),aK];refine⟨u64,by lia,aW8 h i,?_⟩;unfold aKK;by_cases c:aKJ x0 i=true
  ·refine(π c).mpr ?_;rw[π c];by_cases d:(!aB s==aB (aA #[]))=true
   ·refine(π d).mpr ?_;rw[π d];exact⟨by lia,by lia,by lia,by lia,by grind [aJ],ih (i+1) _ (by lia) (by grind)⟩
   ·grind [aJ]
  ·refine(ν c).mpr ?_
   grind [aJ]
def bEl:KK:=mL aW6 (DO qo) nP (jj,()) (λ⟨x0,_⟩ h hwf K q =>
 (aW7 _ K q 5).1 (by rw[bEk];exact aWA x0 hwf.1 3 0 (aA #[]) rfl (aU _)))
def aWB:gC:=D0 qp [.v (.str)] [.int .i64,.bool] [bEl]
mutual
def bEm:Nat->Δ->Γ aS->Prop
 | 0,_,_=>False
 | n+1,x0,ds=>Rs n 0 x0 ds
def Rs:Nat->Int->Δ->Γ aS->Prop
 | 0,_,_,_=>False
 | n+1,v4,x0,ds=>if decide (v4<=7)then(if aB (jj v4)==aB x0 then ds=[aI (.int .i64) v4,aI .bool true] else aX .i64 (v4+1)/\Rs n (v4+1) x0 ds)else ds=[aI (.int .i64) 0,aI .bool false]
end
def aWC(ds:Γ aS)(K:fG)(q:Nat->Value):∀n,(∀ {x0},bEm n x0 ds->St aWB (x0,()) ds [] K q)/\(∀ {v4 x0},Rs n v4 x0 ds->Cu aWB 2 ([eS 0 x0,eI 4 v4],[]) ds [] K q):=nI ⟨aH,aH⟩ λn ⟨i,i2⟩=>⟨bX i2,
  bD (bH<|bD cM<|aL<|bX i2) cM⟩
def aKL(x0:Δ)(v:Int):Bool:=aB (jj v)==aB x0
def TU(x0:Δ):Nat->Int->Int×Bool
 | 0,_=>(0,false)
 | k+1,v=>if aKL x0 v=true then(v,true)else TU x0 k (v+1)
def jk(x0:Δ):Int:=(TU x0 8 0).1
def Rt(x0:Δ):Bool:=(TU x0 8 0).2
def aWD(x0:Δ):∀(k:Nat) (v:Int),v+(k:Int)=8->0<=v->Rs (k+1) v x0 [⟨.int .i64,(TU x0 k v).1⟩,⟨.bool,(TU x0 k v).2⟩]:=by
 intro k
 induction k with
 | zero =>
  intro v hv h0;rw[Rs,ν (by lia)];rfl
 | succ k ih =>
  intro v hv h0;rw[Rs,π (by lia),TU];by_cases c:aKL x0 v=true
  ·rw[π c];exact(π c).mpr rfl
  ·rw[ν c];exact(ν c).mpr ⟨by grind [aJ],ih (v+1) (by lia) (by lia)⟩
def bEn:KK:=mL aWB (DO qp) nP (jk,Rt,()) (λ⟨x0,_⟩ h hwf K q =>
 (aWC _ K q 10).1 (by rw[bEm];exact aWD x0 8 0 rfl (dX _)))
def aKM(x0:Δ):Prop:=((P88 x0 32)/\(if((↑(aF (bU x0 32)):Int) != 3)=true then True else((1<(↑(aF (bU x0 32)):Int))/\((2<(↑(aF (bU x0 32)):Int))/\((0<(↑(aF (bU x0 32)):Int))/\True)))))
def Gb(x0:Δ):Δ:=if(↑(aF (bU x0 32)):Int) != 3 then aA #[] else if Rt (aD (bU x0 32) 1 aC)then aD (bU x0 32) 0 aC else aD (bU x0 32) 0 aC
def Gd(x0:Δ):Int:=if(↑(aF (bU x0 32)):Int) != 3 then 0 else if Rt (aD (bU x0 32) 1 aC)then jk (aD (bU x0 32) 1 aC)else jk (aD (bU x0 32) 1 aC)
def Ge(x0:Δ):Int:=if(↑(aF (bU x0 32)):Int) != 3 then 0 else if Rt (aD (bU x0 32) 1 aC)then jF (aD (bU x0 32) 2 aC)else jF (aD (bU x0 32) 2 aC)
def NZ(x0:Δ):Bool:=if(↑(aF (bU x0 32)):Int) != 3 then false else if Rt (aD (bU x0 32) 1 aC)then pW (aD (bU x0 32) 2 aC)else false
def aRm:KK:=mB Tryz.func361 [.v (.str)] [.str,.int .i64,.int .i64,.bool] [aB9,bEn,xq] aKM (Gb,Gd,Ge,NZ,()) λ_=>aL<|bAi pr<|pq 1<|aL<|bH<|pq 2<|aL<|bH<|pq 0<|aL<|pe4 pr pr
def aKN(x0:Δ):Prop:=((aKM x0)/\True)
def J7(x0:Δ):bP:=if !NZ x0 then(aC,0,0,())else if !Ip (Gb x0,Gd x0,Ge x0,())then(aC,0,0,())else(Gb x0,Gd x0,Ge x0,())
def EU(x0:Δ):Bool:=if !NZ x0 then false else if !Ip (Gb x0,Gd x0,Ge x0,())then false else true
def bEo:KK:=mB Tryz.func252 [.v (.str)] [.cons .str Ti,.bool] [aRm,aQn] aKN (J7,EU,()) λ_=>aL<|vY (jM pr)<|bH<|vY pr pr
def aRn(x0:bF)(y:Γ bP):Γ (Option jD):=[some (jD.mk iT [(x0.1,x0.2.1,x0.2.2.1,x0.2.2.2.1,x0.2.2.2.2.1,x0.2.2.2.2.2.1,x0.2.2.2.2.2.2.1,x0.2.2.2.2.2.2.2.1,x0.2.2.2.2.2.2.2.2.1,x0.2.2.2.2.2.2.2.2.2.1,y,x0.2.2.2.2.2.2.2.2.2.2.2.1,())])]
def aWE:gC:=D0 qq [.po iT,.v c8] [.int .i64] [ye]
def aWF(ds:Γ aS)(us:Γ (Option jD))(K:fG)(q:Nat->Value):∀n,(∀ {x0:bF} {x1},RP0 x0.2.2.2.2.2.2.2.2.2.2.1 (aC,0,0,()) x1 10 32 (aRn x0) n ds us->St aWE (x0,x1,()) ds us K q)/\(∀ {v6 h2} {x0:bF} {x1},RP x0.2.2.2.2.2.2.2.2.2.2.1 (aC,0,0,()) x1 10 32 (aRn x0) n v6 h2 ds us->Cu aWE 3 ([eP 0 0 0 iT,eO 3 1 0 [],eW 5 2,eI 6 v6],[TD x0 3 4 5 6 7 8 9 10,some (fE c8 [x1] true none (some false)),cL .str h2,cL eC x0.1,cL cZ x0.2.2.1,cL cZ x0.2.2.2.1,cL c8 x0.2.2.2.2.2.2.1,cL eC x0.2.2.2.2.2.2.2.2.1,cL cZ x0.2.2.2.2.2.2.2.2.2.1,cL c8 x0.2.2.2.2.2.2.2.2.2.2.1,cL c8 x0.2.2.2.2.2.2.2.2.2.2.2.1]) ds us K q):=nI ⟨aH,aH⟩ λn ⟨i,i3⟩=>⟨bX i3,
  bD (cP<|aL<|aL<|bX i3)<|bH<|bD (cP<|aL<|aL<|cP<|aL Et) Et⟩
def aKO(x0:aEG)(x1:bP):aEG:=(x0.1,x0.2.1,x0.2.2.1,x0.2.2.2.1,x0.2.2.2.2.1,x0.2.2.2.2.2.1,x0.2.2.2.2.2.2.1,x0.2.2.2.2.2.2.2.1,x0.2.2.2.2.2.2.2.2.1,x0.2.2.2.2.2.2.2.2.2.1,pL x0.2.2.2.2.2.2.2.2.2.2.1 x1 10,x0.2.2.2.2.2.2.2.2.2.2.2)
def aCq(x0:aEG)(x1:bP):Int:=pC x0.2.2.2.2.2.2.2.2.2.2.1 x1 10
def bEp(x0:aEG)(x1:bP):Prop:=x0.2.2.2.2.2.2.2.2.2.2.1.Pairwise (λa b=>Kl a.1 b.1)/\(x0.2.2.2.2.2.2.2.2.2.2.1.length:Int)<=10
def bEq:KK:=mN aWE (DO qq) bEp (λx=>[some ⟨iT,[aKO x.1 x.2.1]⟩]) (aCq,()) (λ⟨x0,x1,_⟩ h hwf K q =>
 (aWF _ _ K q ((x0.2.2.2.2.2.2.2.2.2.2.1.length+2))).1 ((aKE h.1 h.2) _ 0 [] (cO _) rfl))
def bEr:KK:=mB Tryz.func254 [.v (.str)] [.cons .str Ti,.bool] [aRm,aQo] aKN (J7,EU,()) λ_=>aL<|vY (jM pr)<|bH<|vY pr pr
def aRo(x0:bF)(y:Γ bP):Γ (Option jD):=[some (jD.mk iT [(x0.1,x0.2.1,x0.2.2.1,x0.2.2.2.1,x0.2.2.2.2.1,x0.2.2.2.2.2.1,x0.2.2.2.2.2.2.1,x0.2.2.2.2.2.2.2.1,x0.2.2.2.2.2.2.2.2.1,x0.2.2.2.2.2.2.2.2.2.1,x0.2.2.2.2.2.2.2.2.2.2.1,y,())])]
def aWG:gC:=D0 qt [.po iT,.v c8] [.int .i64] [ye]
def aWH(ds:Γ aS)(us:Γ (Option jD))(K:fG)(q:Nat->Value):∀n,(∀ {x0:bF} {x1},RP0 x0.2.2.2.2.2.2.2.2.2.2.2.1 (aC,0,0,()) x1 8 32 (aRo x0) n ds us->St aWG (x0,x1,()) ds us K q)/\(∀ {v6 h2} {x0:bF} {x1},RP x0.2.2.2.2.2.2.2.2.2.2.2.1 (aC,0,0,()) x1 8 32 (aRo x0) n v6 h2 ds us->Cu aWG 3 ([eP 0 0 0 iT,eO 3 1 0 [],eW 5 2,eI 6 v6],[TD x0 3 4 5 6 7 8 9 10,some (fE c8 [x1] true none (some false)),cL .str h2,cL eC x0.1,cL cZ x0.2.2.1,cL cZ x0.2.2.2.1,cL c8 x0.2.2.2.2.2.2.1,cL eC x0.2.2.2.2.2.2.2.2.1,cL cZ x0.2.2.2.2.2.2.2.2.2.1,cL c8 x0.2.2.2.2.2.2.2.2.2.2.1,cL c8 x0.2.2.2.2.2.2.2.2.2.2.2.1]) ds us K q):=nI ⟨aH,aH⟩ λn ⟨i,i3⟩=>⟨bX i3,
  bD (cP<|aL<|aL<|bX i3)<|bH<|bD (cP<|aL<|aL<|cP<|aL Et) Et⟩
def aKQ(x0:aEG)(x1:bP):aEG:=(x0.1,x0.2.1,x0.2.2.1,x0.2.2.2.1,x0.2.2.2.2.1,x0.2.2.2.2.2.1,x0.2.2.2.2.2.2.1,x0.2.2.2.2.2.2.2.1,x0.2.2.2.2.2.2.2.2.1,x0.2.2.2.2.2.2.2.2.2.1,x0.2.2.2.2.2.2.2.2.2.2.1,pL x0.2.2.2.2.2.2.2.2.2.2.2.1 x1 8,x0.2.2.2.2.2.2.2.2.2.2.2.2)
def aCr(x0:aEG)(x1:bP):Int:=pC x0.2.2.2.2.2.2.2.2.2.2.2.1 x1 8
def bEs(x0:aEG)(x1:bP):Prop:=x0.2.2.2.2.2.2.2.2.2.2.2.1.Pairwise (λa b=>Kl a.1 b.1)/\(x0.2.2.2.2.2.2.2.2.2.2.2.1.length:Int)<=8
def bEt:KK:=mN aWG (DO qt) bEs (λx=>[some ⟨iT,[aKQ x.1 x.2.1]⟩]) (aCr,()) (λ⟨x0,x1,_⟩ h hwf K q =>
 (aWH _ _ K q ((x0.2.2.2.2.2.2.2.2.2.2.2.1.length+2))).1 ((aKE h.1 h.2) _ 0 [] (cO _) rfl))
def aCs(x0:bF)(x1:Δ)(x2:Δ):Prop:=if aB x1==aB (aA #[102,97,114,101])then aNS x2/\if !ET x2 then True else bEf x0 (NX x2)/\NH (aCp x0 (NX x2))/\True else if aB x1==aB (aA #[116,101,115,116])then aGA x2/\if !Cg x2 then True else aOa x0.2.2.2.2.2.2.2.2.2.1 (wL x2)/\if AD x0.2.2.2.2.2.2.2.2.2.1 (wL x2)==0 then NH (AD x0.2.2.2.2.2.2.2.2.2.1 (wL x2))/\True else NH (AD x0.2.2.2.2.2.2.2.2.2.1 (wL x2))/\True else if aB x1==aB (aA #[104,101,108,112,101,114])then aKN x2/\if !EU x2 then True else bEp x0 (J7 x2)/\NH (aCq x0 (J7 x2))/\True else if aB x1==aB (aA #[116,97,115,107])then aKN x2/\if !EU x2 then True else bEs x0 (J7 x2)/\NH (aCr x0 (J7 x2))/\True else True
def N0(x0:bF)(x1:Δ)(x2:Δ):Γ Δ:=if aB x1==aB (aA #[102,97,114,101])then(if !ET x2 then [] else tN (aCp x0 (NX x2)))else if aB x1==aB (aA #[116,101,115,116])then(if !Cg x2 then [] else if AD x0.2.2.2.2.2.2.2.2.2.1 (wL x2)==0 then tN (AD x0.2.2.2.2.2.2.2.2.2.1 (wL x2))else tN (AD x0.2.2.2.2.2.2.2.2.2.1 (wL x2)))else if aB x1==aB (aA #[104,101,108,112,101,114])then(if !EU x2 then [] else tN (aCq x0 (J7 x2)))else if aB x1==aB (aA #[116,97,115,107])then(if !EU x2 then [] else tN (aCr x0 (J7 x2)))else []
def N1(x0:bF)(x1:Δ)(x2:Δ):Bool:=if aB x1==aB (aA #[102,97,114,101])then(if !ET x2 then false else true)else if aB x1==aB (aA #[116,101,115,116])then(if !Cg x2 then false else if AD x0.2.2.2.2.2.2.2.2.2.1 (wL x2)==0 then true else true)else if aB x1==aB (aA #[104,101,108,112,101,114])then(if !EU x2 then false else true)else if aB x1==aB (aA #[116,97,115,107])then(if !EU x2 then false else true)else false
def N2(x0:bF)(x1:Δ)(x2:Δ):bF:=if aB x1==aB (aA #[102,97,114,101])then(if !ET x2 then x0 else aKI x0 (NX x2))else if aB x1==aB (aA #[116,101,115,116])then(if !Cg x2 then x0 else if AD x0.2.2.2.2.2.2.2.2.2.1 (wL x2)==0 then(x0.1,x0.2.1,x0.2.2.1,x0.2.2.2.1,x0.2.2.2.2.1,x0.2.2.2.2.2.1,x0.2.2.2.2.2.2.1,x0.2.2.2.2.2.2.2.1,x0.2.2.2.2.2.2.2.2.1,ji x0.2.2.2.2.2.2.2.2.2.1 (wL x2),x0.2.2.2.2.2.2.2.2.2.2.1,x0.2.2.2.2.2.2.2.2.2.2.2.1,())else x0)else if aB x1==aB (aA #[104,101,108,112,101,114])then(if !EU x2 then x0 else aKO x0 (J7 x2))else if aB x1==aB (aA #[116,97,115,107])then(if !EU x2 then x0 else aKQ x0 (J7 x2))else x0
def bEu:KK:=mV Tryz.func164 [.po iT,.v (.str),.v (.str)] [.sl .str,.bool] [bEe,bEg,aE4,bEi,bEj,bEo,bEq,bEr,bEt] aCs (λx=>[some ⟨.cons (.sl eC) YA1,[N2 x.1 x.2.1 x.2.2.1]⟩]) (N0,N1,()) λ_=>sF (aL<|sF pr<|aL<|aL pr)<|sF (aL<|sF pr<|aL<|sF (aL pr)<|aL pr)<|sF (aL<|sF pr<|aL<|aL pr)<|sF (aL<|sF pr<|aL<|aL pr) pr
def d90:gC:=D0 aAH [.po iT,.v (.str),.v (.str)] [.sl .str,.bool] [bDQ,bDW,aE4,bDX,bDY,bDZ,bEa,bEc,bEd,bEu]
def P90(x0:bF)(x1:Δ)(x2:Δ):Prop:=if aB x1==aB (aA #[98,101,110,100])then aNS x2/\if !EN x2 then True else bDV x0 (NV x2)/\NH (aCn x0 (NV x2))/\True else if aB x1==aB (aA #[114,111,112,101])then aNU x2/\True else if aB x1==aB (aA #[104,111,117,114])then aNV x2/\if !o5 x2 then True else if(x0.2.2.1.length:Int)==48 then NH 5/\True else(0+aF x0.2.2.1)*24<=140737488355328/\(aF ([]++x0.2.2.1)+1)*24<=140737488355328/\NH 0/\True else if aB x1==aB (aA #[109,111,116,111,114])then aNV x2/\True else if aB x1==aB (aA #[119,111,114,107,101,114])then aKG x2/\if !ER x2 then True else bEb x0 (J4 x2)/\NH (aCo x0 (J4 x2))/\True else if aB x1==aB (aA #[98,97,115,105,110])then aNU x2/\True else aCs x0 x1 x2/\True
def D7(x0:bF)(x1:Δ)(x2:Δ):Γ Δ:=if aB x1==aB (aA #[98,101,110,100])then(if !EN x2 then [] else tN (aCn x0 (NV x2)))else if aB x1==aB (aA #[114,111,112,101])then(if EP x2 then [aA #[111,107]] else [aA #[111,107]])else if aB x1==aB (aA #[104,111,117,114])then(if !o5 x2 then [] else if(x0.2.2.1.length:Int)==48 then tN 5 else tN 0)else if aB x1==aB (aA #[109,111,116,111,114])then(if EQ x2 then [aA #[111,107]] else [aA #[111,107]])else if aB x1==aB (aA #[119,111,114,107,101,114])then(if !ER x2 then [] else tN (aCo x0 (J4 x2)))else if aB x1==aB (aA #[98,97,115,105,110])then(if ES x2 then [aA #[111,107]] else [aA #[111,107]])else N0 x0 x1 x2
def zE(x0:bF)(x1:Δ)(x2:Δ):Bool:=if aB x1==aB (aA #[98,101,110,100])then(if !EN x2 then false else true)else if aB x1==aB (aA #[114,111,112,101])then(if EP x2 then EP x2 else EP x2)else if aB x1==aB (aA #[104,111,117,114])then(if !o5 x2 then false else if(x0.2.2.1.length:Int)==48 then true else true)else if aB x1==aB (aA #[109,111,116,111,114])then(if EQ x2 then EQ x2 else EQ x2)else if aB x1==aB (aA #[119,111,114,107,101,114])then(if !ER x2 then false else true)else if aB x1==aB (aA #[98,97,115,105,110])then(if ES x2 then ES x2 else ES x2)else N1 x0 x1 x2
def yD(x0:bF)(x1:Δ)(x2:Δ):bF:=if aB x1==aB (aA #[98,101,110,100])then(if !EN x2 then x0 else aKF x0 (NV x2))else if aB x1==aB (aA #[114,111,112,101])then(if EP x2 then(x0.1,(jf x2),x0.2.2.1,x0.2.2.2.1,x0.2.2.2.2.1,x0.2.2.2.2.2.1,x0.2.2.2.2.2.2.1,x0.2.2.2.2.2.2.2.1,x0.2.2.2.2.2.2.2.2.1,x0.2.2.2.2.2.2.2.2.2.1,x0.2.2.2.2.2.2.2.2.2.2.1,x0.2.2.2.2.2.2.2.2.2.2.2.1,())else x0)else if aB x1==aB (aA #[104,111,117,114])then(if !o5 x2 then x0 else if(x0.2.2.1.length:Int)==48 then x0 else(x0.1,x0.2.1,[]++x0.2.2.1++[rZ x2],x0.2.2.2.1,x0.2.2.2.2.1,x0.2.2.2.2.2.1,x0.2.2.2.2.2.2.1,x0.2.2.2.2.2.2.2.1,x0.2.2.2.2.2.2.2.2.1,x0.2.2.2.2.2.2.2.2.2.1,x0.2.2.2.2.2.2.2.2.2.2.1,x0.2.2.2.2.2.2.2.2.2.2.2.1,()))else if aB x1==aB (aA #[109,111,116,111,114])then(if EQ x2 then(x0.1,x0.2.1,x0.2.2.1,x0.2.2.2.1,(jg x2),x0.2.2.2.2.2.1,x0.2.2.2.2.2.2.1,x0.2.2.2.2.2.2.2.1,x0.2.2.2.2.2.2.2.2.1,x0.2.2.2.2.2.2.2.2.2.1,x0.2.2.2.2.2.2.2.2.2.2.1,x0.2.2.2.2.2.2.2.2.2.2.2.1,())else x0)else if aB x1==aB (aA #[119,111,114,107,101,114])then(if !ER x2 then x0 else aKH x0 (J4 x2))else if aB x1==aB (aA #[98,97,115,105,110])then(if ES x2 then(x0.1,x0.2.1,x0.2.2.1,x0.2.2.2.1,x0.2.2.2.2.1,x0.2.2.2.2.2.1,x0.2.2.2.2.2.2.1,(jh x2),x0.2.2.2.2.2.2.2.2.1,x0.2.2.2.2.2.2.2.2.2.1,x0.2.2.2.2.2.2.2.2.2.2.1,x0.2.2.2.2.2.2.2.2.2.2.2.1,())else x0)else N2 x0 x1 x2
def bJ1:KK:=mN d90 (DO aAH) P90 (λx=>[some ⟨.cons (.sl eC) YA1,[yD x.1 x.2.1 x.2.2.1]⟩]) (D7,zE,()) λ⟨x0,x1,x2,_⟩ h _ K q=>have sq1:=aEe [eP 0 8 0 iT,eS 1 x1,eS 2 x2,(6,.a (.val (.slice none 0 0))),eB 7 false,eO 12 9 0 [],eB 13 (o5 x2),eS 20 x1,eB 21 (aB x1==aB (aA #[98,101,110,100])),eB 22 (aB x1==aB (aA #[98,101,110,100])),eB 34 (aB x1==aB (aA #[114,111,112,101])),eB 35 (aB x1==aB (aA #[114,111,112,101])),eB 48 (aB x1==aB (aA #[104,111,117,114])),eB 49 (aB x1==aB (aA #[104,111,117,114])),(50,gF [mZ cZ (rZ x2),OS (o5 x2)]),eS 51 x2,(52,gF [mZ cZ (rZ x2),OS (o5 x2)]),eT 53 cZ (rZ x2),eB 54 (o5 x2),eB 55 (o5 x2),eB 56 (!o5 x2),eP 57 8 0 iT,eP 58 8 0 iT,eP 59 8 5 (.sl cZ),eW 60 1,eI 61 (x0.2.2.1.length:Int),eB 62 ((x0.2.2.1.length:Int)==48),eP 64 8 0 iT,eP 66 8 0 iT,eP 67 8 0 iT,eP 68 8 5 (.sl cZ),eW 69 1,eT 71 cZ (rZ x2),eW 72 11,eW 73 10,eP 74 8 0 iT,eP 75 8 5 (.sl cZ)] [cL eC x0.1,cL cZ x0.2.2.1,cL cZ x0.2.2.2.1,cL c8 x0.2.2.2.2.2.2.1,cL eC x0.2.2.2.2.2.2.2.2.1,cL cZ x0.2.2.2.2.2.2.2.2.2.1,cL c8 x0.2.2.2.2.2.2.2.2.2.2.1,cL c8 x0.2.2.2.2.2.2.2.2.2.2.2.1,TD x0 0 10 2 3 4 5 6 7,some (fE cZ [rZ x2] true none (some false)),cL cZ ([]++x0.2.2.1++[rZ x2]),cL cZ [rZ x2]];Yy h (λh=>c1 h λh=>Yy h (λh=>rt) λh=>c1 h λh=>c1 h λh=>rt) λh=>Yy h (λh=>c1 h λh=>e2u (rt) (rt)) λh=>Yy h (λh=>c1 h λh=>Yy h (λh=>rt) λh=>Yy h (λh=>c1 h λh=>rt) λh=>cS h λs1 h=>cS h λs2 h=>tP s1<|tP s2<|tP s1<|tP s2<|tP sq1<|tP sq1<|tP s1<|tP s2<|tP s1<|tP s2<|tP sq1<|tP s1<|tP s2<|tP sq1<|tP sq1<|tP s1<|tP s2<|tP s1<|tP s2<|tP s1<|tP s2<|tP sq1<|tP sq1<|tP s1<|tP s2<|tP s1<|tP s2<|tP sq1<|tP s1<|tP s2<|tP sq1<|tP sq1<|tP sq1<|tP s1<|tP s2<|tP s1<|tP s2<|tP sq1<|tP s1<|tP s2<|tP sq1<|tP s1<|tP s2<|tP s1<|tP s2<|tP sq1<|tP s1<|tP s2<|tP sq1<|tP sq1<|tP s1<|tP s2<|tP s1<|tP s2<|tP (aEe [eP 0 8 0 iT,eS 1 x1,eS 2 x2,(6,.a (.val (.slice none 0 0))),eB 7 false,eO 12 9 0 [],eB 13 (o5 x2),eS 20 x1,eB 21 (aB x1==aB (aA #[98,101,110,100])),eB 22 (aB x1==aB (aA #[98,101,110,100])),eB 34 (aB x1==aB (aA #[114,111,112,101])),eB 35 (aB x1==aB (aA #[114,111,112,101])),eB 48 (aB x1==aB (aA #[104,111,117,114])),eB 49 (aB x1==aB (aA #[104,111,117,114])),(50,gF [mZ cZ (rZ x2),OS (o5 x2)]),eS 51 x2,(52,gF [mZ cZ (rZ x2),OS (o5 x2)]),eT 53 cZ (rZ x2),eB 54 (o5 x2),eB 55 (o5 x2),eB 56 (!o5 x2),eP 57 8 0 iT,eP 58 8 0 iT,eP 59 8 5 (.sl cZ),eW 60 1,eI 61 (x0.2.2.1.length:Int),eB 62 ((x0.2.2.1.length:Int)==48),eP 64 8 0 iT,eP 66 8 0 iT,eP 67 8 0 iT,eP 68 8 5 (.sl cZ),eW 69 1,eT 71 cZ (rZ x2),eW 72 10,eW 73 11,eP 74 8 0 iT,eP 75 8 5 (.sl cZ)] [cL eC x0.1,cL cZ x0.2.2.1,cL cZ x0.2.2.2.1,cL c8 x0.2.2.2.2.2.2.1,cL eC x0.2.2.2.2.2.2.2.2.1,cL cZ x0.2.2.2.2.2.2.2.2.2.1,cL c8 x0.2.2.2.2.2.2.2.2.2.2.1,cL c8 x0.2.2.2.2.2.2.2.2.2.2.2.1,TD x0 0 11 2 3 4 5 6 7,some (fE cZ [rZ x2] true none (some false)),cL cZ [rZ x2],cL cZ ([]++x0.2.2.1++[rZ x2])])<|tP sq1<|tP sq1<|c1 h λh=>rt) λh=>Yy h (λh=>c1 h λh=>e2u (rt) (rt)) λh=>Yy h (λh=>c1 h λh=>Yy h (λh=>rt) λh=>c1 h λh=>c1 h λh=>rt) λh=>Yy h (λh=>c1 h λh=>e2u (rt) (rt)) λh=>c1 h λh=>rt
def aWI:gC:=D0 qu [.v (.sl Za)] [.bool] [lO]
mutual
def aWJ:Nat->Γ Int->Γ aS->Prop
 | 0,_,_=>False
 | n+1,x0,ds=>N3 n 0 x0 ds
def N3:Nat->Int->Γ Int->Γ aS->Prop
 | 0,_,_,_=>False
 | n+1,v3,x0,ds=>if decide (v3<(x0.length:Int))then 0<=v3/\v3<(x0.length:Int)/\if !cG (aD x0 (aE v3) 0) (-1000000000) 1000000000 then ds=[aI .bool false] else aX .i64 (v3+1)/\N3 n (v3+1) x0 ds else ds=[aI .bool (decide ((x0.length:Int)<=32))]
end
def aWK(ds:Γ aS)(K:fG)(q:Nat->Value):∀n,(∀ {x0},aWJ n x0 ds->St aWI (x0,()) ds [] K q)/\(∀ {v3 x0},N3 n v3 x0 ds->Cu aWI 2 ([eL 0 (.int .i64) x0,eI 3 v3],[]) ds [] K q):=nI ⟨aH,aH⟩ λn ⟨i,i2⟩=>⟨bX i2,
  bD (cP<|bH<|bD cM<|aL<|bX i2) cM⟩
def aKR(v:Int):Bool:=cG v (-1000000000) 1000000000
def aWL(n:Int):Bool:=decide (n<=32)
def XD(x0:Γ Int):Bool:=x0.all aKR&&aWL (x0.length:Int)
def aWM(x0:Γ Int)(hw:x0.length<=maxLen):aWJ (x0.length+1+1) x0 [⟨.bool,XD x0⟩]:=by
 rw[aWJ];have key:=uH x0 (0:Int) aKR [(⟨.bool,false⟩:aS)] [⟨.bool,aWL (x0.length:Int)⟩] (λn i ds=>N3 n i x0 ds) (λn=>?_) (λn i hi hok ds hr=>?_) (λn i hi hok=>?_)
 ·unfold XD;cases h:x0.all aKR <;> rw[h]at key <;> simpa using key
 ·rw[N3,ν (by simp)];rfl
 ·rw[N3,π (by simp;omega)];simp only[aK];refine⟨by omega,by omega,?_⟩;rw[ν (by rw[show cG (x0.getD i 0) (-1000000000) 1000000000=true from hok];simp)];exact⟨iJ hw hi,hr⟩
 ·rw[N3,π (by simp;omega)];simp only[aK];refine⟨by omega,by omega,?_⟩;rw[π (by rw[show cG (x0.getD i 0) (-1000000000) 1000000000=false from hok];simp)] <;> trivial
def bEw:KK:=mL aWI (DO qu) nP (XD,()) (λ⟨x0,_⟩ h hwf K q =>
 (aWK _ K q _).1 (aWM x0 hwf.1.1))
def jl(x0:Γ Int)(x1:Int):Bool:=if XD x0 then(if decide ((x0.length:Int)>=3)then cG x1 0 1000000 else false)else false
def bEx:KK:=mB Tryz.func257 [.v (.sl Za),.v (.int .i64)] [.bool] [bEw,lO] nP (jl,()) λ_=>bH<|dS (dS (bH pr) pr)<|dK pr
def aOb(x0:Int)(x1:Int)(x2:Int):Prop:=((aX .i64 (x0-x1))/\(if decide (x0-x1<=x2)=true then((aX .i64 (x1-x0))/\True)else True))
def jm(x0:Int)(x1:Int)(x2:Int):Bool:=if decide (x0-x1<=x2)then decide (x1-x0<=x2)else false
def bEy:KK:=mB Tryz.func258 [.v (.int .i64),.v (.int .i64),.v (.int .i64)] [.bool] [] aOb (jm,()) λ_=>aL<|lT (aL pr) pr
end
theorem yh:∀(l:Γ Int) (s m:Int),s<=m->(∀y∈l,y<=m)->(s=m\/m∈l)->l.foldl (λs y=>if s<y then y else s) s=m
 | [],s,m,_,_,h=>h.resolve_right (by simp)
 | y::l,s,m,h1,h2,h3=>by
  rw[iQ];have hy:=h2 y (aR ..);refine yh l _ m (by split <;> omega) (λz hz=>h2 z (aM _ hz)) ?_;rcases h3 with h3 | h3
  ·split <;> omega
  ·rcases bA.1 h3 with h3 | h3
   ·split <;> omega
   ·exact .inr h3
structure ZE (cs:Γ Int) (i:Nat) (b m:Int):Prop where
 no:i=0->b=0/\m=0
 ex:0<i->∃e:Nat,b=(e:Int)/\e<i/\cs.getD e 0=m/\(∀j,j<i->cs.getD j 0<=m)/\∀j,j<e->cs.getD j 0<m
theorem ZE.step{cs:Γ Int}{i:Nat}{b m:Int}(h:ZE cs i b m)(h1:1<=cs.getD i 0):ZE cs (i+1) (if m<cs.getD i 0 then(i:Int)else b) (if m<cs.getD i 0 then cs.getD i 0 else m):=by
 refine⟨λe=>by lia,λ_=>?_⟩;by_cases e0:i=0
 ·obtain⟨h2,h3⟩:=h.no e0
  grind
 ·obtain⟨e,h2,h3,h4,h5,h6⟩:=h.ex (by lia)
  grind
theorem ZE.max{cs:Γ Int}{b m:Int}(h:ZE cs cs.length b m)(h0:0<cs.length):(cs.drop 1).foldl (λs y=>if s<y then y else s) (cs.getD 0 0)=m:=by
 obtain⟨e,h2,h3,h4,h5,h6⟩:=h.ex h0;refine yh _ _ _ (h5 0 h0) (λy hy=>?_) ?_
 ·obtain⟨j,hj,rfl⟩:=pN (List.mem_of_mem_drop hy)
  grind
 ·cases e with
  | zero=>lia
  | succ e =>
   have:(cs.drop 1)[e]'(by grind)=m:=by
    grind
   grind
theorem ZE.idx{cs:Γ Int}{b m:Int}(h:ZE cs cs.length b m)(h0:0<cs.length):∃e:Nat,b=(e:Int)/\e<cs.length/\cs.findIdx? (λy=>m==y)=some e:=by
 obtain⟨e,h2,h3,h4,h5,h6⟩:=h.ex h0;refine⟨e,h2,h3,List.findIdx?_eq_some_iff_getElem.2 ⟨h3,?_,λj hj=>?_⟩⟩
 all_goals grind
def aOc(l:Γ Int)(n:Int):jl l n=(JG l 3&&bE n 0 1000000):=by
 have e:∀x,aKR x = !JF x:=λx=>(qv _).symm;have ea:l.all aKR = !l.any JF:=by
  grind
 unfold jl XD JG GO aWL;rw[WK];show _=((if decide ((l.length:Int)>=3)=true then(if decide ((l.length:Int)<=32)=true then(!l.any JF)else false)else false)&&cG n 0 1000000)
 lia
def aKS{a b n:Int}(ha : -1000000000<=a/\a<=1000000000)(hb : -1000000000<=b/\b<=1000000000):aOb a b n/\jm a b n=decide (mO (a-b)<=n):=by
 unfold aOb jm mO;refine⟨⟨by grind [aJ],?_⟩,?_⟩
 ·split
  ·exact⟨by grind [aJ],trivial⟩
  lia
 lia
noncomputable section
def aOd:gC:=D0 qw [.v (.sl Za),.v (.int .i64)] [.int .i64,.int .i64] [bEx,bEy]
mutual
def aKT:Nat->Γ Int->Int->Γ aS->Prop
 | 0,_,_,_=>False
 | n+1,x0,x1,ds=>if !jl x0 x1 then ds=[aI (.int .i64) 0,aI (.int .i64) 2] else J9 n 0 0 0 x0 x1 ds
def J9:Nat->Int->Int->Int->Γ Int->Int->Γ aS->Prop
 | 0,_,_,_,_,_,_=>False
 | n+1,v6,v7,v8,x0,x1,ds=>if decide (v8<(x0.length:Int))then Gf n 0 0 x0 x1 v6 v7 v8 ds else aX .i64 (2*v7)/\if decide (2*v7<=(x0.length:Int))then ds=[aI (.int .i64) 0,aI (.int .i64) 3] else 0<=v6/\v6<(x0.length:Int)/\ds=[aI (.int .i64) (aD x0 (aE v6) 0),aI (.int .i64) 0]
def Gf:Nat->Int->Int->Γ Int->Int->Int->Int->Int->Γ aS->Prop
 | 0,_,_,_,_,_,_,_,_=>False
 | n+1,v9,v10,x0,x1,v6,v7,v8,ds=>if decide (v10<(x0.length:Int))then 0<=v8/\v8<(x0.length:Int)/\0<=v10/\v10<(x0.length:Int)/\aOb (aD x0 (aE v8) 0) (aD x0 (aE v10) 0) x1/\if jm (aD x0 (aE v8) 0) (aD x0 (aE v10) 0) x1 then aX .i64 (v9+1)/\aX .i64 (v10+1)/\Gf n (v9+1) (v10+1) x0 x1 v6 v7 v8 ds else aX .i64 (v10+1)/\Gf n v9 (v10+1) x0 x1 v6 v7 v8 ds else if decide (v9>v7)then aX .i64 (v8+1)/\J9 n v8 v9 (v8+1) x0 x1 ds else aX .i64 (v8+1)/\J9 n v6 v7 (v8+1) x0 x1 ds
end
def aWN(ds:Γ aS)(K:fG)(q:Nat->Value):∀n,(∀ {x0 x1},aKT n x0 x1 ds->St aOd (x0,x1,()) ds [] K q)/\(∀ {v6 v7 v8 x0 x1},J9 n v6 v7 v8 x0 x1 ds->Cu aOd 6 ([eL 0 (.int .i64) x0,eI 1 x1,eI 6 v6,eI 7 v7,eI 8 v8],[]) ds [] K q)/\(∀ {v9 v10 x0 x1 v6 v7 v8},Gf n v9 v10 x0 x1 v6 v7 v8 ds->Cu aOd 10 ([eL 0 (.int .i64) x0,eI 1 x1,eI 6 v6,eI 7 v7,eI 8 v8,eI 9 v9,eI 10 v10],[]) ds [] K q):=nI ⟨aH,aH,aH⟩ λn ⟨i,i6,i10⟩=>⟨bH<|bD cM<|bX i6,
  bD (bX i10)<|aL<|bD cM<|cP cM,
  bD (cP<|cP<|aL<|bD (aL<|aL<|bX i10)<|aL<|bX i10)<|bD (aL<|bX i6)<|aL<|bX i6⟩
def Gg(x0:Γ Int)(x1:Int):Int:=GQ x0 x1
def Gh(x0:Γ Int)(x1:Int):Int:=JH x0 x1
abbrev c167(x0:Γ Int)(x1:Int):Γ Int:=j7 x0 x1
theorem jo(x0:Γ Int)(x1:Int)(i:Nat)(h:i<x0.length):(c167 x0 x1).getD i 0=(BF (x0.getD i 0) x1 x0:Int):=by
 show (x0.map _).getD i 0=_
 grind
def aKU(x0:Γ Int)(x1:Int)(hb:∀x∈x0, -1000000000<=x/\x<=1000000000)(hl:x0.length<=32)(i:Nat)(hi:i<x0.length)(b m:Int)(ds:Γ aS)(n:Nat):∀(k j c:Nat),j+k=x0.length->c<=j ->
  (∀t:Int,t=((c+BF (x0.getD i 0) x1 (x0.drop j):Nat):Int)->J9 n (if m<t then(i:Int)else b) (if m<t then t else m) ((i:Int)+1) x0 x1 ds)->Gf (n+k+1) (c:Int) (j:Int) x0 x1 b m (i:Int) ds:=by
 intro k
 induction k with
 | zero =>
  intro j c hj hc hr;have hr:=hr c (by rw[bT (by lia)];rfl);rw[Gf];by_cases d:m<(c:Int)
  ·grind [aJ]
  ·grind [aJ]
 | succ k ih =>
  intro j c hj hc hr;have hlt:j<x0.length:=by lia
  obtain⟨p,e⟩:=aKS (n:=x1) (hb _ (cF x0 i 0 hi)) (hb _ (cF x0 j 0 hlt));have e3:(j:Int)+1=((j+1:Nat):Int):=by lia
  have e4:(c:Int)+1=((c+1:Nat):Int):=by lia
  rw[dQ x0 j 0 hlt]at hr;unfold BF at hr ih;rw[List.filter_cons]at hr;rw[Gf,π (by lia),aK,aK,e];refine⟨by lia,by lia,by lia,by lia,p,?_⟩;by_cases d:decide (mO (x0.getD i 0-x0.getD j 0)<=x1)=true
  ·rw[π d,List.length_cons]at hr;exact(π d).mpr ⟨by grind [aJ],by grind [aJ],ih (j+1) (c+1) (by lia) (by lia) λt ht=>hr t (by lia)⟩
  ·rw[ν d]at hr;exact(ν d).mpr ⟨by grind [aJ],ih (j+1) c (by lia) (by lia) hr⟩
def aKV(x0:Γ Int)(x1:Int)(hb:∀x∈x0, -1000000000<=x/\x<=1000000000)(hl:3<=x0.length/\x0.length<=32)(h1:0<=x1)(hg:∀b m:Int,ZE (c167 x0 x1) x0.length b m->Gg x0 x1=(if 2*m<=(x0.length:Int)then 0 else x0.getD b.toNat 0)/\Gh x0 x1=(if 2*m<=(x0.length:Int)then 3 else 0)) :
  ∀(k i:Nat) (b m:Int),i+k=x0.length->ZE (c167 x0 x1) i b m->∃n,J9 n b m (i:Int) x0 x1 [⟨.int .i64,Gg x0 x1⟩,⟨.int .i64,Gh x0 x1⟩]:=by
 have hc:∀(a:Int) (l:Γ Int),(BF a x1 l)<=l.length:=λa l=>List.length_filter_le ..;intro k
 induction k with
 | zero =>
  intro i b m hi hv;obtain rfl:i=x0.length:=by lia
  obtain⟨e0,e1⟩:=hg b m hv;obtain⟨e,hb',he,hm,_⟩:=hv.ex (by lia);rw[jo x0 x1 e (by lia)]at hm;refine⟨1,?_⟩;rw[J9,ν (by lia)];refine⟨by grind [aJ],?_⟩
  lia
 | succ k ih =>
  intro i b m hi hv;have hlt:i<x0.length:=by lia
  have h1c:1<=(c167 x0 x1).getD i 0:=by
   rw[jo x0 x1 i hlt];have:0<BF (x0.getD i 0) x1 x0:=List.length_pos_of_mem (List.mem_filter.2 ⟨cF x0 i 0 hlt,decide_eq_true (by rw[Int.sub_self];exact h1)⟩)
   lia
  obtain⟨n,hn⟩:=ih (i+1) _ _ (by lia) (hv.step h1c);rw[jo x0 x1 i hlt]at hn;refine⟨n+x0.length+1+1,?_⟩;rw[J9,π (by lia)];refine aKU x0 x1 hb hl.2 i hlt b m _ n x0.length 0 0 (by lia) (aU _) λt ht=>?_
  grind
def aWO(x0:Γ Int)(x1:Int):∃n,aKT n x0 x1 [⟨.int .i64,Gg x0 x1⟩,⟨.int .i64,Gh x0 x1⟩]:=by
 have hv:=aOc x0 x1;by_cases c1:JG x0 3=true
 ·by_cases c2:bE x1 0 1000000=true
  ·obtain⟨h1,h2,h3⟩:=JP c1;have w:=wi c2;rw[c1,c2]at hv;obtain⟨n,hn⟩:=aKV x0 x1 h3 ⟨by omega,h2⟩ w.1 (λb m hV=>by
    have hV:ZE (c167 x0 x1) (c167 x0 x1).length b m:=by
     rw[show (c167 x0 x1).length=x0.length from eV ..];exact hV
    have hl:0<(c167 x0 x1).length:=by rw[show (c167 x0 x1).length=x0.length from eV ..];omega
    have em:wE (c167 x0 x1)=m:=hV.max hl;obtain⟨e,e1,e2,e3⟩:=hV.idx hl;have ei:RD (c167 x0 x1) m=(e:Int):=by
     show idx ((c167 x0 x1).findIdx? λy=>m==y)=_;rw[e3]<;>rfl
    unfold Gg Gh GQ JH;rw[c1,c2,em,ei,e1];by_cases d:2*m<=(x0.length:Int)
    ·rw[π d,π d,decide_eq_true d];exact⟨rfl,rfl⟩
    ·rw[ν d,ν d,decide_eq_false d];exact⟨rfl,rfl⟩) x0.length 0 0 0 (cO _) ⟨λ_=>⟨rfl,rfl⟩,λh=>by omega⟩
   refine⟨n+1,?_⟩;rw[aKT,hv];exact hn
  ·rw[c1,Hb c2]at hv;refine⟨1,?_⟩;unfold Gg Gh GQ JH;rw[aKT,hv,c1,Hb c2]<;>rfl
 ·rw[Hb c1]at hv;refine⟨1,?_⟩;unfold Gg Gh GQ JH;rw[aKT,hv,Hb c1]<;>rfl
def bEz:KK:=mL aOd (DO qw) nP (Gg,Gh,()) (λ⟨x0,x1,_⟩ h hwf K q =>
 let ⟨n,hn⟩:=aWO x0 x1
 (aWN _ K q n).1 hn)
def aCt(x0:Int)(x1:Int):Prop:=((Wv [gV x0] x1)/\True)
def N4(x0:Int)(x1:Int):Γ Δ:=AA [gV x0] x1
def aRp:KK:=mB Tryz.func168 [.v (.int .i64),.v (.int .i64)] [.sl .str] [Wt,xz] aCt (N4,()) λ_=>bH<|aL pr
def aWP:gC:=D0 qx [.v (.sl eC),.v (.sl Za)] [.int .i64] []
mutual
def bE0:Nat->Γ dO->Γ Int->Γ aS->Prop
 | 0,_,_,_=>False
 | n+1,x0,x1,ds=>EW n (-1) 0 x0 x1 ds
def EW:Nat->Int->Int->Γ dO->Γ Int->Γ aS->Prop
 | 0,_,_,_,_,_=>False
 | n+1,v5,v6,x0,x1,ds=>if decide (v6<(x0.length:Int))then 0<=v6/\v6<(x0.length:Int)/\if decide ((x1.length:Int)<=(aD x0 (aE v6) (aC,0,0,0,())).2.2.1)then aX .i64 ((x1.length:Int)-1)/\0<=(x1.length:Int)-1/\(x1.length:Int)-1<(x1.length:Int)/\0<(x1.length:Int)/\aX .i64 (aD x1 (aE ((x1.length:Int)-1)) 0-aD x1 0 0)/\0<=v6/\v6<(x0.length:Int)/\if decide (aD x1 (aE ((x1.length:Int)-1)) 0-aD x1 0 0<(aD x0 (aE v6) (aC,0,0,0,())).2.2.2.1)then(if decide (v5<0)then aX .i64 (v6+1)/\EW n v6 (v6+1) x0 x1 ds else 0<=v6/\v6<(x0.length:Int)/\0<=v5/\v5<(x0.length:Int)/\if decide ((aD x0 (aE v6) (aC,0,0,0,())).2.1<(aD x0 (aE v5) (aC,0,0,0,())).2.1)then aX .i64 (v6+1)/\EW n v6 (v6+1) x0 x1 ds else aX .i64 (v6+1)/\EW n v5 (v6+1) x0 x1 ds)else aX .i64 (v6+1)/\EW n v5 (v6+1) x0 x1 ds else aX .i64 (v6+1)/\EW n v5 (v6+1) x0 x1 ds else ds=[aI (.int .i64) v5]
end
def aWQ(ds:Γ aS)(K:fG)(q:Nat->Value):∀n,(∀ {x0 x1},bE0 n x0 x1 ds->St aWP (x0,x1,()) ds [] K q)/\(∀ {v5 v6 x0 x1},EW n v5 v6 x0 x1 ds->Cu aWP 3 ([eL 0 eC x0,eL 1 (.int .i64) x1,eI 5 v5,eI 6 v6],[]) ds [] K q):=nI ⟨aH,aH⟩ λn ⟨i,i3⟩=>⟨bX i3,
  bD (cP<|bD (aL<|cP<|pq 0<|aL<|aL<|cP<|bD (bD (jM<|aL<|bX i3)<|cP<|cP<|bD (aL<|bX i3)<|aL<|bX i3)<|dK<|aL<|bX i3)<|dK<|dK<|aL<|bX i3) cM⟩
abbrev zF(x0:Γ F4)(i:Int):F4:=x0.getD i.toNat (aC,0,0,0,())
def pX(x0:Γ F4)(x1:Γ Int):Nat->Int
 | 0 => -1
 | i+1=>if GH x1 (zF x0 (i:Int))=true/\(pX x0 x1 i<0\/(zF x0 (i:Int)).2.1<(zF x0 (pX x0 x1 i)).2.1)then(i:Int)else pX x0 x1 i
def j9(x0:Γ F4)(x1:Γ Int):Int:=pX x0 x1 x0.length
def aOe(x0:Γ F4)(x1:Γ Int):Prop:=aGh x0 x1
theorem XE(x0:Γ F4)(x1:Γ Int):∀i, -1<=pX x0 x1 i/\pX x0 x1 i<(i:Int)
 | 0=>by simp[pX]
 | i+1=>by
  have:=XE x0 x1 i
  grind [pX]
theorem XF(x0:Γ F4)(x1:Γ Int):∀i,i<=x0.length->(x0.take i).foldl (qG x1) (false,(aC,0,0,0,()))=if pX x0 x1 i<0 then(false,(aC,0,0,0,()))else(true,zF x0 (pX x0 x1 i))
 | 0,_=>rfl
 | i+1,h=>by
  have ih:=XF x0 x1 i (by lia);have eg:x0[i]'(by lia)=zF x0 (i:Int):=by grind [oG]
  rw[iC,aV (show i<x0.length by lia),QT,ih];show qG x1 _ (x0[i]'(by lia))=_;unfold qG;by_cases c1:GH x1 (zF x0 (i:Int))=true
  ·by_cases c2:pX x0 x1 i<0
   ·have e:pX x0 x1 (i+1)=(i:Int):=by unfold pX;lia
    lia
   ·by_cases c3:(zF x0 (i:Int)).2.1<(zF x0 (pX x0 x1 i)).2.1
    ·have e:pX x0 x1 (i+1)=(i:Int):=by unfold pX;lia
     lia
    ·have e:pX x0 x1 (i+1)=pX x0 x1 i:=by rw[pX];lia
     lia
  ·have e:pX x0 x1 (i+1)=pX x0 x1 i:=by rw[pX];lia
   lia
def aEM(x0:Γ F4)(x1:Γ Int):(j9 x0 x1<0/\rW x0 x1=false)\/(0<=j9 x0 x1/\j9 x0 x1<(x0.length:Int)/\rW x0 x1=true/\iU x0 x1=zF x0 (j9 x0 x1)):=by
 have hf:=XF x0 x1 x0.length (aU _);have hi:=XE x0 x1 x0.length;rw[List.take_length]at hf;unfold j9 iU rW Ma
 lia
def aWR(x0:Γ F4)(x1:Γ Int)(hm:x0.length<=maxLen)(hm1:x1.length<=maxLen)(h:aOe x0 x1):∀(k i:Nat),i+k=x0.length->EW (k+1) (pX x0 x1 i) (i:Int) x0 x1 [⟨.int .i64,j9 x0 x1⟩]:=by
 have hmx:maxLen<=9223372036854775807:=by decide
 obtain⟨h1,h2⟩:=h;intro k
 induction k with
 | zero =>
  intro i hi;obtain rfl:i=x0.length:=by lia
  rw[EW,ν (by lia)]<;>rfl
 | succ k ih =>
  intro i hi;have hlt:i<x0.length:=by lia
  have hu:=iJ hm hlt;have e3:(i:Int)+1=((i+1:Nat):Int):=by lia
  have e4:aE ((x1.length:Int)-1)=x1.length-1:=by lia
  have b1:=h2 _ (cF x1 (x1.length-1) 0 (by lia));have b2:=h2 _ (cF x1 0 0 (by lia));have hx:=XE x0 x1 i;have ih:=ih (i+1) (by lia);have ef:x0.getD i (aC,0,0,0,())=zF x0 (i:Int):=by rfl
  have eg:GH x1 (zF x0 (i:Int))=(decide ((zF x0 (i:Int)).2.2.1>=(x1.length:Int))&&decide (x1.getD (x1.length-1) 0-x1.getD 0 0<(zF x0 (i:Int)).2.2.2.1)):=rfl;have ei:pX x0 x1 (i+1)=if GH x1 (zF x0 (i:Int))=true/\(pX x0 x1 i<0\/(zF x0 (i:Int)).2.1<(zF x0 (pX x0 x1 i)).2.1)then(i:Int)else pX x0 x1 i:=rfl
  rw[EW,π (by lia)];refine⟨by lia,by lia,?_⟩;by_cases c1:(x1.length:Int)<=(zF x0 (i:Int)).2.2.1
  ·refine(π (decide_eq_true c1)).mpr ⟨by grind [aJ],by lia,by lia,by lia,by grind [aJ],by lia,by lia,?_⟩
   lia
  lia
def bE1:KK:=mL aWP (DO qx) aOe (j9,()) (λ⟨x0,x1,_⟩ h hwf K q =>
 (aWQ _ K q ((x0.length+2))).1 (by rw[bE0];exact aWR x0 x1 hwf.1.1 hwf.2.1.1 h x0.length 0 (by omega)))
end
def upB(f:Nat->Int)(ok:Nat->Bool)(a:Nat):Nat->Nat->Int×Int->Int×Int
 | 0,_,s=>s
 | k+1,b,s=>upB f ok a k (b+1) (if ok b=true/\(b=a+1\/f b<=s.1)then(f b,(b:Int))else s)
def dnB(f:Nat->Int)(ok:Nat->Bool)(a:Nat):Nat->Int×Int->Int×Int
 | 0,s=>s
 | k+1,s=>dnB f ok a k (if ok (a+1+k)=true/\(s.1<0\/f (a+1+k)<s.1)then(f (a+1+k),((a+1+k:Nat):Int))else s)
structure IsB (f:Nat->Int) (ok:Nat->Bool) (lo hi:Nat) (s:Int×Int):Prop where
 ex:∃e:Nat,s.2=(e:Int)/\lo<=e/\e<hi/\ok e=true/\s.1=f e/\∀b,lo<=b->b<hi->ok b=true->f e<=f b/\(e<b->f e<f b)
theorem IsB.one{f:Nat->Int}{ok:Nat->Bool}{lo hi:Nat}{s t:Int×Int}(h:IsB f ok lo hi s)(k:IsB f ok lo hi t):s=t:=by
 obtain⟨e,h1,h2,h3,h4,h5,h6⟩:=h.ex;obtain⟨d,k1,k2,k3,k4,k5,k6⟩:=k.ex
 grind
theorem jq{f:Nat->Int}{ok:Nat->Bool}{a:Nat}(h1:ok (a+1)=true):∀(k b:Nat) (s:Int×Int),a<b->(b=a+1\/IsB f ok (a+1) b s)->(0<k\/b≠a+1)->IsB f ok (a+1) (b+k) (upB f ok a k b s)
 | 0,b,s,h,hs,hk=>hs.resolve_left (by lia)
 | k+1,b,s,h,hs,hk=>by
  rw[show b+(k+1)=b+1+k by lia];refine jq h1 k (b+1) _ (by lia) (.inr ?_) (.inr (by lia));by_cases c:ok b=true/\(b=a+1\/f b<=s.1)
  ·rw[π c];refine⟨b,rfl,h,by lia,c.1,rfl,λj hj hj2 ho=>?_⟩;by_cases e:j=b
   ·lia
   ·rcases hs with hs | hs
    ·lia
    ·obtain⟨d,d1,d2,d3,d4,d5,d6⟩:=hs.ex
     grind
  ·rw[ν c];rcases hs with rfl | hs
   ·lia
   ·obtain⟨d,d1,d2,d3,d4,d5,d6⟩:=hs.ex;refine⟨d,d1,d2,by lia,d4,d5,λj hj hj2 ho=>?_⟩
    grind
theorem aKW{f:Nat->Int}{ok:Nat->Bool}{a:Nat}(h1:ok (a+1)=true)(n:Nat)(h0:∀b,a<b->b<n->ok b=true->0<=f b):∀(k:Nat) (s:Int×Int),a+1+k<=n->((s.1<0/\∀b,a+1+k<=b->b<n->ok b=false)\/IsB f ok (a+1+k) n s)->(0<k\/0<=s.1)->IsB f ok (a+1) n (dnB f ok a k s)
 | 0,s,h,hs,hk=>hs.resolve_left (by lia)
 | k+1,s,h,hs,hk=>by
  rw[dnB];have hs':(((if ok (a+1+k)=true/\(s.1<0\/f (a+1+k)<s.1)then(f (a+1+k),((a+1+k:Nat):Int))else s).1<0/\∀b,a+1+k<=b->b<n->ok b=false)\/IsB f ok (a+1+k) n (if ok (a+1+k)=true/\(s.1<0\/f (a+1+k)<s.1)then(f (a+1+k),((a+1+k:Nat):Int))else s)):=by
   by_cases c:ok (a+1+k)=true/\(s.1<0\/f (a+1+k)<s.1)
   ·rw[π c];refine .inr ⟨a+1+k,rfl,aU _,by lia,c.1,rfl,λj hj hj2 ho=>?_⟩;by_cases e:j=a+1+k
    ·lia
    ·rcases hs with hs | hs
     ·grind
     ·obtain⟨d,d1,d2,d3,d4,d5,d6⟩:=hs.ex
      grind
   ·rw[ν c];rcases hs with hs | hs
    ·grind
    ·obtain⟨d,d1,d2,d3,d4,d5,d6⟩:=hs.ex;refine .inr ⟨d,d1,by lia,d3,d4,d5,λj hj hj2 ho=>?_⟩
     grind
  generalize (if ok (a+1+k)=true/\(s.1<0\/f (a+1+k)<s.1)then(f (a+1+k),((a+1+k:Nat):Int))else s)=t at *;refine aKW h1 n h0 k t (by lia) hs' ?_;by_cases e:0<k
  ·lia
  ·rcases hs' with q | q
   ·grind
   ·obtain⟨d,d1,d2,d3,d4,d5,d6⟩:=q.ex
    grind
theorem bE2{f:Nat->Int}{ok:Nat->Bool}{a n:Nat}(hn:a<n)(h1:ok (a+1)=true)(h0:∀b,a<b->b<n+1->ok b=true->0<=f b)(s t:Int×Int)(ht:t.1<0):upB f ok a (n-a) (a+1) s=dnB f ok a (n-a) t:=by
 have e:a+1+(n-a)=n+1:=by lia
 have u:=jq (f:=f) h1 (n-a) (a+1) s (by lia) (.inl rfl) (.inl (by lia));rw[e]at u;exact u.one (aKW h1 (n+1) h0 (n-a) t (by lia) (.inl ⟨ht,λb _ _=>by lia⟩) (.inl (by lia)))
noncomputable section
def aGB:gC:=D0 qy [.v (.sl eC),.v (.sl Za)] [.int .i64,.sl .str,.int .i64] [bB0,aIW,bE1]
mutual
def aCu:Nat->Γ dO->Γ Int->Γ aS->Prop
 | 0,_,_,_=>False
 | n+1,x0,x1,ds=>if !wo x0 then ds=[aI (.int .i64) 0,aI (.sl .str) [],aI (.int .i64) 1] else BL n 0 x0 x1 ds
def BL:Nat->Int->Γ dO->Γ Int->Γ aS->Prop
 | 0,_,_,_,_=>False
 | n+1,v8,x0,x1,ds=>if decide (v8<(x1.length:Int))then(if decide ((x1.length:Int)>40)then ds=[aI (.int .i64) 0,aI (.sl .str) [],aI (.int .i64) 2] else 0<=v8/\v8<(x1.length:Int)/\if !MV (aD x1 (aE v8) 0)then ds=[aI (.int .i64) 0,aI (.sl .str) [],aI (.int .i64) 2] else if decide (v8>0)then aX .i64 (v8-1)/\0<=v8-1/\v8-1<(x1.length:Int)/\0<=v8/\v8<(x1.length:Int)/\if decide (aD x1 (aE (v8-1)) 0>aD x1 (aE v8) 0)then ds=[aI (.int .i64) 0,aI (.sl .str) [],aI (.int .i64) 2] else aX .i64 (v8+1)/\BL n (v8+1) x0 x1 ds else aX .i64 (v8+1)/\BL n (v8+1) x0 x1 ds)else if decide ((x1.length:Int)>0)then(if(x0.length:Int)==0 then ds=[aI (.int .i64) 0,aI (.sl .str) [],aI (.int .i64) 3] else aX .i64 ((x1.length:Int)+1)/\0<=(x1.length:Int)+1/\(x1.length:Int)+1<=(x1.length:Int)+1/\8*((x1.length:Int)+1)<=281474976710656/\aX .i64 ((x1.length:Int)+1)/\0<=(x1.length:Int)+1/\(x1.length:Int)+1<=(x1.length:Int)+1/\8*((x1.length:Int)+1)<=281474976710656/\aX .i64 ((x1.length:Int)-1)/\yE n ((x1.length:Int)-1) (aP (aE ((x1.length:Int)+1)) 0) (aP (aE ((x1.length:Int)+1)) 0) x0 x1 ds)else aX .i64 ((x1.length:Int)+1)/\0<=(x1.length:Int)+1/\(x1.length:Int)+1<=(x1.length:Int)+1/\8*((x1.length:Int)+1)<=281474976710656/\aX .i64 ((x1.length:Int)+1)/\0<=(x1.length:Int)+1/\(x1.length:Int)+1<=(x1.length:Int)+1/\8*((x1.length:Int)+1)<=281474976710656/\aX .i64 ((x1.length:Int)-1)/\yE n ((x1.length:Int)-1) (aP (aE ((x1.length:Int)+1)) 0) (aP (aE ((x1.length:Int)+1)) 0) x0 x1 ds
def yE:Nat->Int->Γ Int->Γ Int->Γ dO->Γ Int->Γ aS->Prop
 | 0,_,_,_,_,_,_=>False
 | n+1,v11,h0,h1,x0,x1,ds=>if decide (v11>=0)then 0<=v11/\v11<(h0.length:Int)/\vP n ((x1.length:Int)) (eU h0 (aE v11) (-1)) h1 x0 x1 v11 ds else Kz n 0 ([]) x0 x1 h0 h1 ds
def vP:Nat->Int->Γ Int->Γ Int->Γ dO->Γ Int->Int->Γ aS->Prop
 | 0,_,_,_,_,_,_,_=>False
 | n+1,v12,h0,h1,x0,x1,v11,ds=>if decide (v12>v11)then 0<=v11/\v11<=v12/\v12<=(x1.length:Int)/\aOe x0 (bG (aE v11) (bK (aE v12) x1))/\if decide (j9 x0 (bG (aE v11) (bK (aE v12) x1))>=0)then 0<=v11/\v11<(h0.length:Int)/\if decide (aD h0 (aE v11) 0<0)then 0<=j9 x0 (bG (aE v11) (bK (aE v12) x1))/\j9 x0 (bG (aE v11) (bK (aE v12) x1))<(x0.length:Int)/\0<=v12/\v12<(h0.length:Int)/\aX .i64 ((aD x0 (aE (j9 x0 (bG (aE v11) (bK (aE v12) x1)))) (aC,0,0,0,())).2.1+aD h0 (aE v12) 0)/\0<=v11/\v11<(h0.length:Int)/\0<=v11/\v11<(h1.length:Int)/\aX .i64 (v12-1)/\vP n (v12-1) (eU h0 (aE v11) ((aD x0 (aE (j9 x0 (bG (aE v11) (bK (aE v12) x1)))) (aC,0,0,0,())).2.1+aD h0 (aE v12) 0)) (eU h1 (aE v11) v12) x0 x1 v11 ds else 0<=j9 x0 (bG (aE v11) (bK (aE v12) x1))/\j9 x0 (bG (aE v11) (bK (aE v12) x1))<(x0.length:Int)/\0<=v12/\v12<(h0.length:Int)/\aX .i64 ((aD x0 (aE (j9 x0 (bG (aE v11) (bK (aE v12) x1)))) (aC,0,0,0,())).2.1+aD h0 (aE v12) 0)/\0<=v11/\v11<(h0.length:Int)/\if decide ((aD x0 (aE (j9 x0 (bG (aE v11) (bK (aE v12) x1)))) (aC,0,0,0,())).2.1+aD h0 (aE v12) 0<aD h0 (aE v11) 0)then 0<=j9 x0 (bG (aE v11) (bK (aE v12) x1))/\j9 x0 (bG (aE v11) (bK (aE v12) x1))<(x0.length:Int)/\0<=v12/\v12<(h0.length:Int)/\aX .i64 ((aD x0 (aE (j9 x0 (bG (aE v11) (bK (aE v12) x1)))) (aC,0,0,0,())).2.1+aD h0 (aE v12) 0)/\0<=v11/\v11<(h0.length:Int)/\0<=v11/\v11<(h1.length:Int)/\aX .i64 (v12-1)/\vP n (v12-1) (eU h0 (aE v11) ((aD x0 (aE (j9 x0 (bG (aE v11) (bK (aE v12) x1)))) (aC,0,0,0,())).2.1+aD h0 (aE v12) 0)) (eU h1 (aE v11) v12) x0 x1 v11 ds else aX .i64 (v12-1)/\vP n (v12-1) h0 h1 x0 x1 v11 ds else aX .i64 (v12-1)/\vP n (v12-1) h0 h1 x0 x1 v11 ds else aX .i64 (v11-1)/\yE n (v11-1) h0 h1 x0 x1 ds
def Kz:Nat->Int->Γ Δ->Γ dO->Γ Int->Γ Int->Γ Int->Γ aS->Prop
 | 0,_,_,_,_,_,_,_=>False
 | n+1,v15,h2,x0,x1,h0,h1,ds=>if decide (v15<(x1.length:Int))then 0<=v15/\v15<(h1.length:Int)/\0<=v15/\v15<=aD h1 (aE v15) 0/\aD h1 (aE v15) 0<=(x1.length:Int)/\aOe x0 (bG (aE v15) (bK (aE (aD h1 (aE v15) 0)) x1))/\0<=j9 x0 (bG (aE v15) (bK (aE (aD h1 (aE v15) 0)) x1))/\j9 x0 (bG (aE v15) (bK (aE (aD h1 (aE v15) 0)) x1))<(x0.length:Int)/\(aF h2+1)*16<=140737488355328/\0<=v15/\v15<(h1.length:Int)/\Kz n (aD h1 (aE v15) 0) (h2++[(aD x0 (aE (j9 x0 (bG (aE v15) (bK (aE (aD h1 (aE v15) 0)) x1)))) (aC,0,0,0,())).1]) x0 x1 h0 h1 ds else 0<(h0.length:Int)/\ds=[aI (.int .i64) (aD h0 0 0),aI (.sl .str) h2,aI (.int .i64) 0]
end
def aWS(ds:Γ aS)(K:fG)(q:Nat->Value):∀n,(∀ {x0 x1},aCu n x0 x1 ds->St aGB (x0,x1,()) ds [] K q)/\(∀ {v8 x0 x1},BL n v8 x0 x1 ds->Cu aGB 5 ([eL 0 eC x0,eL 1 (.int .i64) x1,eI 7 (x1.length:Int),eI 8 v8],[]) ds [] K q)/\(∀ {v11 h0 h1 x0 x1},yE n v11 h0 h1 x0 x1 ds->Cu aGB 14 ([eL 0 eC x0,eL 1 (.int .i64) x1,eI 7 (x1.length:Int),eW 9 0,eW 10 1,eI 11 v11],[cL (.int .i64) h0,cL (.int .i64) h1]) ds [] K q)/\(∀ {v12 h0 h1 x0 x1 v11},vP n v12 h0 h1 x0 x1 v11 ds->Cu aGB 18 ([eL 0 eC x0,eL 1 (.int .i64) x1,eI 7 (x1.length:Int),eW 9 0,eW 10 1,eI 11 v11,eI 12 v12],[cL (.int .i64) h0,cL (.int .i64) h1]) ds [] K q)/\(∀ {v15 h2 x0 x1 h0 h1},Kz n v15 h2 x0 x1 h0 h1 ds->Cu aGB 26 ([eL 0 eC x0,eL 1 (.int .i64) x1,eI 7 (x1.length:Int),eW 9 0,eW 10 1,eW 14 2,eI 15 v15],[cL (.int .i64) h0,cL (.int .i64) h1,cL .str h2]) ds [] K q):=nI ⟨aH,aH,aH,aH,aH⟩ λn ⟨i,i5,i14,i18,i26⟩=>⟨bH<|bD cM<|bX i5,
  bD (bD (jM<|jM cM)<|cP<|bH<|bD (jM cM)<|bD (aL<|cP<|cP<|bD cM<|aL<|bX i5)<|dK<|aL<|bX i5)<|bD (bD cM<|aL<|UE<|aL<|UE<|aL<|bX i14)<|dK<|aL<|UE<|aL<|UE<|aL<|bX i14,
  bD (cP<|bX i18)<|bX i26,
  bD (UE<|aL<|bD (cP<|bD (jM<|cP<|cP<|aL<|cP<|cP<|aL<|bX i18)<|cP<|cP<|aL<|cP<|bD (cP<|cP<|aL<|cP<|cP<|aL<|bX i18)<|aL<|bX i18)<|dK<|aL<|bX i18)<|aL<|bX i14,
  bD (cP<|UE<|aL<|cP<|aL<|cP<|bX i26)<|pq 0<|aL cM⟩
def aCv(x0:Γ F4)(x1:Γ Int):Int:=Vz x0 x1
def XG(x0:Γ F4)(x1:Γ Int):Γ Δ:=BC x0 x1
def XH(x0:Γ F4)(x1:Γ Int):Int:=JB x0 x1
def bE3(x0:Γ F4)(x1:Γ Int):Prop:=x1.length<=1000000
def f169(x0:Γ F4)(x1:Γ Int)(s:Γ Int)(a b:Nat):Int:=FG x0 x1 a b+s.getD b 0
def aEN(x0:Γ F4)(x1:Γ Int)(a b:Nat):(j9 x0 (w8 x1 a b)<0/\tF x0 x1 a b=false)\/(0<=j9 x0 (w8 x1 a b)/\j9 x0 (w8 x1 a b)<(x0.length:Int)/\tF x0 x1 a b=true/\iU x0 (w8 x1 a b)=x0.getD (j9 x0 (w8 x1 a b)).toNat (aC,0,0,0,())):=aEM x0 (w8 x1 a b)
theorem XI(x0:Γ F4)(x1:Γ Int)(a:Nat)(f:Nat->Int):∀(k b:Nat) (s:Γ Int×Γ Int),a<b->a<s.1.length->a<s.2.length->(∀j,b<=j->FG x0 x1 a j+s.1.getD j 0=f j) ->
  CW x0 x1 a k b s=(s.1.set a (upB f (tF x0 x1 a) a k b (s.1.getD a 0,s.2.getD a 0)).1,s.2.set a (upB f (tF x0 x1 a) a k b (s.1.getD a 0,s.2.getD a 0)).2)
 | 0,b,s,h,h1,h2,hf=>by
  have e:∀(l:Γ Int),a<l.length->l.set a (l.getD a 0)=l:=λl hl=>by
   simp_all
  show s=(s.1.set a (s.1.getD a 0),s.2.set a (s.2.getD a 0))
  grind
 | k+1,b,s,h,h1,h2,hf=>by
  rw[CW,upB];unfold bw;rw[hf b (aU _)];by_cases c1:tF x0 x1 a b=true
  ·rw[π c1];by_cases c2:b=a+1\/f b<=s.1.getD a 0
   ·have:=XI x0 x1 a f k (b+1) (s.1.set a (f b),s.2.set a (b:Int)) (by lia) (by grind) (by grind) (λj hj=>by
     grind)
    simp_all
   ·rw[ν c2,ν (λq=>c2 q.2)];exact XI x0 x1 a f k (b+1) s (by omega) h1 h2 (λj hj=>hf j (by omega))
  ·rw[ν c1,ν (λq=>c1 q.1)];exact XI x0 x1 a f k (b+1) s (by omega) h1 h2 (λj hj=>hf j (by omega))
def aWT{x0:Γ F4}{x1:Γ Int}(h:FH x0 x1)(a:Nat)(ha:a<x1.length)(s:Γ Int×Γ Int)(hi:vG x1 (a+1) s)(ds:Γ aS)(n:Nat):∀(k:Nat) (h0 h1:Γ Int),a+k<=x1.length->h0.length=x1.length+1->h1.length=x1.length+1->(∀j,a<j->h0.getD j 0=s.1.getD j 0) ->
  yE n ((a:Int)-1) (h0.set a (dnB (f169 x0 x1 s.1 a) (tF x0 x1 a) a k (h0.getD a 0,h1.getD a 0)).1) (h1.set a (dnB (f169 x0 x1 s.1 a) (tF x0 x1 a) a k (h0.getD a 0,h1.getD a 0)).2) x0 x1 ds->vP (n+k+1) ((a+k:Nat):Int) h0 h1 x0 x1 (a:Int) ds:=by
 have hl:=h.1;intro k
 induction k with
 | zero =>
  intro h0 h1 hk l0 l1 hs hr;have e:∀(l:Γ Int),a<l.length->l.set a (l.getD a 0)=l:=λl hl=>by
   simp_all
  rw[show (dnB (f169 x0 x1 s.1 a) (tF x0 x1 a) a 0 (h0.getD a 0,h1.getD a 0))=(h0.getD a 0,h1.getD a 0)from rfl,e _ (by lia),e _ (by lia)]at hr;rw[oJ,oJ,vP,ν (by lia)]
  grind [aJ]
 | succ k ih =>
  intro h0 h1 hk l0 l1 hs hr;have eb:a+(k+1)=a+1+k:=by lia
  have e3:((a+1+k:Nat):Int)-1=((a+k:Nat):Int):=by lia
  obtain⟨c1,c2⟩:=Oy h a (a+1+k);obtain⟨d1,d2⟩:=hi.cost (a+1+k) (by lia) (by lia);have hcast:1000000*((x1.length-(a+1+k):Nat):Int)<=1000000*1000:=by lia
  have hp:=gu h (show a<a+1+k by lia) (show a+1+k<=x1.length by lia);have hv:aX .i64 (f169 x0 x1 s.1 a (a+1+k)):=by grind [f169,aJ]
  have ii:aX .i64 ((a+k:Nat):Int):=by grind [aJ]
  have no:yE n ((a:Int)-1) (h0.set a (dnB (f169 x0 x1 s.1 a) (tF x0 x1 a) a k (h0.getD a 0,h1.getD a 0)).1) (h1.set a (dnB (f169 x0 x1 s.1 a) (tF x0 x1 a) a k (h0.getD a 0,h1.getD a 0)).2) x0 x1 ds->vP (n+k+1) ((a+k:Nat):Int) h0 h1 x0 x1 (a:Int) ds:=ih h0 h1 (by lia) l0 l1 hs;have yes:yE n ((a:Int)-1) (h0.set a (dnB (f169 x0 x1 s.1 a) (tF x0 x1 a) a k (f169 x0 x1 s.1 a (a+1+k),((a+1+k:Nat):Int))).1) (h1.set a (dnB (f169 x0 x1 s.1 a) (tF x0 x1 a) a k (f169 x0 x1 s.1 a (a+1+k),((a+1+k:Nat):Int))).2) x0 x1 ds->vP (n+k+1) ((a+k:Nat):Int) (h0.set a (f169 x0 x1 s.1 a (a+1+k))) (h1.set a ((a+1+k:Nat):Int)) x0 x1 (a:Int) ds:=λhr=>by
   refine ih _ _ (by lia) (by grind) (by grind) (λj hj=>?_) ?_
   ·grind
   ·rw[tH _ _ _ _ (by lia),π rfl,tH _ _ _ _ (by lia),π rfl,QU,QU]
    lia
  have e6:h0.getD (a+1+k) 0=s.1.getD (a+1+k) 0:=hs _ (by lia);rw[dnB]at hr;show vP (n+k+1+1) _ _ _ _ _ _ _;rw[eb,vP,π (by lia),e3,aK,aK,e6];refine⟨by lia,by lia,by lia,hp,?_⟩;rcases aEN x0 x1 a (a+1+k)with ⟨q1,q2⟩ | ⟨q1,q2,q3,q4⟩
  ·lia
  ·have ef:(x0.getD (j9 x0 (w8 x1 a (a+1+k))).toNat (aC,0,0,0,())).2.1+s.1.getD (a+1+k) 0=f169 x0 x1 s.1 a (a+1+k):=by rw[<- q4]<;>rfl
   refine(π (decide_eq_true q1)).mpr ⟨by lia,by lia,?_⟩;rw[ef]
   grind
def aOf{x0:Γ F4}{x1:Γ Int}(h:FH x0 x1)(hne:x0≠[]\/x1.length=0)(ds:Γ aS):∀(k:Nat) (s:Γ Int×Γ Int),k<=x1.length->vG x1 k s->(∀j,k<=j->j<x1.length->tF x0 x1 j (s.2.getD j 0).toNat=true) ->
  (vG x1 0 (tG x0 x1 k s)->(∀j,j<x1.length->tF x0 x1 j ((tG x0 x1 k s).2.getD j 0).toNat=true)->∃n,Kz n 0 [] x0 x1 (tG x0 x1 k s).1 (tG x0 x1 k s).2 ds)->∃n,yE n ((k:Int)-1) s.1 s.2 x0 x1 ds:=by
 have hl:=h.1;intro k
 induction k with
 | zero =>
  intro s hk hi ho hr;obtain⟨n,hn⟩:=hr hi (λj hj=>ho j (aY _) hj);refine⟨n+1,?_⟩;rw[yE,ν (by lia)];exact hn
 | succ k ih =>
  intro s hk hi ho hr;have hx:x0≠[]:=hne.resolve_right (by lia);rw[tG]at hr;have e1:((k+1:Nat):Int)-1=(k:Int):=by lia
  have l0:=hi.l1;have l1:=hi.l2;have hq:=gv h hx k (by lia) (x1.length-k) (k+1) s (by lia) (by lia) hi (λhh=>absurd rfl hh);have ei:=XI x0 x1 k (f169 x0 x1 s.1 k) (x1.length-k) (k+1) s (by lia) (by lia) (by lia) (λj _=>rfl);have hf:=Oz h hx (show k<x1.length by lia);obtain⟨e,e2,_,_,e5,_⟩:=(jq (f:=f169 x0 x1 s.1 k) hf (x1.length-k) (k+1) (s.1.getD k 0,s.2.getD k 0) (by lia) (.inl rfl) (.inl (by lia))).ex;obtain⟨n,hn⟩:=ih _ (by lia) hq (λj hj hj2=>by
   rw[ei];rw[tH _ _ _ _ (by lia)];by_cases c:k=j
   ·simp_all
   grind) hr
  rw[ei,bE2 (f:=f169 x0 x1 s.1 k) (ok:=tF x0 x1 k) (a:=k) (n:=x1.length) (by lia) hf (λb hb1 hb2 _=>by
   have:=(Oy h k b).1;have:=(hi.cost b (by lia) (by lia)).1
   grind [f169]) _ (-1,s.2.getD k 0) (show (-1:Int)<0 by lia)]at hn
  have:=aWT h k (by lia) s hi ds n (x1.length-k) (s.1.set k (-1)) s.2 (by lia) (by grind) l1 (λj hj=>by rw[tH _ _ _ _ (by lia),ν (by lia)]) (by
   rw[tH _ _ _ _ (by lia),π rfl,QU]
   lia)
  refine⟨n+(x1.length-k)+1+1,?_⟩;rw[e1,yE,π (by lia),aK]
  grind
def aOg{x0:Γ F4}{x1:Γ Int}(h:FH x0 x1)(hne:x0≠[]\/x1.length=0){s:Γ Int×Γ Int}(hi:vG x1 0 s)(hok:∀a,a<x1.length->tF x0 x1 a (s.2.getD a 0).toNat=true):∀(k a:Nat) (h2:Γ Δ),x1.length-a<k->a<=x1.length->h2.length<=a->Kz k (a:Int) h2 x0 x1 s.1 s.2 [⟨.int .i64,s.1.getD 0 0⟩,⟨.sl .str,h2++wC x0 x1 s.2 k a⟩,⟨.int .i64,0⟩]:=by
 have hl:=h.1;have hl1:=hi.l1;have hl2:=hi.l2;intro k
 induction k with
 | zero=>lia
 | succ k ih =>
  intro a h2 hk ha hh;rw[wC,Kz];by_cases c:a<x1.length
  ·obtain⟨n1,n2⟩:=hi.next a (aY _) c;have hok:=hok a c;obtain⟨e,he⟩:∃e:Nat,s.2.getD a 0=(e:Int):=⟨(s.2.getD a 0).toNat,by lia⟩;rw[he,aK]at hok;rw[π (by lia),π c,aK,he,aK];rcases aEN x0 x1 a e with ⟨_,q⟩ | ⟨q1,q2,_,q4⟩
   ·lia
   ·rw[<- q4];have:=ih e (h2++[(iU x0 (w8 x1 a e)).1]) (by lia) (by lia) (by grind);rw[cK]at this;exact⟨by lia,by lia,by lia,by lia,by lia,gu h (by lia) (by lia),q1,q2,by lia,by lia,by lia,this⟩
  grind
def aEO(x0:Γ F4)(x1:Γ Int)(hl:x1.length<=40)(ds:Γ aS)(N:Nat):∀(k i:Nat),i+k=x1.length->(nF (CV x1) i (x1.drop i)=true->BL (N+1) (x1.length:Int) x0 x1 ds)->(nF (CV x1) i (x1.drop i)=false->ds=[⟨.int .i64,(0:Int)⟩,⟨.sl .str,([]:Γ Δ)⟩,⟨.int .i64,(2:Int)⟩])->BL (N+k+1) (i:Int) x0 x1 ds:=by
 intro k
 induction k with
 | zero =>
  intro i hi yes _;obtain rfl:i=x1.length:=by lia
  exact yes (by rw[List.drop_length]<;>rfl)
 | succ k ih =>
  intro i hi yes no;have hlt:i<x1.length:=by lia
  have e3:(i:Int)+1=((i+1:Nat):Int):=by lia
  have ii:aX .i64 ((i+1:Nat):Int):=by grind [aJ]
  rw[dQ x1 i 0 hlt]at yes no;have ea:nF (CV x1) i (x1.getD i 0::x1.drop (i+1))=(CV x1 i (x1.getD i 0)&&nF (CV x1) (i+1) (x1.drop (i+1))):=rfl;have go:CV x1 i (x1.getD i 0)=true->BL (N+k+1) ((i+1:Nat):Int) x0 x1 ds:=λe=>by
   grind
  have bad:CV x1 i (x1.getD i 0)=false->ds=[⟨.int .i64,(0:Int)⟩,⟨.sl .str,([]:Γ Δ)⟩,⟨.int .i64,(2:Int)⟩]:=λe=>by
   lia
  have ed:∀n,MV n=pU n:=λ_=>rfl;unfold CV at go bad;rw[BL,π (by lia),ν (by lia),aK,ed];refine⟨by lia,by lia,?_⟩;by_cases c1:pU (x1.getD i 0)=true
  ·rw[ν (by lia)];by_cases c2:i=0
   ·lia
   ·have e4:aE ((i:Int)-1)=i-1:=by lia
    rw[π (by lia)];refine⟨by grind [aJ],by lia,by lia,by lia,by lia,?_⟩
    lia
  lia
def aWU(x0:Γ F4)(x1:Γ Int)(hl:x1.length<=1000000):∃n,aCu n x0 x1 [⟨.int .i64,aCv x0 x1⟩,⟨.sl .str,XG x0 x1⟩,⟨.int .i64,XH x0 x1⟩]:=by
 unfold aCv XG XH Vz BC JB;have hc:B8 x0 x1=if lU x0=true then(if jB x1=true then(if x0.length=0/\0<x1.length then 3 else 0)else 2)else 1:=by
  unfold B8 lG;cases lU x0
  ·rfl
  ·cases jB x1 <;> rfl
 by_cases c1:lU x0=true
 ·rw[π c1]at hc;have he:jB x1=(nF (CV x1) 0 x1&&decide ((x1.length:Int)<=40)):=rfl;by_cases c2:jB x1=true
  ·rw[π c2]at hc;have hl:=(Wq c2).1;rw[he,Bool.and_eq_true]at c2;have hg:=Rm x0 x1;have hok:lG x0 (jB x1) []=0:=by
    unfold lG;rw[c1,he,c2.1,c2.2]<;>rfl
   have hok:=hg.2 hok;have fin:∀(ds:Γ aS) (n:Nat),BL (n+1) (x1.length:Int) x0 x1 ds->∃n,aCu n x0 x1 ds:=λds n hn=>⟨n+x1.length+1+1,by
    rw[aCu, <- FJ,c1,ν (by decide)];exact aEO x0 x1 hl _ n x1.length 0 (cO _) (λ_=>hn) (λq=>by rw[pZ,c2.1]at q;exact absurd q (by decide))⟩
   by_cases d:x0.length=0/\0<x1.length
   ·rw[π d]at hc;rw[hc,ν (by decide),ν (by decide)];refine fin _ 0 ?_;rw[BL,ν (by simp only[ε];omega),π (by simp only[ε];omega),π (by rw[beq_iff_eq];omega)]
   ·rw[ν d]at hc;have hne:x0≠[]\/x1.length=0:=by
     cases x0 with
     | nil=>exact .inr (by simp at d;rw[d]<;>rfl)
     | cons f l=>exact .inl (by simp)
    have h0:vG x1 x1.length (aP (x1.length+1) 0,aP (x1.length+1) 0):=by
     refine⟨by simp,by simp,λj h1 h2=>?_,λj h1 h2=>by omega⟩;have:(aP (x1.length+1) (0:Int)).getD j 0=0:=by
      rw[List.getD_eq_getElem?_getD,List.getElem?_replicate];split <;> rfl
     rw[this];omega
    obtain⟨n,hn⟩:=aOf hok hne [⟨.int .i64,(wB x0 x1).1.getD 0 0⟩,⟨.sl .str,wC x0 x1 (wB x0 x1).2 (x1.length+1) 0⟩,⟨.int .i64,0⟩] x1.length _ (aU _) h0 (λj h1 h2=>by omega) (λhi ho=>⟨x1.length+1,aOg hok hne hi ho (x1.length+1) 0 [] (by omega) (aY _) (aU _)⟩);have e:aE ((x1.length:Int)+1)=x1.length+1:=by omega
    have stuff:aX .i64 ((x1.length:Int)+1)/\(0<=(x1.length:Int)+1)/\((x1.length:Int)+1<=(x1.length:Int)+1)/\(8*((x1.length:Int)+1)<=281474976710656)/\aX .i64 ((x1.length:Int)+1)/\(0<=(x1.length:Int)+1)/\((x1.length:Int)+1<=(x1.length:Int)+1)/\(8*((x1.length:Int)+1)<=281474976710656)/\aX .i64 ((x1.length:Int)-1)/\yE n ((x1.length:Int)-1) (aP (aE ((x1.length:Int)+1)) 0) (aP (aE ((x1.length:Int)+1)) 0) x0 x1 [⟨.int .i64,(wB x0 x1).1.getD 0 0⟩,⟨.sl .str,wC x0 x1 (wB x0 x1).2 (x1.length+1) 0⟩,⟨.int .i64,0⟩]:=by
     rw[e];exact⟨by rw[aJ];omega,by omega,by omega,by omega,by rw[aJ];omega,by omega,by omega,by omega,by rw[aJ];omega,hn⟩
    rw[hc,π rfl,π rfl];refine fin _ n ?_;rw[BL,ν (by simp only[ε];omega)];by_cases e0:x1.length=0
    ·exact(ν (by simp only[ε];omega)).mpr stuff
    ·refine(π (by simp only[ε];omega)).mpr ((ν ?_).mpr stuff);rw[beq_iff_eq];intro q;exact d ⟨by omega,by omega⟩
  ·rw[ν c2]at hc;rw[hc,ν (by decide),ν (by decide)];by_cases d:x1.length<=40
   ·rw[he,decide_eq_true (show (x1.length:Int)<=40 by omega),Bool.and_true]at c2;refine⟨0+x1.length+1+1,?_⟩;rw[aCu, <- FJ,c1,ν (by decide)];exact aEO x0 x1 d _ 0 x1.length 0 (cO _) (λq=>absurd q c2) (λ_=>rfl)
   ·refine⟨1+1,?_⟩;rw[aCu, <- FJ,c1,ν (by decide),BL,π (by simp only[ε];omega),π (by simp only[ε];omega)]
 ·rw[ν c1]at hc;rw[hc,ν (by decide),ν (by decide)];exact⟨1,by rw[aCu, <- FJ,Hb c1]<;>rfl⟩
def bE4:KK:=mL aGB (DO qy) bE3 (aCv,XG,XH,()) (λ⟨x0,x1,_⟩ h hwf K q =>
 let ⟨n,hn⟩:=aWU x0 x1 h
 (aWS _ K q n).1 hn)
def aWV:gC:=D0 qz [.v (.sl Za)] [.bool] [lO]
mutual
def aWW:Nat->Γ Int->Γ aS->Prop
 | 0,_,_=>False
 | n+1,x0,ds=>N5 n 0 x0 ds
def N5:Nat->Int->Γ Int->Γ aS->Prop
 | 0,_,_,_=>False
 | n+1,v3,x0,ds=>if decide (v3<(x0.length:Int))then 0<=v3/\v3<(x0.length:Int)/\if !cG (aD x0 (aE v3) 0) 0 1000 then ds=[aI .bool false] else aX .i64 (v3+1)/\N5 n (v3+1) x0 ds else if decide ((x0.length:Int)>=1)then ds=[aI .bool (decide ((x0.length:Int)<=60))] else ds=[aI .bool false]
end
def aWX(ds:Γ aS)(K:fG)(q:Nat->Value):∀n,(∀ {x0},aWW n x0 ds->St aWV (x0,()) ds [] K q)/\(∀ {v3 x0},N5 n v3 x0 ds->Cu aWV 2 ([eL 0 (.int .i64) x0,eI 3 v3],[]) ds [] K q):=nI ⟨aH,aH⟩ λn ⟨i,i2⟩=>⟨bX i2,
  bD (cP<|bH<|bD cM<|aL<|bX i2)<|bD cM cM⟩
def aOh(v:Int):Bool:=cG v 0 1000
def aOi(n:Int):Bool:=if decide (n>=1)=true then decide (n<=60)else false
def EX(x0:Γ Int):Bool:=x0.all aOh&&aOi (x0.length:Int)
def aWY(x0:Γ Int)(hw:x0.length<=maxLen):aWW (x0.length+1+1) x0 [⟨.bool,EX x0⟩]:=by
 rw[aWW];have key:=uH x0 (0:Int) aOh [(⟨.bool,false⟩:aS)] [⟨.bool,aOi (x0.length:Int)⟩] (λn i ds=>N5 n i x0 ds) (λn=>?_) (λn i hi hok ds hr=>?_) (λn i hi hok=>?_)
 ·unfold EX;cases h:x0.all aOh <;> rw[h]at key <;> simpa using key
 ·rw[N5,ν (by simp)];unfold aOi;by_cases c:decide ((x0.length:Int)>=1)=true
  ·rw[π c,π c]
  ·rw[ν c,ν c]
 ·rw[N5,π (by simp;omega)];simp only[aK];refine⟨by omega,by omega,?_⟩;rw[ν (by rw[show cG (x0.getD i 0) 0 1000=true from hok];simp)];exact⟨iJ hw hi,hr⟩
 ·rw[N5,π (by simp;omega)];simp only[aK];refine⟨by omega,by omega,?_⟩;rw[π (by rw[show cG (x0.getD i 0) 0 1000=false from hok];simp)] <;> trivial
def aRr:KK:=mL aWV (DO qz) nP (EX,()) (λ⟨x0,_⟩ h hwf K q =>
 (aWX _ K q _).1 (aWY x0 hwf.1.1))
def aWZ:gC:=D0 ra [.v (.sl Za)] [.str] [aJc,PA,aEr]
mutual
def aOj:Nat->Γ Int->Γ aS->Prop
 | 0,_,_=>False
 | n+1,x0,ds=>if !pT x0 then ds=[aI .str (aA #[])] else Ru n 0 ([]) x0 ds
def Ru:Nat->Int->Γ Δ->Γ Int->Γ aS->Prop
 | 0,_,_,_,_=>False
 | n+1,v11,h0,x0,ds=>if decide (v11<(x0.length:Int))then 0<=v11/\v11<(x0.length:Int)/\DH (aD x0 (aE v11) 0)/\(aF h0+1)*16<=140737488355328/\aX .i64 (v11+1)/\Ru n (v11+1) (h0++[dA (aD x0 (aE v11) 0)]) x0 ds else ZC h0 (aA #[43])/\ds=[aI .str (rA h0 (aA #[43]))]
end
def aXa(ds:Γ aS)(K:fG)(q:Nat->Value):∀n,(∀ {x0},aOj n x0 ds->St aWZ (x0,()) ds [] K q)/\(∀ {v11 h0 x0},Ru n v11 h0 x0 ds->Cu aWZ 5 ([eW 3 0,eL 9 (.int .i64) x0,eI 10 (x0.length:Int),eI 11 v11],[cL .str h0]) ds [] K q):=nI ⟨aH,aH⟩ λn ⟨i,i5⟩=>⟨bH<|bD cM<|Dr [(3,.str)] i5,
  bD (cP<|aL<|aL<|aL<|Dr [(3,.str)] i5)<|aL cM⟩
def Ja(x0:Γ Int):Δ:=if !pT x0 then aA #[] else rA (x0.map dA) (aA #[43])
def aOk(x0:Γ Int):Prop:=pT x0=true->x0.length<=64
def aOm(xs:Γ Int)(hx:∀x∈xs,aX .i64 x)(hl:xs.length<=64):ZC (xs.map dA) (aA #[43]):=by
 refine⟨by grind,?_⟩;rw[mY];cases xs with
 | nil=>simp[Lib.join]
 | cons x r =>
  have h:=aEs (x::r) hx;rw[dY]at h ⊢;rw[Lib.join_length];simp at *;have h':DD (((λx:Δ=>x.data.toList) ∘ dA) x::F9 ((λx:Δ=>x.data.toList) ∘ dA) r)<=21*(r.length+1):=h
  lia
def aXc(x0:Γ Int)(hx:∀x∈x0,aX .i64 x)(hl:x0.length<=64):∀(k i:Nat) (h0:Γ Δ),i+k=x0.length->h0=(x0.take i).map dA->Ru (k+1) (i:Int) h0 x0 [⟨.str,rA (x0.map dA) (aA #[43])⟩]:=by
 intro k
 induction k with
 | zero =>
  intro i h0 hi hh;rw[eA (by lia)]at hh;subst hh;rw[Ru,ν (by lia)];exact⟨aOm x0 hx hl,rfl⟩
 | succ k ih =>
  intro i h0 hi hh;have hlt:i<x0.length:=by lia
  have e3:(i:Int)+1=((i+1:Nat):Int):=by lia
  have hle:h0.length<=64:=by grind
  rw[Ru,π (by lia),aK];refine⟨by lia,by lia,B9 _,by lia,by grind [aJ],ih (i+1) _ (by lia) ?_⟩;rw[hh,iC,aV hlt,oG x0 i 0 hlt,mF]<;>rfl
def aXd(x0:Γ Int)(hx:∀x∈x0,aX .i64 x)(h:aOk x0):∃n,aOj n x0 [⟨.str,Ja x0⟩]:=by
 unfold Ja;by_cases c:(!pT x0)=true
 ·exact⟨1,by rw[aOj,π c,π c]⟩
 ·have hl:=h (by simpa using c);refine⟨x0.length+1+1,?_⟩;rw[aOj,ν c,ν c];exact aXc x0 hx hl x0.length 0 [] (by omega) rfl
def bE5:KK:=mL aWZ (DO ra) aOk (Ja,()) (λ⟨x0,_⟩ h hwf K q =>
 let ⟨n,hn⟩:=aXd x0 hwf.1.2 h
 (aXa _ K q n).1 hn)
def aXe:gC:=D0 re [.v (.str)] [.sl Za,.bool] [co,aEq,aJc,bE5]
mutual
def aXf:Nat->Δ->Γ aS->Prop
 | 0,_,_=>False
 | n+1,x0,ds=>xi x0 (aA #[43])/\Rv n 0 ([]) x0 ds
def Rv:Nat->Int->Γ Int->Δ->Γ aS->Prop
 | 0,_,_,_,_=>False
 | n+1,v12,h0,x0,ds=>if decide (v12<(↑(aF (aW x0 (aA #[43]))):Int))then 0<=v12/\v12<(↑(aF (aW x0 (aA #[43]))):Int)/\aKb (aD (aW x0 (aA #[43])) (aE v12) aC)/\(aF h0+1)*8<=140737488355328/\aX .i64 (v12+1)/\Rv n (v12+1) (h0++[gG (aD (aW x0 (aA #[43])) (aE v12) aC)]) x0 ds else if !pT h0 then ds=[aI (.sl Za) [],aI .bool false] else aOk h0/\if !aB (Ja h0)==aB x0 then ds=[aI (.sl Za) [],aI .bool false] else ds=[aI (.sl Za) h0,aI .bool true]
end
def aXg(ds:Γ aS)(K:fG)(q:Nat->Value):∀n,(∀ {x0},aXf n x0 ds->St aXe (x0,()) ds [] K q)/\(∀ {v12 h0 x0},Rv n v12 h0 x0 ds->Cu aXe 3 ([eS 0 x0,eW 4 0,eW 10 1,eI 11 (↑(aF (aW x0 (aA #[43]))):Int),eI 12 v12],[cL (.int .i64) h0,cL .str (aW x0 (aA #[43]))]) ds [] K q):=nI ⟨aH,aH⟩ λn ⟨i,i3⟩=>⟨aL<|Dr [(4,.int .i64)] i3,
  bD (cP<|aL<|aL<|aL<|Dr [(4,.int .i64)] i3)<|bH<|bD (jM cM)<|aL<|bD cM cM⟩
def FT(x0:Δ):Γ Δ:=aW x0 (aA #[43])
def vQ(x0:Δ):Γ Int:=(FT x0).map gG
def Gi(x0:Δ):Option (Γ Int):=if pT (vQ x0)=true/\Ja (vQ x0)=x0 then some (vQ x0)else none
def r9(x0:Δ):Γ Int:=(Gi x0).getD []
def rC(x0:Δ):Bool:=(Gi x0).isSome
theorem bE6{l:Γ Int}(h:pT l=true):l.length<=60:=by
 unfold pT at h
 lia
def bE7(x0:Δ)(hp:ik x0):(FT x0).length<=1048577:=by
 have hl:=yV (aA #[43]) (aU 1) 0 (gX x0 (aA #[43])) x0 rfl;have hc:=A8 (aA #[43]) (aU 1) x0.size x0 (aU _);have hp:x0.size<=1048576:=hp;have:(FT x0).length=gX x0 (aA #[43])+1:=hl
 lia
def bE8(x0:Δ)(hp:ik x0):∀w∈FT x0,w.size<=1048576:=λw hw=>by
 have hp:x0.size<=1048576:=hp;have:=sX (aA #[43]) 0 _ _ w hw
 lia
def aXh(x0:Δ)(hp:ik x0):∀(k i:Nat) (h0:Γ Int),i+k=(FT x0).length->h0=((FT x0).take i).map gG->Rv (k+1) (i:Int) h0 x0 [⟨.sl Za,r9 x0⟩,⟨.bool,rC x0⟩]:=by
 have ew:aW x0 (aA #[43])=FT x0:=rfl;have hl:=bE7 x0 hp;have hz:=bE8 x0 hp;intro k
 induction k with
 | zero =>
  intro i h0 hi hh;rw[eA (by lia)]at hh;have hh:h0=vQ x0:=hh;subst hh;rw[Rv,ν (by lia)];by_cases c:pT (vQ x0)=true
  ·rw[ν (show ¬(!pT (vQ x0))=true by lia)];refine⟨(λ_=>by grind [bE6]:aOk (vQ x0)),?_⟩;by_cases d:Ja (vQ x0)=x0
   ·have e:Gi x0=some (vQ x0):=π ⟨c,d⟩;have e0:r9 x0=vQ x0:=by grind [r9]
    have e1:rC x0=true:=by grind [rC]
    lia
   ·have e:Gi x0=none:=ν (λh=>d h.2);have e0:r9 x0=[]:=by grind [r9]
    have e1:rC x0=false:=by grind [rC]
    rw[e0,e1,π (by grind [bC])]
  ·have e:Gi x0=none:=ν (λh=>c h.1);have e0:r9 x0=[]:=by grind [r9]
   have e1:rC x0=false:=by grind [rC]
   lia
 | succ k ih =>
  intro i h0 hi hh;have hlt:i<(FT x0).length:=by lia
  have e3:(i:Int)+1=((i+1:Nat):Int):=by lia
  have hle:h0.length<=1048577:=by grind
  have hw:=hz _ (cF (FT x0) i aC hlt);rw[Rv,ew,π (by lia),aK];refine⟨by lia,by lia,(show ((FT x0).getD i aC).size<=281474976710656 from by lia),by lia,by grind [aJ],ih (i+1) _ (by lia) ?_⟩;rw[hh,iC,aV hlt,oG (FT x0) i aC hlt,mF]<;>rfl
def aXi(x0:Δ)(hp:ik x0):∃n,aXf n x0 [⟨.sl Za,r9 x0⟩,⟨.bool,rC x0⟩]:=by
 have hp':x0.size<=1048576:=hp;refine⟨(FT x0).length+1+1,?_⟩;rw[aXf];exact⟨⟨by omega,aU 1⟩,aXh x0 hp _ 0 [] (by rw[cO]) rfl⟩
def bE9:KK:=mL aXe (DO re) ik (r9,rC,()) (λ⟨x0,_⟩ h hwf K q =>
 let ⟨n,hn⟩:=aXi x0 h
 (aXg _ K q n).1 hn)
end
def aGD{k:UInt8}(h1:¬C8 k)(h2:k≠45)(x:Δ):[k].intercalate ((bss (dB k x.data.toList)).map λw=>(lD (gG w)).data.toList)=x.data.toList↔∀w∈bss (dB k x.data.toList),gK w=true:=by
 have key:∀w,lD (gG w)=w↔gK w=true:=λw=>by
  obtain⟨n,hn,e0,e1⟩:=iw w
  lia
 have hl:=cv (dB k x.data.toList);have hne:bss (dB k x.data.toList)≠[]:=λh=>By k x.data.toList (by grind);constructor
 ·intro h w hw;have hd:=congrArg (dB k) h;rw[NC k _ (λe=>hne (List.map_eq_nil_iff.1 e)) (λp hp=>by
   grind [Wm])]at hd
  conv at hd=>rhs;rw[<- hl]
  obtain⟨i,hi,rfl⟩:=pN hw;have:=congrArg (λl=>l[i]?) hd;simp only[List.getElem?_map,aV hi,Option.map_some,Option.some.injEq]at this;exact(key _).1 (z6 this)
 ·intro h;have:((bss (dB k x.data.toList)).map λw=>(lD (gG w)).data.toList)=dB k x.data.toList:=by
   grind [List.map_congr_left]
  grind [Ag]
theorem aKX(l:Γ Int):EX l=pT l:=by
 have ea:l.all aOh = !l.any Qz:=by
  rw[List.not_any_eq_all_not]
  congr 1
  funext x
  exact(qv _).symm
 unfold EX pT GE aOi
 grind [Vs]
def aXj(x:Δ):Gi x=if((bss (dB 43 x.data.toList)).all gK&&EX ((bss (dB 43 x.data.toList)).map gG))=true then some ((bss (dB 43 x.data.toList)).map gG)else none:=by
 have ew:vQ x=(bss (dB 43 x.data.toList)).map gG:=by
  simp[aW,zW,vQ,FT]
 have hj:=aGD (k:=43) (by simp[C8]) (by lia) x;unfold Gi;rw[aKX];by_cases c:pT ((bss (dB 43 x.data.toList)).map gG)=true
 ·have e:Ja ((bss (dB 43 x.data.toList)).map gG)=x↔(bss (dB 43 x.data.toList)).all gK=true:=by
   unfold Ja;have e2:(rA ((bss (dB 43 x.data.toList)).map (dA ∘ gG)) (aA #[43])).data.toList=[43].intercalate ((bss (dB 43 x.data.toList)).map λw=>(lD (gG w)).data.toList):=by
    show [43].intercalate (((bss (dB 43 x.data.toList)).map (dA ∘ gG)).map λx=>x.data.toList)=_;rw[mY];rfl
   grind [z6]
  lia
 lia
noncomputable section
def aXk:gC:=D0 rf [.v (.str)] [.sl Za,.bool] [aB9,xq,aRr]
mutual
def aXl:Nat->Δ->Γ aS->Prop
 | 0,_,_=>False
 | n+1,x0,ds=>P88 x0 43/\N6 n 0 ([]) x0 ds
def N6:Nat->Int->Γ Int->Δ->Γ aS->Prop
 | 0,_,_,_,_=>False
 | n+1,v6,h1,x0,ds=>if decide (v6<(↑(aF (bU x0 43)):Int))then 0<=v6/\v6<(↑(aF (bU x0 43)):Int)/\if !pW (aD (bU x0 43) (aE v6) aC)then ds=[aI (.sl Za) [],aI .bool false] else(aF h1+1)*8<=140737488355328/\aX .i64 (v6+1)/\N6 n (v6+1) (h1++[jF (aD (bU x0 43) (aE v6) aC)]) x0 ds else if !EX h1 then ds=[aI (.sl Za) [],aI .bool false] else ds=[aI (.sl Za) h1,aI .bool true]
end
def aXm(ds:Γ aS)(K:fG)(q:Nat->Value):∀n,(∀ {x0},aXl n x0 ds->St aXk (x0,()) ds [] K q)/\(∀ {v6 h1 x0},N6 n v6 h1 x0 ds->Cu aXk 4 ([eW 4 0,eW 5 1,eI 6 v6],[cL .str (bU x0 43),cL (.int .i64) h1]) ds [] K q):=nI ⟨aH,aH⟩ λn ⟨i,i4⟩=>⟨aL<|bX i4,
  bD (cP<|bH<|bD cM<|aL<|aL<|bX i4)<|bH<|bD cM cM⟩
def N7(x0:Δ):Γ Δ:=bU x0 43
def Jb(x0:Δ):Γ Int:=r9 x0
def jr(x0:Δ):Bool:=rC x0
def aKY(c:Option (Γ Int)):Γ aS:=[⟨.sl Za,c.getD []⟩,⟨.bool,c.isSome⟩]
def aXo(x0:Δ)(hl:(N7 x0).length<=1048577):∀(k i:Nat) (h1:Γ Int),i+k=(N7 x0).length->h1.length<=i->N6 (k+1) (i:Int) h1 x0 (aKY (if(((N7 x0).drop i).all gK&&EX (h1++((N7 x0).drop i).map gG))=true then some (h1++((N7 x0).drop i).map gG)else none)):=by
 have ew:bU x0 43=N7 x0:=rfl;intro k
 induction k with
 | zero =>
  intro i h1 hi hh;rw[N6,ν (by lia),bT (by lia),List.map_nil,dN];cases EX h1 <;> rfl
 | succ k ih =>
  intro i h1 hi hh;have hlt:i<(N7 x0).length:=by lia
  have e3:(i:Int)+1=((i+1:Nat):Int):=by lia
  have ih:=ih (i+1) (h1++[gG ((N7 x0).getD i aC)]) (by lia) (by grind);obtain⟨e0,e1⟩:=Aj ((N7 x0).getD i aC);rw[N6,ew,π (by lia),aK,e1,dQ (N7 x0) i aC hlt,List.all_cons];refine⟨by lia,by lia,?_⟩;cases gK ((N7 x0).getD i aC)with
  | false=>rfl
  | true =>
   grind [aJ]
def aXp(x0:Δ)(h:ik x0):aXl ((N7 x0).length+2) x0 [⟨.sl Za,Jb x0⟩,⟨.bool,jr x0⟩]:=by
 have h:x0.size<=1048576:=h;have hw:(N7 x0).length<=1048577:=by
  show ((dB 43 x0.data.toList).map _).length<=_;rw[eV,oV];have:=List.count_le_length (a:=(43:UInt8)) (l:=x0.data.toList);have:x0.data.toList.length=x0.size:=rfl;omega
 rw[aXl];refine⟨⟨by omega,by omega,by omega⟩,?_⟩;have:=aXo x0 hw (N7 x0).length 0 [] (cO _) (aY _);rw[pZ,fV]at this;have e:Gi x0=_:=aXj x0;show N6 _ _ _ _ (aKY (Gi x0));rw[e];exact this
def bEA:KK:=mL aXk (DO rf) ik (Jb,jr,()) (λ⟨x0,_⟩ h hwf K q =>
 (aXm _ K q (((N7 x0).length+2))).1 (aXp x0 h))
def aCw(x0:Int):Bool:=cG x0 1 60
def bEB:KK:=mB Tryz.func363 [.v (.int .i64)] [.bool] [lO] nP (aCw,()) λ_=>bH pr
def aCx(x0:Int):Bool:=cG x0 1 1000
def bEC:KK:=mB Tryz.func364 [.v (.int .i64)] [.bool] [lO] nP (aCx,()) λ_=>bH pr
def Rw(x0:Γ Int)(x1:Int)(x2:Int):Int:=if !EX x0 then 1 else if !aCw x1 then 2 else if !aCx x2 then 2 else 0
def bED:KK:=mB Tryz.func262 [.v (.sl Za),.v (.int .i64),.v (.int .i64)] [.int .i64] [aRr,bEB,bEC] nP (Rw,()) λ_=>bH<|dS pr<|bH<|dS (jM pr)<|bH<|dS pr pr
def BM(x0:Int)(x1:Int):Int:=if decide (x0>x1)then x0 else x1
def bEE:KK:=mB Tryz.func365 [.v (.int .i64),.v (.int .i64)] [.int .i64] [] nP (BM,()) λ_=>dS pr pr
def aXq:gC:=D0 ri [.v (.sl Za),.v (.int .i64),.v (.int .i64),.v (.int .i64)] [.sl Za] [bEE]
mutual
def bEF:Nat->Γ Int->Int->Int->Int->Γ aS->Prop
 | 0,_,_,_,_,_=>False
 | n+1,x0,x1,x2,x3,ds=>EY n 0 1 ([]) x0 x1 x2 x3 ds
def EY:Nat->Int->Int->Γ Int->Γ Int->Int->Int->Int->Γ aS->Prop
 | 0,_,_,_,_,_,_,_,_=>False
 | n+1,v10,v11,h0,x0,x1,x2,x3,ds=>if decide (v11<=(x0.length:Int))then aX .i64 (v11-1)/\0<=v11-1/\v11-1<(x0.length:Int)/\aX .i64 (v10+aD x0 (aE (v11-1)) 0)/\x1≠0/\aX .i64 (bY v11 x1)/\if bY v11 x1==0 then aX .i64 (v10+aD x0 (aE (v11-1)) 0-x2)/\if v11==x3 then aX .i64 (BM 0 (v10+aD x0 (aE (v11-1)) 0-x2)-x2)/\(aF h0+1)*8<=140737488355328/\aX .i64 (v11+1)/\EY n (BM 0 (BM 0 (v10+aD x0 (aE (v11-1)) 0-x2)-x2)) (v11+1) (h0++[BM 0 (BM 0 (v10+aD x0 (aE (v11-1)) 0-x2)-x2)]) x0 x1 x2 x3 ds else(aF h0+1)*8<=140737488355328/\aX .i64 (v11+1)/\EY n (BM 0 (v10+aD x0 (aE (v11-1)) 0-x2)) (v11+1) (h0++[BM 0 (v10+aD x0 (aE (v11-1)) 0-x2)]) x0 x1 x2 x3 ds else if v11==x3 then aX .i64 (v10+aD x0 (aE (v11-1)) 0-x2)/\(aF h0+1)*8<=140737488355328/\aX .i64 (v11+1)/\EY n (BM 0 (v10+aD x0 (aE (v11-1)) 0-x2)) (v11+1) (h0++[BM 0 (v10+aD x0 (aE (v11-1)) 0-x2)]) x0 x1 x2 x3 ds else(aF h0+1)*8<=140737488355328/\aX .i64 (v11+1)/\EY n (v10+aD x0 (aE (v11-1)) 0) (v11+1) (h0++[v10+aD x0 (aE (v11-1)) 0]) x0 x1 x2 x3 ds else ds=[aI (.sl Za) h0]
end
def aXr(ds:Γ aS)(K:fG)(q:Nat->Value):∀n,(∀ {x0 x1 x2 x3},bEF n x0 x1 x2 x3 ds->St aXq (x0,x1,x2,x3,()) ds [] K q)/\(∀ {v10 v11 h0 x0 x1 x2 x3},EY n v10 v11 h0 x0 x1 x2 x3 ds->Cu aXq 4 ([eL 0 (.int .i64) x0,eI 1 x1,eI 2 x2,eI 3 x3,eW 9 0,eI 10 v10,eI 11 v11],[cL (.int .i64) h0]) ds [] K q):=nI ⟨aH,aH⟩ λn ⟨i,i4⟩=>⟨bX i4,
  bD (aL<|cP<|aL<|cP<|bD (aL<|bH<|bD (aL<|bH<|aL<|aL<|bX i4)<|aL<|aL<|bX i4)<|bD (aL<|bH<|aL<|aL<|bX i4)<|aL<|aL<|bX i4) cM⟩
def aKZ(x0:Γ Int)(x1 x2 x3:Int):Γ Int:=RA x0 x1 x2 x3
def aXs(x0:Γ Int)(x1 x2 x3:Int):Prop:=aGd x0 x1 x2 x3/\x2<=1000000
def aRs(x2 w:Int)(hw:0<=w):BM 0 (w-x2)=uT x2 w:=by
 unfold BM uT
 lia
def aXt(x0:Γ Int)(x1 x2 x3:Int)(h:aXs x0 x1 x2 x3):∀(k i:Nat) (w:Int) (h0:Γ Int),i+k=x0.length->0<=w->w<=1000*(i:Int)->h0.length<=i->EY (k+1) w ((i:Int)+1) h0 x0 x1 x2 x3 [⟨.sl Za,h0++xX x1 x2 x3 (x0.drop i) i w⟩]:=by
 obtain⟨⟨⟨p1,p1'⟩,p2,p3,p4⟩,p5⟩:=h;intro k
 induction k with
 | zero =>
  intro i w h0 hi h1 h2 hl;rw[EY,ν (by lia),bT (by lia),xX,dN]
 | succ k ih =>
  intro i w h0 hi h1 h2 hl;have hlt:i<x0.length:=by lia
  have hx:=p4 _ (cF x0 i 0 hlt);have t2:=Int.tmod_lt_of_pos ((i:Int)+1) (show 0<x1 by lia);rw[dQ x0 i 0 hlt,xX,EY,π (by lia),show (i:Int)+1-1=(i:Int)by lia,aK];generalize x0.getD i 0=x at *;obtain⟨d1,d2⟩:=Ix p2 (show 0<=w+x by lia);obtain⟨d3,d4⟩:=Ix p2 d1;have step:∀w',DY x1 x2 x3 i w x=w'->0<=w'->w'<=w+x->(h0.length+1)*8<=140737488355328/\aX .i64 ((i:Int)+1+1)/\EY (k+1) w' ((i:Int)+1+1) (h0++[w']) x0 x1 x2 x3 [⟨.sl Za,h0++DY x1 x2 x3 i w x::xX x1 x2 x3 (x0.drop (i+1)) (i+1) (DY x1 x2 x3 i w x)⟩]:=λw' e a b=>by
   have:=ih (i+1) w' (h0++[w']) (by lia) a (by lia) (by grind)
   grind [cK,Int.natCast_succ,aJ]
  have hn:DY x1 x2 x3 i w x=if(bY ((i:Int)+1) x1==0)=true then(if((i:Int)+1==x3)=true then uT x2 (uT x2 (w+x))else uT x2 (w+x))else if((i:Int)+1==x3)=true then uT x2 (w+x)else w+x:=rfl
  have m1:=aRs x2 (w+x) (by lia);have m2:=aRs x2 (uT x2 (w+x)) d1;refine⟨by grind [aJ],by lia,by lia,by grind [aJ],by lia,by grind [aJ],?_⟩;by_cases c:(bY ((i:Int)+1) x1==0)=true
  ·rw[π c]at hn;refine(π c).mpr ⟨by grind [aJ],?_⟩;rw[m1];by_cases d:((i:Int)+1==x3)=true
   ·rw[π d]at hn;rw[m2];exact(π d).mpr ⟨by grind [aJ],step _ hn d3 (by lia)⟩
   lia
  ·rw[ν c]at hn;refine(ν c).mpr ?_;rw[m1];by_cases d:((i:Int)+1==x3)=true
   ·rw[π d]at hn;exact(π d).mpr ⟨by grind [aJ],step _ hn d1 d2⟩
   lia
def bEG:KK:=mL aXq (DO ri) aXs (aKZ,()) (λ⟨x0,x1,x2,x3,_⟩ h hwf K q =>
 (aXr _ K q ((x0.length+2))).1 (by rw[bEF];exact aXt x0 x1 x2 x3 h x0.length 0 0 [] (by omega) (dX _) (by omega) (aY _)))
def aOn(x0:Γ Int)(x1:Int)(x2:Int):Prop:=if Rw x0 x1 x2 != 0 then True else aXs x0 x1 x2 0/\True
def XJ(x0:Γ Int)(x1:Int)(x2:Int):Γ Int:=if Rw x0 x1 x2 != 0 then [] else aKZ x0 x1 x2 0
def XK(x0:Γ Int)(x1:Int)(x2:Int):Int:=if Rw x0 x1 x2 != 0 then Rw x0 x1 x2 else 0
def bEH:KK:=mB Tryz.func171 [.v (.sl Za),.v (.int .i64),.v (.int .i64)] [.sl Za,.int .i64] [bED,bEG] aOn (XJ,XK,()) λ_=>bH<|dL pr<|aL pr
def aCy(x0:Int):Bool:=cG x0 0 5000
def bEI:KK:=mB Tryz.func366 [.v (.int .i64)] [.bool] [lO] nP (aCy,()) λ_=>bH pr
def jt(x0:Int)(x1:Int):Prop:=if decide (x1<0)then aX .i64 (0-x0)/\aX .i64 (0-x1)/\if decide (0-x0<0)then aX .i64 (2*(0-x0))/\aX .i64 (0-x1-2*(0-x0))/\aX .i64 (2*(0-x1))/\2*(0-x1)≠0/\aX .i64 (aQ (0-x1-2*(0-x0)) (2*(0-x1)))/\aX .i64 (0-aQ (0-x1-2*(0-x0)) (2*(0-x1)))/\True else aX .i64 (2*(0-x0))/\aX .i64 (2*(0-x0)+(0-x1))/\aX .i64 (2*(0-x1))/\2*(0-x1)≠0/\aX .i64 (aQ (2*(0-x0)+(0-x1)) (2*(0-x1)))/\True else if decide (x0<0)then aX .i64 (2*x0)/\aX .i64 (x1-2*x0)/\aX .i64 (2*x1)/\2*x1≠0/\aX .i64 (aQ (x1-2*x0) (2*x1))/\aX .i64 (0-aQ (x1-2*x0) (2*x1))/\True else aX .i64 (2*x0)/\aX .i64 (2*x0+x1)/\aX .i64 (2*x1)/\2*x1≠0/\aX .i64 (aQ (2*x0+x1) (2*x1))/\True
def EZ(x0:Int)(x1:Int):Int:=if decide (x1<0)then(if decide (0-x0<0)then 0-aQ (0-x1-2*(0-x0)) (2*(0-x1))else aQ (2*(0-x0)+(0-x1)) (2*(0-x1)))else if decide (x0<0)then 0-aQ (x1-2*x0) (2*x1)else aQ (2*x0+x1) (2*x1)
def aLa:KK:=mB Tryz.func516 [.v (.int .i64),.v (.int .i64)] [.int .i64] [] jt (EZ,()) λ_=>lT (aL<|aL<|lT (aL<|aL<|aL<|cP<|aL pr)<|aL<|aL<|aL<|cP pr)<|lT (aL<|aL<|aL<|cP<|aL pr)<|aL<|aL<|aL<|cP pr
def aLb(x0:Int)(x1:Int)(x2:Int):Prop:=((aX .i64 (x2*x2))/\((jt (x2*x2) x0)/\((aX .i64 (981*x1))/\((jt (981*x1) 100)/\((aX .i64 (EZ (x2*x2) x0-EZ (981*x1) 100))/\True)))))
def Rx(x0:Int)(x1:Int)(x2:Int):Int:=EZ (x2*x2) x0-EZ (981*x1) 100
def bEJ:KK:=mB Tryz.func458 [.v (.int .i64),.v (.int .i64),.v (.int .i64)] [.int .i64] [aLa] aLb (Rx,()) λ_=>aL<|aL<|aL<|aL<|aL pr
def aXu:gC:=D0 rj [.p eC,.v (.int .i64)] [.int .i64] [bEJ]
mutual
def aXv:Nat->Δ×Int×Int×Int×Unit->Int->Γ aS->Prop
 | 0,_,_,_=>False
 | n+1,x0,x1,ds=>XL n 0 20001 x0 x1 ds
def XL:Nat->Int->Int->Δ×Int×Int×Int×Unit->Int->Γ aS->Prop
 | 0,_,_,_,_,_=>False
 | n+1,v5,v6,x0,x1,ds=>aX .i64 (v6-v5)/\if decide (v6-v5>1)then aX .i64 (v5+v6)/\aX .i64 (aQ (v5+v6) 2)/\aLb x0.2.1 x0.2.2.2.1 (aQ (v5+v6) 2)/\if decide (Rx x0.2.1 x0.2.2.2.1 (aQ (v5+v6) 2)<=x1)then XL n (aQ (v5+v6) 2) v6 x0 x1 ds else XL n v5 (aQ (v5+v6) 2) x0 x1 ds else ds=[aI (.int .i64) v5]
end
def aXw(ds:Γ aS)(K:fG)(q:Nat->Value):∀n,(∀ {x0 x1},aXv n x0 x1 ds->St aXu (x0,x1,()) ds [] K q)/\(∀ {v5 v6 x0 x1},XL n v5 v6 x0 x1 ds->Cu aXu 3 ([(0,.a (.ptr eC x0)),eI 1 x1,eI 5 v5,eI 6 v6],[]) ds [] K q):=nI ⟨aH,aH⟩ λn ⟨i,i3⟩=>⟨bX i3,
  aL<|bD (aL<|pw 2<|aL<|aL<|bD (bX i3)<|bX i3) cM⟩
def D8(x0:dO)(x1 m:Int):Bool:=decide (Rx x0.2.1 x0.2.2.2.1 m<=x1)
def D9(p:Int->Bool):Nat->Int->Int->Int
 | 0,lo,_=>lo
 | k+1,lo,hi=>if decide (hi-lo>1)=true then(if p (aQ (lo+hi) 2)=true then D9 p k (aQ (lo+hi) 2) hi else D9 p k lo (aQ (lo+hi) 2))else lo
def Ry(x0:dO)(x1:Int):Int:=D9 (D8 x0 x1) 20001 0 20001
def aLc(x0:dO)(x1:Int):Prop:=∀m,0<=m->m<=20001->aLb x0.2.1 x0.2.2.2.1 m
def aXx(x0:dO)(x1:Int)(hp:aLc x0 x1):∀(k:Nat) (lo hi:Int),0<=lo->lo<hi->hi<=20001->hi-lo<=(k:Int)+1->XL (k+1) lo hi x0 x1 [⟨.int .i64,D9 (D8 x0 x1) k lo hi⟩]:=by
 intro k
 induction k with
 | zero =>
  intro lo hi h0 h1 h2 h3;refine⟨by grind [aJ],?_⟩;rw[ν (by lia)];rfl
 | succ k ih =>
  intro lo hi h0 h1 h2 h3;rw[D9];refine⟨by grind [aJ],?_⟩;by_cases c:decide (hi-lo>1)=true
  ·refine(π c).mpr ⟨by grind [aJ],by grind [aJ],hp _ (by lia) (by lia),?_⟩;by_cases d:D8 x0 x1 (aQ (lo+hi) 2)=true
   ·refine(π d).mpr ?_
    grind
   ·refine(ν d).mpr ?_
    grind
  lia
def aXy(x0:dO)(x1:Int)(h:aLc x0 x1):aXv (20001+1+1) x0 x1 [⟨.int .i64,Ry x0 x1⟩]:=by
 rw[aXv];exact aXx x0 x1 h 20001 0 20001 (dX _) (by decide) (dX _) (by decide)
def bEK:KK:=mL aXu (DO rj) aLc (Ry,()) (λ⟨x0,x1,_⟩ h hwf K q =>
 (aXw _ K q _).1 (aXy x0 x1 h))
end
def XM{a b:Int}(ha:0<=a)(hb:0<b):aQ (2*a+b) (2*b)=aQ a b+(if b-bY a b<=bY a b then 1 else 0)/\0<=aQ a b/\0<=bY a b/\bY a b<b:=by
 have h1:=Int.emod_add_mul_ediv a b;have h2:=Int.emod_nonneg a (show b≠0 by lia);have h3:=Int.emod_lt_of_pos a hb;rw[eY (by lia),eY ha,Int.tmod_eq_emod_of_nonneg ha];refine⟨?_,Hs ha (by lia),h2,h3⟩;have e:2*a+b=(2*(a%b)+b)+2*b*(a/b):=by
  lia
 rw[e,ID _ _ (show 2*b≠0 by lia)];by_cases c:b-a%b<=a%b
 ·rw[show 2*(a%b)+b=(2*(a%b)-b)+2*b*1 by lia,ID _ _ (show 2*b≠0 by lia),yY (by lia) (by lia)]
  lia
 ·rw[yY (by lia) (by lia)]
  lia
def tl(a b:Int):Int:=if a<0 then 0-aQ (b-2*a) (2*b)else aQ (2*a+b) (2*b)
def aEQ{a b:Int}(ha:a<0)(hb:0<b):tl a b=aQ a b-(if b+bY a b<=0-bY a b then 1 else 0)/\aQ a b<=0/\bY a b<=0 /\ -b<bY a b:=by
 obtain⟨h,h0,h1,h2⟩:=XM (a := -a) (by lia) hb;rw[rk,rl]at h;rw[rk]at h0;rw[rl]at h1 h2;unfold tl
 lia
def yi{a a' b:Int}(hb:0<b)(h:a<=a'):tl a b<=tl a' b:=by
 by_cases c:a'<0
 ·unfold tl;have:=Sg (c:=2*b) (by lia) (show b-2*a'<=b-2*a by lia)
  lia
 ·by_cases d:a<0
  ·obtain⟨h1,h2,h3,h4⟩:=aEQ d hb;obtain⟨k1,k2,k3,k4⟩:=XM (a:=a') (by lia) hb;have e:tl a' b=aQ (2*a'+b) (2*b):=ν c
   lia
  ·unfold tl;rw[ν c,ν d,eY (by lia),eY (by lia)];exact Sg (by lia) (by lia)
def bsW(C:Int->Bool):Nat->Int->Int->Int
 | 0,_,e=>e
 | n+1,lo,e=>if e-lo>1 then(if C (aQ (lo+e) 2)=true then bsW C n lo (aQ (lo+e) 2)else bsW C n (aQ (lo+e) 2) e)else e
def aLd{lo e:Int}(h0 : -1<=lo)(h:e-lo>1):lo<aQ (lo+e) 2/\aQ (lo+e) 2<e:=by
 lia
theorem aCz(C:Int->Bool)(e0:Int):∀(n:Nat) (lo e:Int), -1<=lo->lo<e->e-lo<=(n:Int)+1->(e=e0\/C e=true)->(lo = -1\/C lo=false)->e<=e0 ->
  0<=bsW C n lo e/\bsW C n lo e<=e0/\(bsW C n lo e=e0\/C (bsW C n lo e)=true)/\(bsW C n lo e=0\/C (bsW C n lo e-1)=false)
 | 0,lo,e,h0,h1,h2,h3,h4,h6=>by
  obtain rfl:e=lo+1:=by lia
  refine⟨by show 0<=lo+1;lia,h6,h3,?_⟩;rcases h4 with h | h
  ·left;show lo+1=0;lia
  ·right;show C (lo+1-1)=false;lia
 | n+1,lo,e,h0,h1,h2,h3,h4,h6=>by
  unfold bsW;by_cases h:e-lo>1
  ·obtain⟨m1,m2⟩:=aLd h0 h;rw[π h];by_cases hc:C (aQ (lo+e) 2)=true
   ·rw[π hc];exact aCz C e0 n lo _ h0 m1 (by lia) (.inr hc) h4 (by lia)
   ·rw[ν hc];exact aCz C e0 n _ e (by lia) m2 (by lia) h3 (.inr (bV.2 hc)) h6
  grind
def aXz(C:Int->Bool)(e:Int)(n m:Nat)(he:0<=e)(hn:e<=(n:Int))(hm:e<=(m:Int))(mono:∀v v',0<=v->v<=v'->v'<e->C v=true->C v'=true):Me C n 0 e=bsW C m (-1) e:=by
 obtain⟨a1,a2,a3,a4⟩:=gy C 0 e n 0 e (dX _) he (by omega) (.inl rfl) (.inl rfl) (dX _) (dX _);obtain⟨b1,b2,b3,b4⟩:=aCz C e m (-1) e (dX _) (by omega) (by omega) (.inl rfl) (.inl rfl) (dX _);generalize Me C n 0 e=r at *;generalize bsW C m (-1) e=s at *;have key:∀x y:Int,0<=x->y<=e->(x=e\/C x=true)->(y=0\/C (y-1)=false)->¬x<y:=λx y h1 h2 h3 h4 hlt=>by
  have hx:C x=true:=h3.resolve_left (by omega);have hy:=h4.resolve_left (by omega);rw[mono x (y-1) h1 (by omega) (by omega) hx]at hy;cases hy
 have:=key r s a1 b2 a3 b4;have:=key s r b1 a2 b3 a4;omega
def aER{a b:Int}(hb:0<b):EZ a b=tl a b:=by
 unfold EZ tl
 lia
def bEL{a b:Int}(ha : -1000000000000000<=a/\a<=1000000000000000)(hb:0<b)(hb2:b<=1000000000000000):o0 a b=tl a b:=by
 obtain⟨_,_,_,q⟩:=UJ (x:=b) (by lia);obtain⟨_,m0,_,m⟩:=UJ (x:=bY a b) (tmb b ha);unfold o0;by_cases c:a<0
 ·obtain⟨h1,h2,h3,h4⟩:=aEQ c hb
  lia
 ·obtain⟨h1,h2,h3,h4⟩:=XM (a:=a) (by lia) hb;have e:tl a b=aQ (2*a+b) (2*b):=ν c
  lia
def aX0{a b:Int}(ha : -1000000000000000<=a/\a<=1000000000000000)(hb:0<b)(hb2:b<=1000000000000000):jt a b:=by
 unfold jt;rw[ν (by lia)];have t1:=tdb (2*b) (a:=b-2*a) (A:=3000000000000000);have t2:=tdb (2*b) (a:=2*a+b) (A:=3000000000000000);by_cases c:a<0
 ·rw[π (decide_eq_true c)];exact⟨by grind [aJ],by grind [aJ],by grind [aJ],by lia,by grind [aJ],by grind [aJ],trivial⟩
 ·rw[ν (by lia)];exact⟨by grind [aJ],by grind [aJ],by grind [aJ],by lia,by grind [aJ],trivial⟩
def ju{a b:Int}(ha : -1000000000000000<=a/\a<=1000000000000000)(hb:0<b)(hb2:b<=1000000000000000):jt a b/\EZ a b=o0 a b :=
 ⟨aX0 ha hb hb2,(aER hb).trans (bEL ha hb hb2).symm⟩
theorem aLe(p:Int->Bool)(e0:Int):∀(n:Nat) (lo hi:Int),0<=lo->lo<hi->hi-lo<=(n:Int)+1->(lo=0\/p lo=true)->(hi=e0\/p hi=false)->hi<=e0 ->
  0<=D9 p n lo hi/\D9 p n lo hi<e0/\(D9 p n lo hi=0\/p (D9 p n lo hi)=true)/\(D9 p n lo hi+1=e0\/p (D9 p n lo hi+1)=false)
 | 0,lo,hi,h0,h1,h2,h3,h4,h5=>by
  obtain rfl:hi=lo+1:=by lia
  exact⟨h0,by show lo<e0;lia,h3,h4⟩
 | n+1,lo,hi,h0,h1,h2,h3,h4,h5=>by
  unfold D9;by_cases h:hi-lo>1
  ·rw[π (decide_eq_true h)];by_cases hc:p (aQ (lo+hi) 2)=true
   ·rw[π hc];exact aLe p e0 n _ hi (by lia) (by lia) (by lia) (.inr hc) h4 h5
   ·rw[ν hc];exact aLe p e0 n lo _ h0 (by lia) (by lia) h3 (.inr (bV.2 hc)) (by lia)
  grind
def bEM{b:dO}(h:oX b=true){n:Int}(hn:0<=n):aLc b n/\Ry b n=CY b n:=by
 obtain⟨_,b1,_,b4⟩:=aEn h;have nv:∀v:Int,0<=v->v<=20001->0<=v*v/\v*v<=400040001:=λv h0 h1=>⟨Int.mul_nonneg h0 h0,(KY h1 h1 h0 (by lia))⟩;have sp:∀v:Int,0<=v->v<=20001->aLb b.2.1 b.2.2.2.1 v/\Rx b.2.1 b.2.2.2.1 v=WR b.2.1 b.2.2.2.1 v/\Rx b.2.1 b.2.2.2.1 v=tl (v*v) b.2.1-tl (981*b.2.2.2.1) 100:=λv h0 h1=>by
  have m:=nv v h0 h1;obtain⟨p1,e1⟩:=ju (a:=v*v) (b:=b.2.1) (by lia) (by lia) (by lia);obtain⟨p2,e2⟩:=ju (a:=981*b.2.2.2.1) (b:=100) (by lia) (by lia) (by lia);obtain⟨_,q1,q2⟩:=JN (x:=v*v) (y:=b.2.1) (by lia) (by lia) (by lia);obtain⟨_,r1,r2⟩:=JN (x:=981*b.2.2.2.1) (y:=100) (by lia) (by lia) (by lia);have f1:=aER (a:=v*v) (b:=b.2.1) (by lia);have f2:=aER (a:=981*b.2.2.2.1) (b:=100) (by lia);unfold aLb Rx WR;refine⟨⟨by grind [aJ],p1,by grind [aJ],p2,by rw[e1,e2,aJ];lia,trivial⟩,by lia,by lia⟩
 refine⟨λm h0 h1=>(sp m h0 h1).1,?_⟩;have ec:∀v:Int,0<=v->v<=20001->x8 v b n = !D8 b n v:=λv h0 h1=>by
  grind [x8,D8,WR,decide_eq_true,decide_eq_false]
 have z:D8 b n 0=true:=by
  unfold D8;rw[(sp 0 (by lia) (by lia)).2.2,ε];have e0:tl (0*0) b.2.1=0:=by
   unfold tl;rw[ν (by lia),show (2:Int)*(0*0)+b.2.1=b.2.1 by lia,eY (by lia),yY (by lia) (by lia)]
  have e1:0<=tl (981*b.2.2.2.1) 100:=by
   unfold tl
   lia
  lia
 have mono:∀v v':Int,0<=v->v<=v'->v'<=20001->D8 b n v'=true->D8 b n v=true:=λv v' h0 h1 h2 h3=>by
  unfold D8 at h3 ⊢;rw[ε]at h3 ⊢;rw[(sp v h0 (by lia)).2.2];rw[(sp v' (by lia) h2).2.2]at h3;have:=yi (a:=v*v) (a':=v'*v') (b:=b.2.1) (by lia) (KY h1 h1 h0 (by lia))
  lia
 obtain⟨a1,a2,a3,a4⟩:=aLe (D8 b n) 20001 20001 0 20001 (by lia) (by lia) (by lia) (.inl rfl) (.inl rfl) (by lia);obtain⟨c1,c2,c3,c4⟩:=gy (λx=>x8 x b n) 0 20001 (20000+1-0:Int).toNat 0 20001 (by lia) (by lia) (by lia) (.inl rfl) (.inl rfl) (by lia) (by lia);show D9 (D8 b n) 20001 0 20001=Me (λx=>x8 x b n) (20000+1-0:Int).toNat 0 20001-1;generalize D9 (D8 b n) 20001 0 20001=r at *;generalize Me (λx=>x8 x b n) (20000+1-0:Int).toNat 0 20001=s at *;have hr:D8 b n r=true:=by
  lia
 grind
noncomputable section
def aX1:gC:=D0 rm [.v (.sl eC),.v (.int .i64)] [.int .i64,.int .i64,.int .i64] [bBo,bEI,bEK]
mutual
def aGE:Nat->Γ dO->Int->Γ aS->Prop
 | 0,_,_,_=>False
 | n+1,x0,x1,ds=>if !wm x0 then ds=[aI (.int .i64) 0,aI (.int .i64) 0,aI (.int .i64) 1] else if !aCy x1 then ds=[aI (.int .i64) 0,aI (.int .i64) 0,aI (.int .i64) 2] else Gj n (-1) 0 0 x0 x1 ds
def Gj:Nat->Int->Int->Int->Γ dO->Int->Γ aS->Prop
 | 0,_,_,_,_,_,_=>False
 | n+1,v7,v8,v9,x0,x1,ds=>if decide (v9<(x0.length:Int))then 0<=v9/\v9<(x0.length:Int)/\aLc (aD x0 (aE v9) (aC,0,0,0,())) x1/\if decide (v7<0)then aX .i64 (v9+1)/\Gj n v9 (Ry (aD x0 (aE v9) (aC,0,0,0,())) x1) (v9+1) x0 x1 ds else if decide (Ry (aD x0 (aE v9) (aC,0,0,0,())) x1<v8)then aX .i64 (v9+1)/\Gj n v9 (Ry (aD x0 (aE v9) (aC,0,0,0,())) x1) (v9+1) x0 x1 ds else aX .i64 (v9+1)/\Gj n v7 v8 (v9+1) x0 x1 ds else if decide (v7<0)then ds=[aI (.int .i64) 0,aI (.int .i64) 0,aI (.int .i64) 3] else ds=[aI (.int .i64) v7,aI (.int .i64) v8,aI (.int .i64) 0]
end
def aX2(ds:Γ aS)(K:fG)(q:Nat->Value):∀n,(∀ {x0 x1},aGE n x0 x1 ds->St aX1 (x0,x1,()) ds [] K q)/\(∀ {v7 v8 v9 x0 x1},Gj n v7 v8 v9 x0 x1 ds->Cu aX1 8 ([eL 0 eC x0,eI 1 x1,eI 7 v7,eI 8 v8,eI 9 v9],[]) ds [] K q):=nI ⟨aH,aH⟩ λn ⟨i,i8⟩=>⟨bH<|bD cM<|bH<|bD cM<|bX i8,
  bD (cP<|aL<|bD (jM<|aL<|bX i8)<|bD (aL<|bX i8)<|aL<|bX i8)<|bD cM cM⟩
def aC0(x0:Γ F4)(x1:Int):Int:=WV x0 x1
def XN(x0:Γ F4)(x1:Int):Int:=GS x0 x1
def XO(x0:Γ F4)(x1:Int):Int:=Mo x0 x1
def aX3(x0:Γ F4)(x1:Int)(hm:x0.length<=100)(hp:∀b∈x0,oX b=true)(h1:0<=x1):∀(k i:Nat) (s v7 v8:Int),i+k=x0.length->0<=s->s<(x0.length:Int)->((i=0/\s=0/\v7 = -1)\/(v7=s/\v8=D3 x0 x1 s))->1<=x0.length->Gj (k+1) v7 v8 (i:Int) x0 x1 [⟨.int .i64,vO x0 x1 k i s⟩,⟨.int .i64,D3 x0 x1 (vO x0 x1 k i s)⟩,⟨.int .i64,0⟩]:=by
 intro k
 induction k with
 | zero =>
  intro i s v7 v8 hi h0 h2 hs h3;obtain⟨rfl,rfl⟩:=hs.resolve_left (λh=>by lia);rw[Gj,ν (by lia),ν (by lia)]<;>rfl
 | succ k ih =>
  intro i s v7 v8 hi h0 h2 hs h3;have hlt:i<x0.length:=by lia
  obtain⟨p,e⟩:=bEM (hp _ (cF x0 i (aC,0,0,0,()) hlt)) h1;have e3:(i:Int)+1=((i+1:Nat):Int):=by lia
  have es:CY (x0.getD i (aC,0,0,0,())) x1=D3 x0 x1 (i:Int):=by rfl
  have ii:aX .i64 ((i+1:Nat):Int):=by grind [aJ]
  rw[Gj,π (by lia),vO,aK,e,es];refine⟨by lia,by lia,p,?_⟩;rcases hs with ⟨a,b,c⟩ | ⟨b,c⟩
  ·rw[π (by lia)];have hz:¬decide (D3 x0 x1 (i:Int)<D3 x0 x1 s)=true:=by
    grind
   rw[ν hz];exact⟨ii,ih (i+1) s _ _ (by lia) h0 h2 (.inr ⟨by lia,by grind⟩) h3⟩
  ·subst b;rw[ν (by lia),c];by_cases d:decide (D3 x0 x1 (i:Int)<D3 x0 x1 v7)=true
   ·rw[π d,π d];exact⟨ii,ih (i+1) i _ _ (by lia) (by lia) (by lia) (.inr ⟨rfl,rfl⟩) h3⟩
   ·rw[ν d,ν d];exact⟨ii,ih (i+1) v7 _ _ (by lia) h0 h2 (.inr ⟨rfl,rfl⟩) h3⟩
def aX4(x0:Γ F4)(x1:Int):∃n,aGE n x0 x1 [⟨.int .i64,aC0 x0 x1⟩,⟨.int .i64,XN x0 x1⟩,⟨.int .i64,XO x0 x1⟩]:=by
 have em:aCy x1=R0 x1:=rfl;unfold aC0 XN XO WV GS Mo;by_cases c1:oY x0=true
 ·by_cases c2:R0 x1=true
  ·by_cases c3:x0.length=0
   ·have hc:sI x0 x1=3:=by
     unfold sI;rw[c1,c2,c3]<;>rfl
    refine⟨1+1,?_⟩;rw[aGE, <- FI,c1,em,c2,hc,ν (by decide),ν (by decide),ν (by decide),ν (by decide),Gj,ν (by simp only[ε];omega),π (by decide)]
   ·have hc:sI x0 x1=0:=by
     unfold sI;rw[c1,c2,ν (by decide),ν (by decide),ν (by rw[beq_iff_eq];omega)]
    have w:=wi (show bE x1 0 5000=true from c2);have:=aX3 x0 x1 (aKq c1) (Wp c1) w.1 x0.length 0 0 (-1) 0 (by omega) (dX _) (by omega) (.inl ⟨rfl,rfl,rfl⟩) (by omega);refine⟨x0.length+1+1,?_⟩;rw[aGE, <- FI,c1,em,c2,hc,ν (by decide),ν (by decide),π rfl,π rfl];exact this
  ·have hc:sI x0 x1=2:=by
    unfold sI;rw[c1,Hb c2]<;>rfl
   refine⟨1,?_⟩;rw[aGE, <- FI,c1,em,Hb c2,hc]<;>rfl
 ·have hc:sI x0 x1=1:=by
   unfold sI;rw[Hb c1]<;>rfl
  refine⟨1,?_⟩;rw[aGE, <- FI,Hb c1,hc]<;>rfl
def bEN:KK:=mL aX1 (DO rm) nP (aC0,XN,XO,()) (λ⟨x0,x1,_⟩ h hwf K q =>
 let ⟨n,hn⟩:=aX4 x0 x1
 (aX2 _ K q n).1 hn)
def XP(x0:Int):Bool:=cG x0 1 10000000
def bEO:KK:=mB Tryz.func368 [.v (.int .i64)] [.bool] [lO] nP (XP,()) λ_=>bH pr
def aOo(x0:Int×Int×Int×Int×Unit)(x1:Int):Prop:=if !L7 x0 then True else if !XP x1 then True else aX .i64 (1000*x0.2.2.2.1)/\x1≠0/\aX .i64 (aQ (1000*x0.2.2.2.1) x1)/\True
def XR(x0:Int×Int×Int×Int×Unit)(x1:Int):Int:=if !L7 x0 then 0 else if !XP x1 then 0 else aQ (1000*x0.2.2.2.1) x1
def XS(x0:Int×Int×Int×Int×Unit)(x1:Int):Int:=if !L7 x0 then 1 else if !XP x1 then 2 else 0
def bEP:KK:=mB Tryz.func265 [.v gp,.v (.int .i64)] [.int .i64,.int .i64] [aS5,bEO] aOo (XR,XS,()) λ_=>bH<|dL pr<|bH<|dL pr<|aL<|cP pr
def bJ2:gC:=D0 rn [.po iT,.v (.sl Za)] [.int .i64] [aS6]
def bEQ(x0:bF)(x1:Γ Int):Prop:=((0<(x1.length:Int))/\((1<(x1.length:Int))/\((2<(x1.length:Int))/\(if(!CR [(aD x1 0 0,aD x1 1 0,aD x1 2 0,())])=true then True else(if((x0.2.2.2.1.length:Int)==8)=true then True else(((0+aF x0.2.2.2.1)*24<=140737488355328)/\((aF ([]++x0.2.2.2.1)+1)*24<=140737488355328)/\True))))))
def XT(x0:bF)(x1:Γ Int):Int:=if !CR [(aD x1 0 0,aD x1 1 0,aD x1 2 0,())] then 2 else if(x0.2.2.2.1.length:Int)==8 then 5 else 0
def jv(x0:bF)(x1:Γ Int):bF:=if !CR [(aD x1 0 0,aD x1 1 0,aD x1 2 0,())] then x0 else if(x0.2.2.2.1.length:Int)==8 then x0 else(x0.1,x0.2.1,x0.2.2.1,[]++x0.2.2.2.1++[(aD x1 0 0,aD x1 1 0,aD x1 2 0,())],x0.2.2.2.2.1,x0.2.2.2.2.2.1,x0.2.2.2.2.2.2.1,x0.2.2.2.2.2.2.2.1,x0.2.2.2.2.2.2.2.2.1,x0.2.2.2.2.2.2.2.2.2.1,x0.2.2.2.2.2.2.2.2.2.2.1,x0.2.2.2.2.2.2.2.2.2.2.2.1,())
def bER:KK:=mN bJ2 (DO rn) bEQ (λx=>[some ⟨.cons (.sl eC) YA1,[jv x.1 x.2.1]⟩]) (XT,()) λ⟨x0,x1,_⟩ h _ K q=>have sq1:=aEe [eP 0 8 0 iT,eL 1 (.int .i64) x1,eI 4 0,eO 5 9 0 [],eL 6 (.int .i64) x1,(7,.a (.ptr (.int .i64) (aD x1 0 0))),eI 8 (aD x1 0 0),eL 9 (.int .i64) x1,(10,.a (.ptr (.int .i64) (aD x1 1 0))),eI 11 (aD x1 1 0),eL 12 (.int .i64) x1,(13,.a (.ptr (.int .i64) (aD x1 2 0))),eI 14 (aD x1 2 0),eT 15 cZ (aD x1 0 0,aD x1 1 0,aD x1 2 0,()),eT 16 cZ (aD x1 0 0,aD x1 1 0,aD x1 2 0,()),eW 17 10,eB 18 (CR [(aD x1 0 0,aD x1 1 0,aD x1 2 0,())]),eB 19 (!CR [(aD x1 0 0,aD x1 1 0,aD x1 2 0,())]),eP 20 8 0 iT,eP 21 8 0 iT,eP 22 8 6 (.sl cZ),eW 23 2,eI 24 (x0.2.2.2.1.length:Int),eB 25 ((x0.2.2.2.1.length:Int)==8),eP 26 8 0 iT,eP 28 8 0 iT,eP 29 8 0 iT,eP 30 8 6 (.sl cZ),eW 31 2,eT 33 cZ (aD x1 0 0,aD x1 1 0,aD x1 2 0,()),eW 34 12,eW 35 11,eP 36 8 0 iT,eP 37 8 6 (.sl cZ)] [cL eC x0.1,cL cZ x0.2.2.1,cL cZ x0.2.2.2.1,cL c8 x0.2.2.2.2.2.2.1,cL eC x0.2.2.2.2.2.2.2.2.1,cL cZ x0.2.2.2.2.2.2.2.2.2.1,cL c8 x0.2.2.2.2.2.2.2.2.2.2.1,cL c8 x0.2.2.2.2.2.2.2.2.2.2.2.1,TD x0 0 1 11 3 4 5 6 7,some (fE cZ [(aD x1 0 0,aD x1 1 0,aD x1 2 0,())] true none (some false)),cL cZ [(aD x1 0 0,aD x1 1 0,aD x1 2 0,())],cL cZ ([]++x0.2.2.2.1++[(aD x1 0 0,aD x1 1 0,aD x1 2 0,())]),cL cZ [(aD x1 0 0,aD x1 1 0,aD x1 2 0,())]];tP ((by decide):(0:Int)<=(0:Int))<|c1 h λh=>tP ((by decide):(0:Int)<=(1:Int))<|c1 h λh=>tP ((by decide):(0:Int)<=(2:Int))<|c1 h λh=>tv<|bAe h (λh=>rt) λh=>bAe h (λh=>rt) λh=>cS h λs3 h=>cS h λs4 h=>tP s3<|tP s4<|tP s3<|tP s4<|tP sq1<|tP sq1<|tP s3<|tP s4<|tP s3<|tP s4<|tP sq1<|tP s3<|tP s4<|tP sq1<|tP sq1<|tP s3<|tP s4<|tP s3<|tP s4<|tP s3<|tP s4<|tP sq1<|tP sq1<|tP s3<|tP s4<|tP s3<|tP s4<|tP sq1<|tP s3<|tP s4<|tP sq1<|tP sq1<|tP sq1<|tP s3<|tP s4<|tP s3<|tP s4<|tP sq1<|tP s3<|tP s4<|tP sq1<|tP s3<|tP s4<|tP s3<|tP s4<|tP sq1<|tP s3<|tP s4<|tP sq1<|tP sq1<|tP s3<|tP s4<|tP s3<|tP s4<|tP (aEe [eP 0 8 0 iT,eL 1 (.int .i64) x1,eI 4 0,eO 5 9 0 [],eL 6 (.int .i64) x1,(7,.a (.ptr (.int .i64) (aD x1 0 0))),eI 8 (aD x1 0 0),eL 9 (.int .i64) x1,(10,.a (.ptr (.int .i64) (aD x1 1 0))),eI 11 (aD x1 1 0),eL 12 (.int .i64) x1,(13,.a (.ptr (.int .i64) (aD x1 2 0))),eI 14 (aD x1 2 0),eT 15 cZ (aD x1 0 0,aD x1 1 0,aD x1 2 0,()),eT 16 cZ (aD x1 0 0,aD x1 1 0,aD x1 2 0,()),eW 17 10,eB 18 (CR [(aD x1 0 0,aD x1 1 0,aD x1 2 0,())]),eB 19 (!CR [(aD x1 0 0,aD x1 1 0,aD x1 2 0,())]),eP 20 8 0 iT,eP 21 8 0 iT,eP 22 8 6 (.sl cZ),eW 23 2,eI 24 (x0.2.2.2.1.length:Int),eB 25 ((x0.2.2.2.1.length:Int)==8),eP 26 8 0 iT,eP 28 8 0 iT,eP 29 8 0 iT,eP 30 8 6 (.sl cZ),eW 31 2,eT 33 cZ (aD x1 0 0,aD x1 1 0,aD x1 2 0,()),eW 34 11,eW 35 12,eP 36 8 0 iT,eP 37 8 6 (.sl cZ)] [cL eC x0.1,cL cZ x0.2.2.1,cL cZ x0.2.2.2.1,cL c8 x0.2.2.2.2.2.2.1,cL eC x0.2.2.2.2.2.2.2.2.1,cL cZ x0.2.2.2.2.2.2.2.2.2.1,cL c8 x0.2.2.2.2.2.2.2.2.2.2.1,cL c8 x0.2.2.2.2.2.2.2.2.2.2.2.1,TD x0 0 1 12 3 4 5 6 7,some (fE cZ [(aD x1 0 0,aD x1 1 0,aD x1 2 0,())] true none (some false)),cL cZ [(aD x1 0 0,aD x1 1 0,aD x1 2 0,())],cL cZ [(aD x1 0 0,aD x1 1 0,aD x1 2 0,())],cL cZ ([]++x0.2.2.2.1++[(aD x1 0 0,aD x1 1 0,aD x1 2 0,())])])<|tP sq1<|tP sq1<|rt
def XU(x0:Int):Bool:=cG x0 (-1000000) 1000000
def bES:KK:=mB Tryz.func369 [.v (.int .i64)] [.bool] [lO] nP (XU,()) λ_=>bH pr
def bET:KK:=mB Tryz.func370 [.v (.int .i64)] [.bool] [lO] nP (Vh,()) λ_=>bH pr
def aOp(x0:b6)(x1:Int)(x2:Int):Prop:=if decide (x1>x0.2.1)then True else aX .i64 (x1*x2)/\aX .i64 (aQ (x1*x2) 1000)/\if decide (aQ (x1*x2) 1000>0)then aX .i64 (1000*aQ (x1*x2) 1000)/\aX .i64 (1000*aQ (x1*x2) 1000+999)/\aX .i64 (1000*aQ (x1*x2) 1000+999-x0.2.2.1)/\aX .i64 (1000-x0.2.2.1)/\1000-x0.2.2.1≠0/\aX .i64 (aQ (1000*aQ (x1*x2) 1000+999-x0.2.2.1) (1000-x0.2.2.1))/\True else aX .i64 (0-aQ (x1*x2) 1000)/\aX .i64 (1000-x0.2.2.1)/\aX .i64 ((0-aQ (x1*x2) 1000)*(1000-x0.2.2.1))/\aX .i64 (aQ ((0-aQ (x1*x2) 1000)*(1000-x0.2.2.1)) 1000)/\aX .i64 (0-aQ ((0-aQ (x1*x2) 1000)*(1000-x0.2.2.1)) 1000)/\True
def jw(x0:b6)(x1:Int)(x2:Int):Int:=if decide (x1>x0.2.1)then 0 else if decide (aQ (x1*x2) 1000>0)then aQ (1000*aQ (x1*x2) 1000+999-x0.2.2.1) (1000-x0.2.2.1)else 0-aQ ((0-aQ (x1*x2) 1000)*(1000-x0.2.2.1)) 1000
def XW(x0:b6)(x1:Int)(x2:Int):Bool:=if decide (x1>x0.2.1)then false else if decide (aQ (x1*x2) 1000>0)then decide (aQ (1000*aQ (x1*x2) 1000+999-x0.2.2.1) (1000-x0.2.2.1)<=x0.1)else true
def bEU:KK:=mB Tryz.func371 [.p cZ,.v (.int .i64),.v (.int .i64)] [.int .i64,.bool] [] aOp (jw,XW,()) λ_=>dL pr<|aL<|pw 1000<|aL<|dL (aL<|aL<|aL<|aL<|cP pr)<|aL<|aL<|aL<|pw 1000<|aL<|aL pr
def aOq(x0:b6)(x1:Int)(x2:Int):Prop:=if !L8 x0 then True else if !XU x1 then True else if !Vh x2 then True else aOp x0 x1 x2/\True
def XX(x0:b6)(x1:Int)(x2:Int):Int:=if !L8 x0 then 0 else if !XU x1 then 0 else if !Vh x2 then 0 else if !XW x0 x1 x2 then 0 else jw x0 x1 x2
def XY(x0:b6)(x1:Int)(x2:Int):Int:=if !L8 x0 then 1 else if !XU x1 then 2 else if !Vh x2 then 2 else if !XW x0 x1 x2 then 6 else 0
def bEV:KK:=mB Tryz.func267 [.v cZ,.v (.int .i64),.v (.int .i64)] [.int .i64,.int .i64] [aS7,bES,bET,bEU] aOq (XX,XY,()) λ_=>bH<|dL pr<|bH<|dL (jM pr)<|bH<|dL pr<|aL<|vY pr pr
def XZ(x0:Int):Bool:=cG x0 1 4
def bEW:KK:=mB Tryz.func372 [.v (.int .i64)] [.bool] [lO] nP (XZ,()) λ_=>bH pr
def aOr(x0:b6)(x1:Int):Prop:=if x1==1 then True else if x1==2 then True else if x1==3 then(if x0.1 != 3 then True else if x0.2.2.1==3 then True else aX .i64 (x0.2.2.1+1)/\True)else if x0.1==0 then True else if x0.1==2 then True else aX .i64 (x0.2.1+1)/\True
def jx(x0:b6)(x1:Int):b6:=if x1==1 then(if x0.1 != 0 then(if x0.1 != 3 then x0 else(1,0,0,()))else(1,0,0,()))else if x1==2 then(if x0.1 != 2 then x0 else(3,0,0,()))else if x1==3 then(if x0.1 != 3 then x0 else if x0.2.2.1==3 then x0 else(1,0,x0.2.2.1+1,()))else if x0.1==0 then x0 else if x0.1==2 then x0 else if decide (x0.2.1+1<3)then(x0.1,x0.2.1+1,x0.2.2)else if x0.1==3 then(0,0,0,())else if decide (x0.2.2.1>0)then(3,0,x0.2.2.1,())else(2,0,0,())
def X0(x0:b6)(x1:Int):Bool:=if x1==1 then(if x0.1 != 0 then(if x0.1 != 3 then false else true)else true)else if x1==2 then(if x0.1 != 2 then false else true)else if x1==3 then(if x0.1 != 3 then false else if x0.2.2.1==3 then false else true)else if x0.1==0 then true else if x0.1==2 then true else if decide (x0.2.1+1<3)then true else if x0.1==3 then true else if decide (x0.2.2.1>0)then true else true
def bEX:KK:=mB Tryz.func373 [.v cZ,.v (.int .i64)] [.cons Za Ti,.bool] [] aOr (jx,X0,()) λ_=>dL (vY (vY pr pr)<|dK pr)<|dL (vY pr pr)<|dL (dL (jM pr)<|dL pr<|aL pr)<|dL (jM pr)<|dL pr<|aL<|vY pr<|vY pr<|vY pr pr
def aOs(x0:b6)(x1:Int):Prop:=if !He x0 then True else if !XZ x1 then True else aOr x0 x1/\True
def E0(x0:b6)(x1:Int):b6:=if !He x0 then(0,0,0,())else if !XZ x1 then(0,0,0,())else if !X0 x0 x1 then(0,0,0,())else jx x0 x1
def Jc(x0:b6)(x1:Int):Int:=if !He x0 then 1 else if !XZ x1 then 2 else if !X0 x0 x1 then 6 else 0
def bEY:KK:=mB Tryz.func268 [.v cZ,.v (.int .i64)] [.cons Za Ti,.int .i64] [aS8,bEW,bEX] aOs (E0,Jc,()) λ_=>bH<|dL pr<|bH<|dL pr<|aL<|vY pr pr
def aX5(x0:Int):Prop:=if !cG x0 0 3 then True else 0<=x0/\x0<4/\True
def N8(x0:Int):Δ:=if !cG x0 0 3 then aA #[] else aD [aA #[115,104,117,116],aA #[111,112,101,110,105,110,103],aA #[111,112,101,110],aA #[115,104,117,116,116,105,110,103]] (aE x0) aC
def bEZ:KK:=mB Tryz.func459 [.v (.int .i64)] [.str] [lO] aX5 (N8,()) λ_=>bH<|lT pr<|cP pr
def aX6(x0:b6):Prop:=((aX5 x0.1)/\((aG (N8 x0.1)+1<=9223372036854775807)/\((aG (N8 x0.1++aA #[47])+aG (gV x0.2.1)<=9223372036854775807)/\((aG (N8 x0.1++aA #[47]++gV x0.2.1)+1<=9223372036854775807)/\((aG (N8 x0.1++aA #[47]++gV x0.2.1++aA #[47])+aG (gV x0.2.2.1)<=9223372036854775807)/\True)))))
def aC1(x0:b6):Δ:=N8 x0.1++aA #[47]++gV x0.2.1++aA #[47]++gV x0.2.2.1
def bFa:KK:=mB Tryz.func374 [.p cZ] [.str] [bEZ,Wt] aX6 (aC1,()) λ_=>aL<|aL<|bH<|aL<|aL<|bH<|aL pr
def aC2(x0:b6):Prop:=if !He x0 then True else aX6 x0/\True
def Gk(x0:b6):Δ:=if !He x0 then aA #[] else aC1 x0
def bFb:KK:=mB Tryz.func269 [.v cZ] [.str] [aS8,bFa] aC2 (Gk,()) λ_=>bH<|lT pr<|aL pr
def X1(x0:Γ bP)(x1:Int)(x2:Int):Int:=if !wn x0 then 1 else if !Ik x1 then 2 else if !Ik x2 then 2 else if decide (x2<x1)then 2 else 0
def bFc:KK:=mB Tryz.func375 [.v (.sl c8),.v (.int .i64),.v (.int .i64)] [.int .i64] [bBx,aQg] nP (X1,()) λ_=>bH<|dS pr<|bH<|dS (jM<|jM pr)<|bH<|dS (jM pr)<|dS pr pr
end
def xK(m:Int):Nat->Γ bP->Γ Int
 | _,[]=>[]
 | i,x::l=>if x.2.1<=m/\m<x.2.2.1 then(i:Int)::xK m (i+1) l else xK m (i+1) l
def sA(x0:Γ bP)(k:Nat):bP:=x0.getD k (aC,(0:Int),(0:Int),())
theorem Da{m:Int}:∀ {l:Γ bP} {i:Nat} {v:Int},v∈xK m i l↔∃k:Nat,k<l.length/\v=((i+k:Nat):Int)/\(sA l k).2.1<=m/\m<(sA l k).2.2.1
 | [],i,v=>by simp[xK]
 | x::l,i,v=>by
  have key:v∈xK m (i+1) l↔∃k:Nat,k+1<(x::l).length/\v=((i+(k+1):Nat):Int)/\(sA (x::l) (k+1)).2.1<=m/\m<(sA (x::l) (k+1)).2.2.1:=by
   rw[Da];constructor
   ·rintro⟨k,h1,h2,h3⟩;exact⟨k,by simpa using h1,by omega,by exact h3⟩
   ·rintro⟨k,h1,h2,h3⟩;exact⟨k,by simpa using h1,by omega,by exact h3⟩
  unfold xK;by_cases hx:x.2.1<=m/\m<x.2.2.1
  ·rw[π hx,bA,key];constructor
   ·rintro(rfl | ⟨k,h⟩)
    ·exact⟨0,by simp,rfl,hx⟩
    grind
   ·rintro⟨k,h1,h2,h3⟩;cases k with
    | zero=>lia
    | succ k=>grind
  ·constructor
   ·grind
   ·rintro⟨k,h1,h2,h3⟩;cases k with
    | zero=>exact absurd h3 hx
    | succ k=>grind
theorem jy(m:Int):∀(l:Γ bP) (i:Nat),(xK m i l).length<=l.length
 | [],i=>aU _
 | x::l,i=>by
  unfold xK;have:=jy m l (i+1);split
  ·simp;omega
  ·simp;omega
def kX(x0:Γ bP)(b:Int)(l:Γ Int):Int:=l.foldl (λb k=>if b<0\/(sA x0 b.toNat).2.2.1<(sA x0 k.toNat).2.2.1 then k else b) b
theorem jz(x0:Γ bP):∀(l:Γ Int) (b:Int),(∀k∈l,0<=k)->0<=b->(kX x0 b l=b\/kX x0 b l∈l)/\(sA x0 b.toNat).2.2.1<=(sA x0 (kX x0 b l).toNat).2.2.1/\∀k∈l,(sA x0 k.toNat).2.2.1<=(sA x0 (kX x0 b l).toNat).2.2.1
 | [],b,_,hb=>⟨.inl rfl,dX _,λk hk=>by grind⟩
 | k::l,b,h,hb=>by
  have hk:0<=k:=h k (aR ..);have hl:∀k∈l,0<=k:=λk hk=>h k (aM _ hk);by_cases hc:b<0\/(sA x0 b.toNat).2.2.1<(sA x0 k.toNat).2.2.1
  ·have e:kX x0 b (k::l)=kX x0 k l:=by
    unfold kX
    grind
   obtain⟨h1,h2,h3⟩:=jz x0 l k hl hk
   grind
  ·have e:kX x0 b (k::l)=kX x0 b l:=by
    unfold kX
    grind
   rw[e];obtain⟨h1,h2,h3⟩:=jz x0 l b hl hb
   grind
def X2(x0:Γ bP)(l:Γ Int)(h:∀k∈l,0<=k):(l=[]/\kX x0 (-1) l = -1)\/(kX x0 (-1) l∈l/\∀k∈l,(sA x0 k.toNat).2.2.1<=(sA x0 (kX x0 (-1) l).toNat).2.2.1):=by
 cases l with
 | nil=>exact .inl ⟨rfl,rfl⟩
 | cons k l =>
  have e:kX x0 (-1) (k::l)=kX x0 k l:=by
   rfl
  obtain⟨h1,h2,h3⟩:=jz x0 l k (λk hk=>h k (aM _ hk)) (h k (aR ..))
  grind
def Bc(x0:Γ bP)(e:Int):Nat->Int->Option (Γ Int)
 | 0,_=>some []
 | n+1,m=>if m<e then(if kX x0 (-1) (xK m 0 x0)<0 then none else(Bc x0 e n (sA x0 (kX x0 (-1) (xK m 0 x0)).toNat).2.2.1).map (kX x0 (-1) (xK m 0 x0) :: ·))else some []
def ka(x0:Γ bP)(m:Int)(h:¬kX x0 (-1) (xK m 0 x0)<0):∃b:Nat,kX x0 (-1) (xK m 0 x0)=(b:Int)/\b<x0.length/\(sA x0 b).2.1<=m/\m<(sA x0 b).2.2.1/\∀k:Nat,k<x0.length->(sA x0 k).2.1<=m->(sA x0 k).2.2.1<=(sA x0 b).2.2.1:=by
 have hn:∀k∈xK m 0 x0,0<=k:=λk hk=>by
  obtain⟨j,_,rfl,_⟩:=Da.1 hk
  lia
 rcases X2 x0 _ hn with ⟨_,h2⟩ | ⟨h1,h2⟩
 ·lia
 ·grind [aK,Da]
noncomputable section
def aX7:gC:=D0 rp [.v (.sl c8),.v (.int .i64)] [.sl Za] []
mutual
def aX8:Nat->Γ bP->Int->Γ aS->Prop
 | 0,_,_,_=>False
 | n+1,x0,x1,ds=>Jd n 0 ([]) x0 x1 ds
def Jd:Nat->Int->Γ Int->Γ bP->Int->Γ aS->Prop
 | 0,_,_,_,_,_=>False
 | n+1,v6,h0,x0,x1,ds=>if decide (v6<(x0.length:Int))then 0<=v6/\v6<(x0.length:Int)/\if decide ((aD x0 (aE v6) (aC,0,0,())).2.1<=x1)then 0<=v6/\v6<(x0.length:Int)/\if decide ((aD x0 (aE v6) (aC,0,0,())).2.2.1>x1)then(aF h0+1)*8<=140737488355328/\aX .i64 (v6+1)/\Jd n (v6+1) (h0++[v6]) x0 x1 ds else aX .i64 (v6+1)/\Jd n (v6+1) h0 x0 x1 ds else aX .i64 (v6+1)/\Jd n (v6+1) h0 x0 x1 ds else ds=[aI (.sl Za) h0]
end
def aX9(ds:Γ aS)(K:fG)(q:Nat->Value):∀n,(∀ {x0 x1},aX8 n x0 x1 ds->St aX7 (x0,x1,()) ds [] K q)/\(∀ {v6 h0 x0 x1},Jd n v6 h0 x0 x1 ds->Cu aX7 3 ([eL 0 c8 x0,eI 1 x1,eW 5 0,eI 6 v6],[cL (.int .i64) h0]) ds [] K q):=nI ⟨aH,aH⟩ λn ⟨i,i3⟩=>⟨bX i3,
  bD (cP<|bD (cP<|bD (aL<|aL<|bX i3)<|aL<|bX i3)<|dK<|aL<|bX i3) cM⟩
def u5(x0:Γ bP)(x1:Int):Γ Int:=xK x1 0 x0
def bFd(x0:Γ bP)(x1:Int):Prop:=x0.length<=1000
def aOt(x0:Γ bP)(x1:Int)(hl:x0.length<=1000):∀(k i:Nat) (h:Γ Int),i+k=x0.length->h.length<=i->Jd (k+1) (i:Int) h x0 x1 [⟨.sl Za,h++xK x1 i (x0.drop i)⟩]:=by
 intro k
 induction k with
 | zero =>
  intro i h hi hh;rw[Jd,ν (by lia),bT (by lia)];simp[xK]
 | succ k ih =>
  intro i h hi hh;have hlt:i<x0.length:=by lia
  have ii:aX .i64 ((i:Int)+1):=by grind [aJ]
  rw[Jd,π (by lia)];refine⟨by lia,by lia,?_⟩;simp only[aK,oG x0 i _ hlt];rw[uW hlt];unfold xK;by_cases h1:x0[i].2.1<=x1
  ·rw[π (by lia)];refine⟨by lia,by lia,?_⟩;by_cases h2:x1<x0[i].2.2.1
   ·have:=ih (i+1) (h++[(i:Int)]) (by lia) (by grind)
    grind
   grind
  grind
def aXA(x0:Γ bP)(x1:Int)(hl:x0.length<=1000):aX8 (x0.length+1+1) x0 x1 [⟨.sl Za,u5 x0 x1⟩]:=by
 rw[aX8];exact aOt x0 x1 hl x0.length 0 [] (by omega) (by simp)
def bFe:KK:=mL aX7 (DO rp) bFd (u5,()) (λ⟨x0,x1,_⟩ h hwf K q =>
 (aX9 _ K q _).1 (aXA x0 x1 h))
def aXB:gC:=D0 rq [.v (.sl c8),.v (.int .i64)] [.sl Za] []
mutual
def aXC:Nat->Γ bP->Int->Γ aS->Prop
 | 0,_,_,_=>False
 | n+1,x0,x1,ds=>Je n 0 ([]) x1 x0 ds
def Je:Nat->Int->Γ Int->Int->Γ bP->Γ aS->Prop
 | 0,_,_,_,_,_=>False
 | n+1,v10,h0,x1,x0,ds=>if decide (v10<(x0.length:Int))then 0<=v10/\v10<(x0.length:Int)/\if decide ((aD x0 (aE v10) (aC,0,0,())).2.1<=x1)then(if decide (x1<(aD x0 (aE v10) (aC,0,0,())).2.2.1)then(aF h0+1)*8<=140737488355328/\aX .i64 (v10+1)/\Je n (v10+1) (h0++[v10]) x1 x0 ds else aX .i64 (v10+1)/\Je n (v10+1) h0 x1 x0 ds)else aX .i64 (v10+1)/\Je n (v10+1) h0 x1 x0 ds else ds=[aI (.sl Za) h0]
end
def aXD(ds:Γ aS)(K:fG)(q:Nat->Value):∀n,(∀ {x0 x1},aXC n x0 x1 ds->St aXB (x0,x1,()) ds [] K q)/\(∀ {v10 h0 x1 x0},Je n v10 h0 x1 x0 ds->Cu aXB 3 ([eI 1 x1,eW 5 0,eL 8 c8 x0,eI 9 (x0.length:Int),eI 10 v10],[cL (.int .i64) h0]) ds [] K q):=nI ⟨aH,aH⟩ λn ⟨i,i3⟩=>⟨Dr [(5,.int .i64)] i3,
  bD (cP<|bD (bD (aL<|aL<|Dr [(5,.int .i64)] i3)<|aL<|Dr [(5,.int .i64)] i3)<|dK<|aL<|Dr [(5,.int .i64)] i3) cM⟩
def aOu(x0:Γ bP)(x1:Int)(hl:x0.length<=1000):∀(k i:Nat) (h:Γ Int),i+k=x0.length->h.length<=i->Je (k+1) (i:Int) h x1 x0 [⟨.sl Za,h++xK x1 i (x0.drop i)⟩]:=by
 intro k
 induction k with
 | zero =>
  intro i h hi hh;rw[Je,ν (by lia),bT (by lia)];simp[xK]
 | succ k ih =>
  intro i h hi hh;have hlt:i<x0.length:=by lia
  have ii:aX .i64 ((i:Int)+1):=by grind [aJ]
  rw[Je];rw[uW hlt];unfold xK;by_cases h1:x0[i].2.1<=x1
  ·rw[π (by lia)];by_cases h2:x1<x0[i].2.2.1
   ·have:=ih (i+1) (h++[(i:Int)]) (by lia) (by grind)
    grind
   grind
  grind
def aXE(x0:Γ bP)(x1:Int)(hl:x0.length<=1000):aXC (x0.length+1+1) x0 x1 [⟨.sl Za,u5 x0 x1⟩]:=by
 rw[aXC];exact aOu x0 x1 hl x0.length 0 [] (by omega) (by simp)
def bFg:KK:=mL aXB (DO rq) bFd (u5,()) (λ⟨x0,x1,_⟩ h hwf K q =>
 (aXD _ K q _).1 (aXE x0 x1 h))
def aOv:gC:=D0 rr [.v (.sl c8),.v (.int .i64),.v (.int .i64)] [.sl Za,.int .i64] [bDi,bDj,bFg]
mutual
def aOw:Nat->Γ bP->Int->Int->Γ aS->Prop
 | 0,_,_,_,_=>False
 | n+1,x0,x1,x2,ds=>if BI x0 (BH x1 x2) != 0 then ds=[aI (.sl Za) [],aI (.int .i64) (BI x0 (BH x1 x2))] else N9 n ([]) x0 x2 x1 ds
def N9:Nat->Γ Int->Γ bP->Int->Int->Γ aS->Prop
 | 0,_,_,_,_,_=>False
 | n+1,h0,x0,x2,x1,ds=>if decide (x1<x2)then bFd x0 x1/\AF n (-1) 0 x0 x2 x1 h0 ds else ds=[aI (.sl Za) h0,aI (.int .i64) 0]
def AF:Nat->Int->Int->Γ bP->Int->Int->Γ Int->Γ aS->Prop
 | 0,_,_,_,_,_,_,_=>False
 | n+1,v11,v30,x0,x2,x1,h0,ds=>if decide (v30<(↑(aF (u5 x0 x1)):Int))then 0<=v30/\v30<(↑(aF (u5 x0 x1)):Int)/\if decide (v11<0)then aX .i64 (v30+1)/\AF n (aD (u5 x0 x1) (aE v30) 0) (v30+1) x0 x2 x1 h0 ds else 0<=aD (u5 x0 x1) (aE v30) 0/\aD (u5 x0 x1) (aE v30) 0<(x0.length:Int)/\0<=v11/\v11<(x0.length:Int)/\if decide ((aD x0 (aE (aD (u5 x0 x1) (aE v30) 0)) (aC,0,0,())).2.2.1>(aD x0 (aE v11) (aC,0,0,())).2.2.1)then aX .i64 (v30+1)/\AF n (aD (u5 x0 x1) (aE v30) 0) (v30+1) x0 x2 x1 h0 ds else aX .i64 (v30+1)/\AF n v11 (v30+1) x0 x2 x1 h0 ds else if decide (v11<0)then ds=[aI (.sl Za) [],aI (.int .i64) 3] else(aF h0+1)*8<=140737488355328/\0<=v11/\v11<(x0.length:Int)/\N9 n (h0++[v11]) x0 x2 (aD x0 (aE v11) (aC,0,0,())).2.2.1 ds
end
def aXF(ds:Γ aS)(K:fG)(q:Nat->Value):∀n,(∀ {x0 x1 x2},aOw n x0 x1 x2 ds->St aOv (x0,x1,x2,()) ds [] K q)/\(∀ {h0 x0 x2 x1},N9 n h0 x0 x2 x1 ds->Cu aOv 6 ([eL 0 c8 x0,eI 2 x2,eW 9 0,eI 10 x1],[cL (.int .i64) h0]) ds [] K q)/\(∀ {v11 v30 x0 x2 x1 h0},AF n v11 v30 x0 x2 x1 h0 ds->Cu aOv 9 ([eL 0 c8 x0,eI 2 x2,eW 9 0,eI 11 v11,eW 28 1,eI 29 (↑(aF (u5 x0 x1)):Int),eI 30 v30],[cL (.int .i64) h0,cL (.int .i64) (u5 x0 x1)]) ds [] K q):=nI ⟨aH,aH,aH⟩ λn ⟨i,i6,i9⟩=>⟨bH<|bH<|bD cM<|Dr [(9,.int .i64)] i6,
  bD (aL<|bX i9) cM,
  bD (cP<|bD (jM<|aL<|bX i9)<|cP<|cP<|bD (aL<|bX i9)<|aL<|bX i9)<|bD cM<|aL<|cP<|Dr [(9,.int .i64)] i6⟩
def Na(x0:Γ bP)(x1 x2:Int):Int:=if BI x0 (BH x1 x2)≠0 then BI x0 (BH x1 x2)else(match Bc x0 x2 (x2-x1).toNat x1 with | some _=>0 | none=>3)
def E2(x0:Γ bP)(x1 x2:Int):Γ Int:=if BI x0 (BH x1 x2)≠0 then [] else(Bc x0 x2 (x2-x1).toNat x1).getD []
def bFh(x0:Γ bP)(x1 x2:Int):Prop:=x0.length<=1000
def aLf(x0:Γ bP)(x2 x1:Int)(h0:Γ Int)(hl:x0.length<=1000)(ds:Γ aS)(hN:∃N,AF N (kX x0 (-1) (xK x1 0 x0)) ((xK x1 0 x0).length:Int) x0 x2 x1 h0 ds) :
  ∀(k i:Nat) (v:Int),i+k=(xK x1 0 x0).length->(v = -1\/(0<=v/\v<(x0.length:Int)))->v=kX x0 (-1) ((xK x1 0 x0).take i)->∃n,AF n v (i:Int) x0 x2 x1 h0 ds:=by
 have hll:=jy x1 x0 0;have hall:∀j∈xK x1 0 x0,0<=j/\j<(x0.length:Int):=λj hj=>by
  obtain⟨q,h1,rfl,_⟩:=Da.1 hj
  lia
 intro k
 induction k with
 | zero =>
  grind
 | succ k ih =>
  intro i v hi hv hb;have hlt:i<(xK x1 0 x0).length:=by lia
  have ii:aX .i64 ((i:Int)+1):=by grind [aJ]
  have hj:=hall _ (List.getElem_mem hlt);have et:kX x0 (-1) ((xK x1 0 x0).take (i+1))=if v<0\/(sA x0 v.toNat).2.2.1<(sA x0 ((xK x1 0 x0)[i]).toNat).2.2.1 then(xK x1 0 x0)[i] else v:=by
   rw[iC,aV hlt];unfold kX;rw[QT];show (if(kX x0 (-1) ((xK x1 0 x0).take i))<0\/(sA x0 (kX x0 (-1) ((xK x1 0 x0).take i)).toNat).2.2.1<_ then _ else(kX x0 (-1) ((xK x1 0 x0).take i)))=_;rw[<- hb]
  have eg:u5 x0 x1=xK x1 0 x0:=rfl;by_cases hv0:v<0
  ·obtain⟨n,hn⟩:=ih (i+1) ((xK x1 0 x0)[i]) (by lia) (.inr hj) (by lia);refine⟨n+1,?_⟩;rw[AF,eg,π (by lia)]
   grind
  ·by_cases hc:(sA x0 v.toNat).2.2.1<(sA x0 ((xK x1 0 x0)[i]).toNat).2.2.1
   ·obtain⟨n,hn⟩:=ih (i+1) ((xK x1 0 x0)[i]) (by lia) (.inr hj) (by lia);refine⟨n+1,?_⟩;rw[AF,eg,π (by lia)];refine⟨by lia,by lia,?_⟩;simp only[aK,oG (xK x1 0 x0) i _ hlt];rw[ν (by lia)];refine⟨hj.1,hj.2,by lia,by lia,?_⟩;refine Eq.mpr (π (show _=true from decide_eq_true hc)) ⟨ii,?_⟩
    lia
   ·obtain⟨n,hn⟩:=ih (i+1) v (by lia) hv (by lia);refine⟨n+1,?_⟩;rw[AF,eg,π (by lia)];refine⟨by lia,by lia,?_⟩;simp only[aK,oG (xK x1 0 x0) i _ hlt];rw[ν (by lia)];refine⟨hj.1,hj.2,by lia,by lia,?_⟩;refine Eq.mpr (ν (λh=>hc (of_decide_eq_true h))) ⟨ii,?_⟩
    lia
def E3(h0:Γ Int):Option (Γ Int)->Γ aS
 | some l=>[⟨.sl Za,h0++l⟩,⟨.int .i64,(0:Int)⟩]
 | none=>[⟨.sl Za,([]:Γ Int)⟩,⟨.int .i64,(3:Int)⟩]
def aLg(x0:Γ bP)(x2:Int)(hl:x0.length<=1000):∀(k:Nat) (x1:Int) (h0:Γ Int),x2-x1<=(k:Int)->h0.length+k<=2000 ->
  ∃n,N9 n h0 x0 x2 x1 (E3 h0 (Bc x0 x2 k x1)):=by
 intro k
 induction k with
 | zero =>
  intro x1 h0 hk hh;refine⟨1,?_⟩;rw[N9,ν (by lia)];show [(⟨.sl Za,h0++([]:Γ Int)⟩:aS),⟨.int .i64,(0:Int)⟩]=_;simp
 | succ k ih =>
  intro x1 h0 hk hh;by_cases hm:x1<x2
  case neg =>
   refine⟨1,?_⟩;rw[N9,ν (by lia)];unfold Bc;rw[ν hm];show [(⟨.sl Za,h0++([]:Γ Int)⟩:aS),⟨.int .i64,(0:Int)⟩]=_;simp
  case pos =>
   have eg:u5 x0 x1=xK x1 0 x0:=rfl;have key:∃N,AF N (kX x0 (-1) (xK x1 0 x0)) ((xK x1 0 x0).length:Int) x0 x2 x1 h0 (E3 h0 (Bc x0 x2 (k+1) x1)):=by
    by_cases hb:kX x0 (-1) (xK x1 0 x0)<0
    ·refine⟨1,?_⟩;rw[AF,ν (by lia),π (by lia)];unfold Bc;rw[π hm,π hb]<;>rfl
    ·obtain⟨b,h1,h2,h3,h4,h5⟩:=ka x0 x1 hb;obtain⟨n,hn⟩:=ih (sA x0 b).2.2.1 (h0++[(b:Int)]) (by lia) (by grind);refine⟨n+1,?_⟩;rw[AF,ν (by lia)];unfold Bc;rw[π hm,ν hb,h1];simp only[aK];refine⟨by lia,by lia,by lia,?_⟩;have e:E3 (h0++[(b:Int)]) (Bc x0 x2 k (sA x0 b).2.2.1)=E3 h0 ((Bc x0 x2 k (sA x0 b).2.2.1).map ((b:Int) :: ·)):=by
      cases Bc x0 x2 k (sA x0 b).2.2.1 with
      | none=>rfl
      | some l=>simp[E3]
     rw[<- e];exact hn
   obtain⟨n,hn⟩:=aLf x0 x2 x1 h0 hl _ key (xK x1 0 x0).length 0 (-1) (by lia) (.inl rfl) rfl;refine⟨n+1,?_⟩;rw[N9,π (by lia)];exact⟨hl,hn⟩
def aXG(x0:Γ bP)(x1 x2:Int)(hl:x0.length<=1000):∃n,aOw n x0 x1 x2 [⟨.sl Za,E2 x0 x1 x2⟩,⟨.int .i64,Na x0 x1 x2⟩]:=by
 unfold E2 Na;by_cases h:BI x0 (BH x1 x2)=0
 ·rw[ν (λhh=>hh h),ν (λhh=>hh h)];have hs:x2-x1<=1440:=by
   have:=aEm (W7 h).2;omega
  obtain⟨n,hn⟩:=aLg x0 x2 hl (x2-x1).toNat x1 [] (by omega) (by simp;omega);refine⟨n+1,?_⟩;rw[aOw,ν (by rw[h];decide)];cases hf:Bc x0 x2 (x2-x1).toNat x1 with
  | none=>rw[hf]at hn;exact hn
  | some l=>rw[hf]at hn;exact hn
 ·rw[π h,π h];refine⟨1,?_⟩;rw[aOw,π (by simpa using h)]
def bFi:KK:=mL aOv (DO rr) bFh (E2,Na,()) (λ⟨x0,x1,x2,_⟩ h hwf K q =>
 let ⟨n,hn⟩:=aXG x0 x1 x2 h
 (aXF _ K q n).1 hn)
def aOx:gC:=D0 ry [.v (.sl c8),.v (.int .i64),.v (.int .i64)] [.sl Za,.int .i64] [bFc,bFe]
mutual
def aOy:Nat->Γ bP->Int->Int->Γ aS->Prop
 | 0,_,_,_,_=>False
 | n+1,x0,x1,x2,ds=>if X1 x0 x1 x2 != 0 then ds=[aI (.sl Za) [],aI (.int .i64) (X1 x0 x1 x2)] else Gl n ([]) x0 x1 x2 ds
def Gl:Nat->Γ Int->Γ bP->Int->Int->Γ aS->Prop
 | 0,_,_,_,_,_=>False
 | n+1,h0,x0,x1,x2,ds=>if decide (x1<x2)then bFd x0 x1/\if(↑(aF (u5 x0 x1)):Int)==0 then ds=[aI (.sl Za) [],aI (.int .i64) 3] else 0<(↑(aF (u5 x0 x1)):Int)/\Gm n (aD (u5 x0 x1) 0 0) 1 x0 x2 h0 x1 ds else ds=[aI (.sl Za) h0,aI (.int .i64) 0]
def Gm:Nat->Int->Int->Γ bP->Int->Γ Int->Int->Γ aS->Prop
 | 0,_,_,_,_,_,_,_=>False
 | n+1,v11,v12,x0,x2,h0,x1,ds=>if decide (v12<(↑(aF (u5 x0 x1)):Int))then 0<=v12/\v12<(↑(aF (u5 x0 x1)):Int)/\0<=aD (u5 x0 x1) (aE v12) 0/\aD (u5 x0 x1) (aE v12) 0<(x0.length:Int)/\0<=v11/\v11<(x0.length:Int)/\if decide ((aD x0 (aE (aD (u5 x0 x1) (aE v12) 0)) (aC,0,0,())).2.2.1>(aD x0 (aE v11) (aC,0,0,())).2.2.1)then 0<=v12/\v12<(↑(aF (u5 x0 x1)):Int)/\aX .i64 (v12+1)/\Gm n (aD (u5 x0 x1) (aE v12) 0) (v12+1) x0 x2 h0 x1 ds else aX .i64 (v12+1)/\Gm n v11 (v12+1) x0 x2 h0 x1 ds else(aF h0+1)*8<=140737488355328/\0<=v11/\v11<(x0.length:Int)/\Gl n (h0++[v11]) x0 (aD x0 (aE v11) (aC,0,0,())).2.2.1 x2 ds
end
def aXH(ds:Γ aS)(K:fG)(q:Nat->Value):∀n,(∀ {x0 x1 x2},aOy n x0 x1 x2 ds->St aOx (x0,x1,x2,()) ds [] K q)/\(∀ {h0 x0 x1 x2},Gl n h0 x0 x1 x2 ds->Cu aOx 5 ([eL 0 c8 x0,eI 1 x1,eI 2 x2,eW 9 0],[cL (.int .i64) h0]) ds [] K q)/\(∀ {v11 v12 x0 x2 h0 x1},Gm n v11 v12 x0 x2 h0 x1 ds->Cu aOx 11 ([eL 0 c8 x0,eI 2 x2,eW 9 0,eW 10 1,eI 11 v11,eI 12 v12],[cL (.int .i64) h0,cL (.int .i64) (u5 x0 x1)]) ds [] K q):=nI ⟨aH,aH,aH⟩ λn ⟨i,i5,i11⟩=>⟨bH<|bD cM<|bX i5,
  bD (aL<|bD cM<|pq 0<|aL<|bX i11) cM,
  bD (cP<|cP<|cP<|bD (cP<|aL<|bX i11)<|aL<|bX i11)<|aL<|cP<|bX i5⟩
def X4(x0:Γ F3)(x1 x2:Int):Int:=Na x0 x1 x2
def X5(x0:Γ F3)(x1 x2:Int):Γ Int:=E2 x0 x1 x2
def bFj(x0:Γ F3)(x1 x2:Int):Prop:=x0.length<=1000
theorem kb(x0:Γ F3)(a:Int)(l:Γ Int):kX x0 (-1) (a::l)=kX x0 a l:=by
 rfl
def aLh(x0:Γ F3)(x2 x1:Int)(h0:Γ Int)(hl:x0.length<=1000)(hh:h0.length<=2000)(ds:Γ aS)(n:Nat)(hn:∀b:Nat,b<x0.length->(b:Int)=kX x0 (-1) (xK x1 0 x0)->Gl n (h0++[(b:Int)]) x0 (sA x0 b).2.2.1 x2 ds) :
  ∀(k i b:Nat),i+k=(xK x1 0 x0).length->b<x0.length->kX x0 (b:Int) ((xK x1 0 x0).drop i)=kX x0 (-1) (xK x1 0 x0)->Gm (n+k+1) (b:Int) (i:Int) x0 x2 h0 x1 ds:=by
 have hll:=jy x1 x0 0;intro k
 induction k with
 | zero =>
  intro i b hi hb he;rw[bT (by lia)]at he;have eg:u5 x0 x1=xK x1 0 x0:=rfl;rw[Gm,ν (by lia)];exact⟨by lia,by lia,by lia,hn b hb he⟩
 | succ k ih =>
  intro i b hi hb he;have hlt:i<(xK x1 0 x0).length:=by lia
  have en:(i:Int)+1=((i+1:Nat):Int):=by lia
  have ii:aX .i64 ((i+1:Nat):Int):=by grind [aJ]
  have eg:u5 x0 x1=xK x1 0 x0:=rfl;obtain⟨j,j1,j2,_⟩:=Da.1 (cF (xK x1 0 x0) i 0 hlt);rw[cO]at j2;rw[dQ (xK x1 0 x0) i 0 hlt]at he;unfold kX at he;rw[iQ]at he;rw[Gm,eg,π (by lia)];simp only[aK,j2];rw[j2]at he;refine⟨by lia,by lia,by lia,by lia,by lia,by lia,?_⟩;by_cases c:(sA x0 b).2.2.1<(sA x0 j).2.2.1
  ·rw[π (.inr c)]at he;exact(π (show _=true from decide_eq_true c)).mpr ⟨by lia,by lia,ii,ih (i+1) j (by lia) j1 he⟩
  ·rw[ν (λh=>h.elim (λh=>by lia) c)]at he;exact(ν (λh=>c (of_decide_eq_true h))).mpr ⟨ii,ih (i+1) b (by lia) hb he⟩
def aLi(x0:Γ F3)(x2:Int)(hl:x0.length<=1000):∀(k:Nat) (x1:Int) (h0:Γ Int),x2-x1<=(k:Int)->h0.length+k<=2000 ->
  ∃n,Gl n h0 x0 x1 x2 (E3 h0 (Bc x0 x2 k x1)):=by
 intro k
 induction k with
 | zero =>
  intro x1 h0 hk hh;refine⟨1,?_⟩;rw[Gl,ν (by lia)];show [(⟨.sl Za,h0++([]:Γ Int)⟩:aS),⟨.int .i64,(0:Int)⟩]=_;simp
 | succ k ih =>
  intro x1 h0 hk hh;by_cases hm:x1<x2
  case neg =>
   refine⟨1,?_⟩;rw[Gl,ν (by lia)];unfold Bc;rw[ν hm];show [(⟨.sl Za,h0++([]:Γ Int)⟩:aS),⟨.int .i64,(0:Int)⟩]=_;simp
  case pos =>
   have eg:u5 x0 x1=xK x1 0 x0:=rfl;by_cases hb:kX x0 (-1) (xK x1 0 x0)<0
   ·have hz:xK x1 0 x0=[]:=by
     rcases X2 x0 (xK x1 0 x0) (λq hq=>by obtain⟨j,_,rfl,_⟩:=Da.1 hq;lia)with ⟨h,_⟩ | ⟨h,_⟩
     all_goals grind [Da]
    refine⟨1,?_⟩;unfold Bc;rw[Gl,π (by lia),π hm,eg,hz];exact⟨hl,rfl⟩
   ·obtain⟨b,h1,h2,h3,h4,h5⟩:=ka x0 x1 hb;obtain⟨n,hn⟩:=ih (sA x0 b).2.2.1 (h0++[(b:Int)]) (by lia) (by grind);have e:E3 (h0++[(b:Int)]) (Bc x0 x2 k (sA x0 b).2.2.1)=E3 h0 ((Bc x0 x2 k (sA x0 b).2.2.1).map ((b:Int) :: ·)):=by
     cases Bc x0 x2 k (sA x0 b).2.2.1 with
     | none=>rfl
     | some l=>simp[E3]
    cases hz:xK x1 0 x0 with
    | nil=>rw[hz]at h1;exact absurd h1 (by show ¬(-1:Int)=_;lia)
    | cons a r =>
     have ha:a∈xK x1 0 x0:=by grind
     obtain⟨j,j1,j2,_⟩:=Da.1 ha;have key:=aLh x0 x2 x1 h0 hl (by lia) (E3 h0 (Bc x0 x2 (k+1) x1)) n (λb' hb' e'=>by
      unfold Bc
      grind) r.length 1 j (by grind) j1 (by grind [kb])
     refine⟨n+r.length+1+1,?_⟩;rw[Gl,π (by lia),eg,hz];refine⟨hl,by simp,?_⟩
     grind
def aXI(x0:Γ F3)(x1 x2:Int)(hl:x0.length<=1000):∃n,aOy n x0 x1 x2 [⟨.sl Za,X5 x0 x1 x2⟩,⟨.int .i64,X4 x0 x1 x2⟩]:=by
 have ec:X1 x0 x1 x2=BI x0 (BH x1 x2):=by
  have e1:∀n,Ik n=BA n:=λ_=>rfl;unfold X1 BI BH;rw[<- TO,e1,e1];cases oW x0
  ·rfl
  ·cases BA x1
   ·rfl
   ·cases BA x2
    ·rfl
    ·by_cases c:x2<x1
     ·rw[decide_eq_true c,decide_eq_false (show ¬x1<=x2 by omega)]<;>rfl
     ·rw[decide_eq_false c,decide_eq_true (show x1<=x2 by omega)]<;>rfl
 unfold X5 X4 E2 Na;by_cases h:BI x0 (BH x1 x2)=0
 ·rw[ν (λhh=>hh h),ν (λhh=>hh h)];have hs:x2-x1<=1440:=by
   have:=aEm (W7 h).2;omega
  obtain⟨n,hn⟩:=aLi x0 x2 hl (x2-x1).toNat x1 [] (by omega) (by simp;omega);refine⟨n+1,?_⟩;rw[aOy,ec,ν (by rw[h];decide)];cases hf:Bc x0 x2 (x2-x1).toNat x1 with
  | none=>rw[hf]at hn;exact hn
  | some l=>rw[hf]at hn;exact hn
 ·rw[π h,π h];refine⟨1,?_⟩;rw[aOy,ec,π (by simpa using h)]
def bFk:KK:=mL aOx (DO ry) bFj (X5,X4,()) (λ⟨x0,x1,x2,_⟩ h hwf K q =>
 let ⟨n,hn⟩:=aXI x0 x1 x2 h
 (aXH _ K q n).1 hn)
def E4(x0:Int):Bool:=cG x0 0 100000
def aRu:KK:=mB Tryz.func377 [.v (.int .i64)] [.bool] [lO] nP (E4,()) λ_=>bH pr
def Nb(x0:Int)(x1:Int)(x2:Int):Bool:=if E4 x0 then(if E4 x1 then cG x2 1 900 else false)else false
def bFl:KK:=mB Tryz.func378 [.v (.int .i64),.v (.int .i64),.v (.int .i64)] [.bool] [aRu,lO] nP (Nb,()) λ_=>bH<|dS (bH<|dS (bH pr) pr)<|dK pr
def X6(x0:Int):Bool:=cG x0 0 1000000
def bFm:KK:=mB Tryz.func379 [.v (.int .i64)] [.bool] [lO] nP (X6,()) λ_=>bH pr
def bFn(x0:Int)(x1:Int)(x2:Int)(x3:Int):Prop:=((aX .i64 (x0-x1))/\((aX .i64 (x0-x1-x2))/\((aX .i64 ((x0-x1-x2)*x3))/\((aX .i64 ((x0-x1-x2)*x3*981))/\((jt ((x0-x1-x2)*x3*981) 100000)/\True)))))
def Jf(x0:Int)(x1:Int)(x2:Int)(x3:Int):Int:=EZ ((x0-x1-x2)*x3*981) 100000
def bFo:KK:=mB Tryz.func460 [.v (.int .i64),.v (.int .i64),.v (.int .i64),.v (.int .i64)] [.int .i64] [aLa] bFn (Jf,()) λ_=>aL<|aL<|aL<|aL<|aL pr
end
theorem UQ{t b r g:Int}(h:(-200000<=t-b-r/\t-b-r<=200000)/\1<=g/\g<=900):jt ((t-b-r)*g*981) 100000/\Jf t b r g=aBM t b r g/\Jf t b r g=tl ((t-b-r)*g*981) 100000 /\ -180000000<=(t-b-r)*g/\(t-b-r)*g<=180000000:=by
 have m:=mb (A:=200000) (B:=900) (a:=t-b-r) (b:=g) (by lia) (by lia);obtain⟨p,e⟩:=ju (a:=(t-b-r)*g*981) (b:=100000) (by lia) (by lia) (by lia);exact⟨p,e,aER (by lia),by lia,by lia⟩
def aLj{x:Int×Int×Int×Int×Unit}(v:q8 x=true){t b r g:Int}(n:Int)(ht:0<=t/\t<=100000)(hb:0<=b/\b<=100000)(hr:0<=r/\r<=100000)(hg:1<=g/\g<=900)(N:Nat)(hN:x.1+1<=(N:Int)) :
  bsW (λm=>decide (Jf (t+m) b r g>=n)) N (-1) (x.1+1)=BE x t b r g n:=by
 obtain⟨b1,b2⟩:=PF v;have e:BE x t b r g n=Me (λy=>Dz y t b r g n) (x.1+1-0).toNat 0 (x.1+1):=rfl;have ec:∀m:Int,0<=m->m<=x.1+1->Dz m t b r g n=decide (Jf (t+m) b r g>=n):=λm h0 h1=>by
  rw[(UQ (t:=t+m) (b:=b) (r:=r) (g:=g) ⟨by lia,hg⟩).2.1];rfl
 have bsc:∀(C D:Int->Bool) (k:Nat) (lo hi:Int),0<=lo->lo<=hi->hi<=x.1+1->(∀m,0<=m->m<=x.1+1->C m=D m)->Me C k lo hi=Me D k lo hi:=λC D k=>by
  induction k with
  | zero=>intros;rfl
  | succ k ih =>
   unfold Me
   grind
 rw[e,bsc _ (λm=>decide (Jf (t+m) b r g>=n)) _ 0 (x.1+1) (by lia) (by lia) (by lia) ec];refine(aXz _ (x.1+1) _ N (by lia) (by lia) hN λm m' h0 h1 h2 h3=>?_).symm;rw[(UQ (t:=t+m') (b:=b) (r:=r) (g:=g) ⟨by lia,hg⟩).2.2.1];rw[(UQ (t:=t+m) (b:=b) (r:=r) (g:=g) ⟨by lia,hg⟩).2.2.1]at h3;have h4:(t+m-b-r)*g<=(t+m'-b-r)*g:=Int.mul_le_mul_of_nonneg_right (by lia) (by lia);have:=yi (a:=(t+m-b-r)*g*981) (a':=(t+m'-b-r)*g*981) (b:=100000) (by lia) (by lia)
 lia
noncomputable section
def aXJ:gC:=D0 rz [.p gp,.v (.int .i64),.v (.int .i64),.v (.int .i64),.v (.int .i64),.v (.int .i64)] [.int .i64] [bFo]
mutual
def bFp:Nat->Int×Int×Int×Int×Unit->Int->Int->Int->Int->Int->Γ aS->Prop
 | 0,_,_,_,_,_,_,_=>False
 | n+1,x0,x1,x2,x3,x4,x5,ds=>aX .i64 (x0.1+1)/\Nc n (-1) (x0.1+1) x0 x1 x2 x3 x4 x5 ds
def Nc:Nat->Int->Int->Int×Int×Int×Int×Unit->Int->Int->Int->Int->Int->Γ aS->Prop
 | 0,_,_,_,_,_,_,_,_,_=>False
 | n+1,v13,v14,x0,x1,x2,x3,x4,x5,ds=>aX .i64 (v14-v13)/\if decide (v14-v13>1)then aX .i64 (v13+v14)/\aX .i64 (aQ (v13+v14) 2)/\aX .i64 (x1+aQ (v13+v14) 2)/\bFn (x1+aQ (v13+v14) 2) x2 x3 x4/\if decide (Jf (x1+aQ (v13+v14) 2) x2 x3 x4>=x5)then Nc n v13 (aQ (v13+v14) 2) x0 x1 x2 x3 x4 x5 ds else Nc n (aQ (v13+v14) 2) v14 x0 x1 x2 x3 x4 x5 ds else if decide (v14>x0.1)then ds=[aI (.int .i64) (-1)] else ds=[aI (.int .i64) v14]
end
def aXK(ds:Γ aS)(K:fG)(q:Nat->Value):∀n,(∀ {x0 x1 x2 x3 x4 x5},bFp n x0 x1 x2 x3 x4 x5 ds->St aXJ (x0,x1,x2,x3,x4,x5,()) ds [] K q)/\(∀ {v13 v14 x0 x1 x2 x3 x4 x5},Nc n v13 v14 x0 x1 x2 x3 x4 x5 ds->Cu aXJ 3 ([(0,.a (.ptr gp x0)),eI 1 x1,eI 2 x2,eI 3 x3,eI 4 x4,eI 5 x5,eI 13 v13,eI 14 v14],[]) ds [] K q):=nI ⟨aH,aH⟩ λn ⟨i,i3⟩=>⟨aL<|bX i3,
  aL<|bD (aL<|pw 2<|aL<|aL<|aL<|bD (bX i3)<|bX i3)<|bD cM cM⟩
abbrev aES:=Int×Int×Int×Int×Unit
def aET(x1 x2 x3 x4 x5 m:Int):Bool:=decide (Jf (x1+m) x2 x3 x4>=x5)
def aXL(x0:aES)(x1 x2 x3 x4 x5:Int):Int:=bsW (aET x1 x2 x3 x4 x5) 20002 (-1) (x0.1+1)
def Rz(x0:aES)(x1 x2 x3 x4 x5:Int):Int:=if aXL x0 x1 x2 x3 x4 x5>x0.1 then -1 else aXL x0 x1 x2 x3 x4 x5
def aOz(x0:aES)(x1 x2 x3 x4 x5:Int):Prop:=(1<=x0.1/\x0.1<=20000)/\(0<=x1/\x1<=100000)/\(0<=x2/\x2<=100000)/\(0<=x3/\x3<=100000)/\1<=x4/\x4<=900
def aXM(x0:aES)(x1 x2 x3 x4 x5:Int)(h:aOz x0 x1 x2 x3 x4 x5)(ds:Γ aS):∀(k:Nat) (lo e:Int), -1<=lo->lo<e->e<=x0.1+1->e-lo<=(k:Int)+1->ds=[⟨.int .i64,if bsW (aET x1 x2 x3 x4 x5) k lo e>x0.1 then -1 else bsW (aET x1 x2 x3 x4 x5) k lo e⟩]->Nc (k+1) lo e x0 x1 x2 x3 x4 x5 ds:=by
 obtain⟨h0,h1,h2,h3,h4⟩:=h;have fin:∀e:Int,ds=[⟨.int .i64,if e>x0.1 then -1 else e⟩]->(if decide (e>x0.1)=true then ds=[⟨.int .i64,(-1:Int)⟩] else ds=[⟨.int .i64,e⟩]):=λe he=>by
  lia
 intro k
 induction k with
 | zero =>
  intro lo e a b c d hd;rw[Nc,ν (by lia)];exact⟨by grind [aJ],fin e hd⟩
 | succ k ih =>
  intro lo e a b c d hd;rw[Nc];refine⟨by grind [aJ],?_⟩;unfold bsW at hd;by_cases q:e-lo>1
  ·obtain⟨m1,m2⟩:=aLd a q;rw[π q]at hd;obtain⟨p1,_,_,p4,p5⟩:=UQ (t:=x1+aQ (lo+e) 2) (b:=x2) (r:=x3) (g:=x4) ⟨by lia,h4⟩;refine(π (decide_eq_true q)).mpr ⟨by rw[aJ];lia,by grind [aJ],by rw[aJ];lia,⟨by rw[aJ];lia,by rw[aJ];lia,by grind [aJ],by grind [aJ],p1,trivial⟩,?_⟩;by_cases y:aET x1 x2 x3 x4 x5 (aQ (lo+e) 2)=true
   ·rw[π y]at hd;exact(π y).mpr (ih lo _ a m1 (by lia) (by lia) hd)
   ·rw[ν y]at hd;exact(ν y).mpr (ih _ e (by lia) m2 c (by lia) hd)
  lia
def bFq:KK:=mL aXJ (DO rz) aOz (Rz,()) (λ⟨x0,x1,x2,x3,x4,x5,_⟩ h hwf K q =>
 have h:aOz x0 x1 x2 x3 x4 x5:=h
 (aXK _ K q ((20002+1+1))).1 (by
  rw[bFp];exact⟨by rw[aJ];have:=h.1;omega,aXM x0 x1 x2 x3 x4 x5 h _ 20002 (-1) (x0.1+1) (by decide) (by have:=h.1;omega) (dX _) (by have:=h.1;omega) rfl⟩))
def aO0(x0:Int×Int×Int×Int×Unit)(x1:Int)(x2:Int)(x3:Int)(x4:Int)(x5:Int):Prop:=if !L9 x0 then True else if !E4 x1 then True else if !Nb x2 x3 x4 then True else if !X6 x5 then True else aOz x0 x1 x2 x3 x4 x5/\True
def X7(x0:Int×Int×Int×Int×Unit)(x1:Int)(x2:Int)(x3:Int)(x4:Int)(x5:Int):Int:=if !L9 x0 then 0 else if !E4 x1 then 0 else if !Nb x2 x3 x4 then 0 else if !X6 x5 then 0 else if decide (Rz x0 x1 x2 x3 x4 x5<0)then 0 else Rz x0 x1 x2 x3 x4 x5
def X8(x0:Int×Int×Int×Int×Unit)(x1:Int)(x2:Int)(x3:Int)(x4:Int)(x5:Int):Int:=if !L9 x0 then 1 else if !E4 x1 then 2 else if !Nb x2 x3 x4 then 2 else if !X6 x5 then 2 else if decide (Rz x0 x1 x2 x3 x4 x5<0)then 3 else 0
def bFr:KK:=mB Tryz.func271 [.v gp,.v (.int .i64),.v (.int .i64),.v (.int .i64),.v (.int .i64),.v (.int .i64)] [.int .i64,.int .i64] [aS9,aRu,bFl,bFm,bFq] aO0 (X7,X8,()) λ_=>bH<|dL pr<|bH<|dL (jM<|jM pr)<|bH<|dL (jM pr)<|bH<|dL pr<|aL<|vY pr pr
def aO1(x0:Γ b6):Prop:=((aX .i64 ((x0.length:Int)-1))/\((0<=(x0.length:Int)-1)/\((x0.length:Int)-1<(x0.length:Int))/\((0<(x0.length:Int))/\((aX .i64 ((aD x0 (aE ((x0.length:Int)-1)) (0,0,0,())).2.1-(aD x0 0 (0,0,0,())).2.1))/\((aX .i64 (1000*((aD x0 (aE ((x0.length:Int)-1)) (0,0,0,())).2.1-(aD x0 0 (0,0,0,())).2.1)))/\((0<(x0.length:Int))/\((aX .i64 ((aD x0 (aE ((x0.length:Int)-1)) (0,0,0,())).1-(aD x0 0 (0,0,0,())).1))/\((jt (1000*((aD x0 (aE ((x0.length:Int)-1)) (0,0,0,())).2.1-(aD x0 0 (0,0,0,())).2.1)) ((aD x0 (aE ((x0.length:Int)-1)) (0,0,0,())).1-(aD x0 0 (0,0,0,())).1))/\True))))))))
def Gn(x0:Γ b6):Int:=EZ (1000*((aD x0 (aE ((x0.length:Int)-1)) (0,0,0,())).2.1-(aD x0 0 (0,0,0,())).2.1)) ((aD x0 (aE ((x0.length:Int)-1)) (0,0,0,())).1-(aD x0 0 (0,0,0,())).1)
def bFs:KK:=mB Tryz.func461 [.v (.sl cZ)] [.int .i64] [aLa] aO1 (Gn,()) λ_=>aL<|cP<|pq 0<|aL<|aL<|aL<|pq 0<|aL<|aL<|aL pr
end
def aGF{xs:Γ I3}(hv:fW xs=true)(h:2<=xs.length):aO1 xs/\Gn xs=lH xs:=by
 obtain⟨hl,ha⟩:=PL hv;obtain⟨h1,h2⟩:=Wo ha;have hf:=Rk h2 (xs.length-2) (by lia);rw[show xs.length-2+1=xs.length-1 by lia]at hf;obtain⟨b1,b2,_⟩:=Kv (h1 0 (by lia));obtain⟨c1,c2,_⟩:=Kv (h1 (xs.length-1) (by lia));have en:aE ((xs.length:Int)-1)=xs.length-1:=by lia
 unfold aO1 Gn lH;rw[π hv,ν (by lia),en];obtain⟨p,e⟩:=ju (a:=1000*((xs.getD (xs.length-1) IF).2.1-(xs.getD 0 IF).2.1)) (b:=(xs.getD (xs.length-1) IF).1-(xs.getD 0 IF).1) (by lia) (by lia) (by lia);have i1:aX .i64 ((xs.getD (xs.length-1) IF).2.1-(xs.getD 0 IF).2.1):=by grind [aJ]
 have i2:aX .i64 (1000*((xs.getD (xs.length-1) IF).2.1-(xs.getD 0 IF).2.1)):=by grind [aJ]
 have i3:aX .i64 ((xs.getD (xs.length-1) IF).1-(xs.getD 0 IF).1):=by grind [aJ]
 exact⟨⟨by grind [aJ],by lia,by lia,by lia,i1,i2,by lia,i3,p,trivial⟩,e⟩
def aXN{l:Γ I3}(hv:fW l=true)(x:I3):aOa l x/\ji l x=JK l x/\AD l x=EC l x:=by
 obtain⟨hl,_⟩:=PL hv;have e1:w7 l=true:=(FL l).symm.trans hv;have e2:aPX l=l:=rfl;have e3:((l++[x]).length:Int)=l.length+1:=by simp
 unfold aOa ji AD JK EC;rw[<- aJA,fV, <- WZ]
 lia
noncomputable section
def aXO:gC:=D0 sa [.v (.sl cZ),.v (.int .i64)] [.int .i64] [bFs]
mutual
def aO2:Nat->Γ b6->Int->Γ aS->Prop
 | 0,_,_,_=>False
 | n+1,x0,x1,ds=>if decide ((x0.length:Int)<2)then ds=[aI (.int .i64) (-1)] else aX .i64 ((x0.length:Int)-1)/\0<=(x0.length:Int)-1/\(x0.length:Int)-1<(x0.length:Int)/\aO1 x0/\Jg n (aD x0 (aE ((x0.length:Int)-1)) (0,0,0,())).1 x1 x0 ds
def Jg:Nat->Int->Int->Γ b6->Γ aS->Prop
 | 0,_,_,_,_=>False
 | n+1,v7,x1,x0,ds=>if decide (v7<=36524)then aX .i64 (v7-(aD x0 (aE ((x0.length:Int)-1)) (0,0,0,())).1)/\aX .i64 (Gn x0*(v7-(aD x0 (aE ((x0.length:Int)-1)) (0,0,0,())).1))/\aX .i64 (aQ (Gn x0*(v7-(aD x0 (aE ((x0.length:Int)-1)) (0,0,0,())).1)) 1000)/\aX .i64 ((aD x0 (aE ((x0.length:Int)-1)) (0,0,0,())).2.1+aQ (Gn x0*(v7-(aD x0 (aE ((x0.length:Int)-1)) (0,0,0,())).1)) 1000)/\if decide ((aD x0 (aE ((x0.length:Int)-1)) (0,0,0,())).2.1+aQ (Gn x0*(v7-(aD x0 (aE ((x0.length:Int)-1)) (0,0,0,())).1)) 1000>=x1)then ds=[aI (.int .i64) v7] else aX .i64 (v7+1)/\Jg n (v7+1) x1 x0 ds else ds=[aI (.int .i64) (-1)]
end
def aXP(ds:Γ aS)(K:fG)(q:Nat->Value):∀n,(∀ {x0 x1},aO2 n x0 x1 ds->St aXO (x0,x1,()) ds [] K q)/\(∀ {v7 x1 x0},Jg n v7 x1 x0 ds->Cu aXO 6 ([eI 1 x1,(5,.a (.ptr cZ (aD x0 (aE ((x0.length:Int)-1)) (0,0,0,())))),eI 6 (Gn x0),eI 7 v7],[]) ds [] K q):=nI ⟨aH,aH⟩ λn ⟨i,i6⟩=>⟨bD cM<|aL<|cP<|aL<|bX i6,
  bD (aL<|aL<|pw 1000<|aL<|aL<|bD cM<|aL<|bX i6) cM⟩
def E5(x0:Γ b6)(x1:Int):Int:=if x0.length<2 then -1 else gw x0 x1
def aXQ(x0:Γ b6)(x1:Int):Prop:=fW x0=true
def aXR{x0:Γ b6}{x1:Int}(hb:WC x0)(eg:Gn x0=lH x0):∀(k:Nat) (d:Int),(mH x0).1<=d->d+k=36525->Jg (k+1) d x1 x0 [⟨.int .i64,kM x0 x1 k d⟩]:=by
 obtain⟨hl,hm,⟨a1,a2⟩,⟨b1,b2⟩,hg⟩:=hb;intro k
 induction k with
 | zero =>
  intro d hd hk;rw[Jg,ν (by lia)];rfl
 | succ k ih =>
  intro d hd hk;obtain⟨m1,m2,m3,m4⟩:=aJx hg (b:=d-(mH x0).1) (by lia);have hr:∀ds,Jg (k+1+1) d x1 x0 ds=((aX .i64 (d-(mH x0).1))/\((aX .i64 (lH x0*(d-(mH x0).1)))/\((aX .i64 (aQ (lH x0*(d-(mH x0).1)) 1000))/\((aX .i64 (j6 x0 d))/\(if decide (j6 x0 d>=x1)=true then(ds=([⟨.int .i64,d⟩]:Γ aS))else((aX .i64 (d+1))/\(Jg (k+1) (d+1) x1 x0 ds))))))):=λds=>by
   rw[Jg,π (by lia),eg];rfl
  rw[hr];have hv:aX .i64 (j6 x0 d):=by
   unfold j6;rw[aJ]
   lia
  refine⟨by grind [aJ],by grind [aJ],by grind [aJ],hv,?_⟩;have ef:kM x0 x1 (k+1) d=if j6 x0 d>=x1 then d else kM x0 x1 k (d+1):=rfl
  by_cases h:j6 x0 d>=x1
  ·lia
  ·grind [aJ]
def aXS(x0:Γ b6)(x1:Int)(hp:aXQ x0 x1):∃n,aO2 n x0 x1 [⟨.int .i64,E5 x0 x1⟩]:=by
 have hv:fW x0=true:=hp;have hl:=(wI hv).1;unfold E5;by_cases c:x0.length<2
 ·rw[π c];exact⟨1,by rw[aO2,π (by simp only[ε];omega)]⟩
 ·rw[ν c];obtain⟨p,e⟩:=aGF hv (by omega);have hB:=(ND x0).2.2.2 hv (by omega);have hB':=hB;obtain⟨_,_,⟨a1,a2⟩,_⟩:=hB';have:=aXR (x1:=x1) hB e (36525-(mH x0).1).toNat (mH x0).1 (dX _) (by omega);refine⟨(36525-(mH x0).1).toNat+1+1,?_⟩;rw[aO2,ν (by simp only[ε];omega)];exact⟨by rw[aJ];omega,by omega,by omega,p,this⟩
def bFt:KK:=mL aXO (DO sa) aXQ (E5,()) (λ⟨x0,x1,_⟩ h hwf K q =>
 let ⟨n,hn⟩:=aXS x0 x1 h
 (aXP _ K q n).1 hn)
def aO3(x0:Γ b6)(x1:Int)(x2:Int):Prop:=if !w7 x0 then True else if !Qy x1 then True else if !cG x2 1 1000 then True else if(x0.length:Int)==0 then True else aX .i64 ((x0.length:Int)-1)/\0<=(x0.length:Int)-1/\(x0.length:Int)-1<(x0.length:Int)/\aX .i64 ((aD x0 (aE ((x0.length:Int)-1)) (0,0,0,())).1+x2)/\aXQ x0 x1/\True
def SA(x0:Γ b6)(x1:Int)(x2:Int):Int:=if !w7 x0 then 0 else if !Qy x1 then 0 else if !cG x2 1 1000 then 0 else if(x0.length:Int)==0 then 0 else if decide (E5 x0 x1>=0)then Dt (Dt 36524 ((aD x0 (aE ((x0.length:Int)-1)) (0,0,0,())).1+x2)) (E5 x0 x1)else Dt 36524 ((aD x0 (aE ((x0.length:Int)-1)) (0,0,0,())).1+x2)
def X9(x0:Γ b6)(x1:Int)(x2:Int):Int:=if !w7 x0 then 1 else if !Qy x1 then 2 else if !cG x2 1 1000 then 2 else if(x0.length:Int)==0 then 3 else if decide (E5 x0 x1>=0)then 0 else 0
def bFu:KK:=mB Tryz.func272 [.v (.sl cZ),.v (.int .i64),.v (.int .i64)] [.int .i64,.int .i64] [aMW,aQj,lO,aQq,bFt] aO3 (SA,X9,()) λ_=>bH<|dL pr<|bH<|dL (jM pr)<|bH<|dL pr<|dL pr<|aL<|cP<|aL<|bH<|aL<|vY (bH pr) pr
def aO4(x0:Int):Prop:=if !MV x0 then True else je x0/\True
def Xa(x0:Int):Δ:=if !MV x0 then aA #[] else NN x0
def bFv:KK:=mB Tryz.func273 [.v (.int .i64)] [.str] [aIW,aRf] aO4 (Xa,()) λ_=>bH<|lT pr<|aL pr
def aXT(x0:Int):Prop:=if !bE x0 0 3 then True else 0<=x0/\x0<4/\True
def sC(x0:Int):Δ:=if !bE x0 0 3 then aA #[] else aD [aA #[115,104,117,116],aA #[111,112,101,110,105,110,103],aA #[111,112,101,110],aA #[115,104,117,116,116,105,110,103]] (aE x0) aC
def bFw:KK:=mB Tryz.func325 [.v (.int .i64)] [.str] [lF] aXT (sC,()) λ_=>bH<|lT pr<|cP pr
def aXU(x0:b6):Prop:=if !iF x0 then True else aXT x0.1/\aG (sC x0.1)+1<=9223372036854775807/\DH x0.2.1/\aG (sC x0.1++aA #[47])+aG (dA x0.2.1)<=9223372036854775807/\aG (sC x0.1++aA #[47]++dA x0.2.1)+1<=9223372036854775807/\DH x0.2.2.1/\aG (sC x0.1++aA #[47]++dA x0.2.1++aA #[47])+aG (dA x0.2.2.1)<=9223372036854775807/\True
def AG(x0:b6):Δ:=if !iF x0 then aA #[] else sC x0.1++aA #[47]++dA x0.2.1++aA #[47]++dA x0.2.2.1
def bFx:KK:=mB Tryz.func220 [.v cZ] [.str] [aJ4,bFw,PA] aXU (AG,()) λ_=>bH<|lT pr<|aL<|aL<|aL<|aL<|aL<|aL<|aL pr
def cU(x0:Δ):Δ:=if aB x0==aB (aA #[98,97,115,105,110])then aA #[116] else if aB x0==aB (aA #[98,101,110,100])then aA #[116] else if aB x0==aB (aA #[102,97,114,101])then aA #[116] else if aB x0==aB (aA #[104,101,108,112,101,114])then aA #[116] else if aB x0==aB (aA #[104,111,117,114])then aA #[116] else if aB x0==aB (aA #[109,111,116,111,114])then aA #[116] else if aB x0==aB (aA #[114,111,112,101])then aA #[116] else if aB x0==aB (aA #[116,97,115,107])then aA #[116] else if aB x0==aB (aA #[116,101,115,116])then aA #[116] else if aB x0==aB (aA #[119,111,114,107,101,114])then aA #[116] else if aB x0==aB (aA #[101,118,101,110,116])then aA #[110] else if aB x0==aB (aA #[114,101,115,101,114,118,101])then aA #[110] else if aB x0==aB (aA #[115,108,111,119,101,115,116])then aA #[110] else if aB x0==aB (aA #[99,111,118,101,114])then aA #[110,110] else if aB x0==aB (aA #[100,117,101])then aA #[110,110] else if aB x0==aB (aA #[112,111,119,101,114])then aA #[110,110] else if aB x0==aB (aA #[108,105,109,105,116])then aA #[110,110,110] else if aB x0==aB (aA #[119,97,116,101,114])then aA #[110,110,110,110,110] else if aB x0==aB (aA #[116,114,105,112,115])then aA #[108] else if aB x0==aB (aA #[118,111,116,101])then aA #[108,110] else if aB x0==aB (aA #[113,117,101,117,101])then aA #[97,110,110] else aA #[]
def aRv:KK:=mB Tryz.func113 [.v (.str)] [.str] [] nP (cU,()) λ_=>dS pr<|dS pr<|dS pr<|dS pr<|dS pr<|dS pr<|dS pr<|dS pr<|dS pr<|dS pr<|dS pr<|dS pr<|dS pr<|dS pr<|dS pr<|dS pr<|dS pr<|dS pr<|dS pr<|dS pr<|dS pr pr
def aO5(x0:Δ)(x1:Int):Prop:=((aGq x0 (aA #[32]))/\((ik (eD x0 (aA #[32])))/\True))
def Ch(x0:Δ)(x1:Int):Δ:=iV x0 (aA #[32])
def gL(x0:Δ)(x1:Int):Γ Int:=fK (eD x0 (aA #[32]))
def Ci(x0:Δ)(x1:Int):Bool:=(↑(aF (fK (eD x0 (aA #[32])))):Int)==x1
def aRw:KK:=mB Tryz.func298 [.v (.str),.v (.int .i64)] [.str,.sl Za,.bool] [aEi,aKc] aO5 (Ch,gL,Ci,()) λ_=>aL<|aL pr
def aO6(x0:dO):Prop:=if !oX x0 then True else aG x0.1+1<=9223372036854775807/\aG (x0.1++aA #[32])+aG (hJ [x0.2.1,x0.2.2.1,x0.2.2.2.1])<=9223372036854775807/\True
def Nd(x0:dO):Δ:=if !oX x0 then aA #[] else x0.1++aA #[32]++hJ [x0.2.1,x0.2.2.1,x0.2.2.2.1]
def bFy:KK:=mB Tryz.func299 [.v eC] [.str] [aQ9,xk] aO6 (Nd,()) λ_=>bH<|lT pr<|aL<|bH<|aL pr
def aO7(x0:Δ):Prop:=((aO5 x0 3)/\(if(!Ci x0 3)=true then True else((0<(↑(aF (gL x0 3)):Int))/\((1<(↑(aF (gL x0 3)):Int))/\((2<(↑(aF (gL x0 3)):Int))/\((aO6 (Ch x0 3,aD (gL x0 3) 0 0,aD (gL x0 3) 1 0,aD (gL x0 3) 2 0,()))/\True))))))
def lV(x0:Δ):dO:=if !Ci x0 3 then(aC,0,0,0,())else if !aB (Nd (Ch x0 3,aD (gL x0 3) 0 0,aD (gL x0 3) 1 0,aD (gL x0 3) 2 0,()))==aB x0 then(aC,0,0,0,())else(Ch x0 3,aD (gL x0 3) 0 0,aD (gL x0 3) 1 0,aD (gL x0 3) 2 0,())
def yF(x0:Δ):Bool:=if !Ci x0 3 then false else if !aB (Nd (Ch x0 3,aD (gL x0 3) 0 0,aD (gL x0 3) 1 0,aD (gL x0 3) 2 0,()))==aB x0 then false else true
def bFz:KK:=mB Tryz.func197 [.v (.str)] [.cons .str cZ,.bool] [aRw,bFy] aO7 (lV,yF,()) λ_=>aL<|dL pr<|pq 0<|aL<|pq 1<|aL<|pq 2<|aL<|aL<|vY pr pr
end
end Go.Proofs.YtbaoaedmbhpolaaGreatDoor
set_option maxRecDepth 100000
namespace Go.Proofs.YtbaoaedmbhpolaaGreatDoor
open Go Go.Am Go.Proofs
noncomputable section
def aLk(x0:bP):Prop:=if !qZ x0 then True else aG x0.1+1<=9223372036854775807/\aJE x0.2.1/\aG (x0.1++aA #[32])+aG (EF x0.2.1)<=9223372036854775807/\aG (x0.1++aA #[32]++EF x0.2.1)+1<=9223372036854775807/\aJE x0.2.2.1/\aG (x0.1++aA #[32]++EF x0.2.1++aA #[32])+aG (EF x0.2.2.1)<=9223372036854775807/\True
def Cj(x0:bP):Δ:=if !qZ x0 then aA #[] else x0.1++aA #[32]++EF x0.2.1++aA #[32]++EF x0.2.2.1
def bF0:KK:=mB Tryz.func305 [.v c8] [.str] [aQ4,bDc] aLk (Cj,()) λ_=>bH<|lT pr<|aL<|aL<|aL<|aL<|aL<|aL pr
def aGG(x0:Δ):Prop:=((xi x0 (aA #[32]))/\(if((↑(aF (aW x0 (aA #[32]))):Int) != 3)=true then True else((0<(↑(aF (aW x0 (aA #[32]))):Int))/\((1<(↑(aF (aW x0 (aA #[32]))):Int))/\((aJF (aD (aW x0 (aA #[32])) 1 aC))/\((2<(↑(aF (aW x0 (aA #[32]))):Int))/\((aJF (aD (aW x0 (aA #[32])) 2 aC))/\((aLk (aD (aW x0 (aA #[32])) 0 aC,q9 (aD (aW x0 (aA #[32])) 1 aC),q9 (aD (aW x0 (aA #[32])) 2 aC),()))/\True))))))))
def lJ(x0:Δ):bP:=if(↑(aF (aW x0 (aA #[32]))):Int) != 3 then(aC,0,0,())else if !aB (Cj (aD (aW x0 (aA #[32])) 0 aC,q9 (aD (aW x0 (aA #[32])) 1 aC),q9 (aD (aW x0 (aA #[32])) 2 aC),()))==aB x0 then(aC,0,0,())else(aD (aW x0 (aA #[32])) 0 aC,q9 (aD (aW x0 (aA #[32])) 1 aC),q9 (aD (aW x0 (aA #[32])) 2 aC),())
def wM(x0:Δ):Bool:=if(↑(aF (aW x0 (aA #[32]))):Int) != 3 then false else if !aB (Cj (aD (aW x0 (aA #[32])) 0 aC,q9 (aD (aW x0 (aA #[32])) 1 aC),q9 (aD (aW x0 (aA #[32])) 2 aC),()))==aB x0 then false else true
def bF1:KK:=mB Tryz.func200 [.v (.str)] [.cons .str Ti,.bool] [co,bDe,bF0] aGG (lJ,wM,()) λ_=>aL<|dL pr<|pq 0<|aL<|pq 1<|aL<|aL<|pq 2<|aL<|aL<|aL<|vY pr pr
def aO8(x0:dO):Prop:=if !s8 x0 then True else aG x0.1+1<=9223372036854775807/\aG (x0.1++aA #[32])+aG (hJ [x0.2.1,x0.2.2.1,x0.2.2.2.1])<=9223372036854775807/\True
def Nf(x0:dO):Δ:=if !s8 x0 then aA #[] else x0.1++aA #[32]++hJ [x0.2.1,x0.2.2.1,x0.2.2.2.1]
def bF2:KK:=mB Tryz.func309 [.v eC] [.str] [aQ7,xk] aO8 (Nf,()) λ_=>bH<|lT pr<|aL<|bH<|aL pr
def aO9(x0:Δ):Prop:=((aO5 x0 3)/\(if(!Ci x0 3)=true then True else((0<(↑(aF (gL x0 3)):Int))/\((1<(↑(aF (gL x0 3)):Int))/\((2<(↑(aF (gL x0 3)):Int))/\((aO8 (Ch x0 3,aD (gL x0 3) 0 0,aD (gL x0 3) 1 0,aD (gL x0 3) 2 0,()))/\True))))))
def lX(x0:Δ):dO:=if !Ci x0 3 then(aC,0,0,0,())else if !aB (Nf (Ch x0 3,aD (gL x0 3) 0 0,aD (gL x0 3) 1 0,aD (gL x0 3) 2 0,()))==aB x0 then(aC,0,0,0,())else(Ch x0 3,aD (gL x0 3) 0 0,aD (gL x0 3) 1 0,aD (gL x0 3) 2 0,())
def yG(x0:Δ):Bool:=if !Ci x0 3 then false else if !aB (Nf (Ch x0 3,aD (gL x0 3) 0 0,aD (gL x0 3) 1 0,aD (gL x0 3) 2 0,()))==aB x0 then false else true
def bF3:KK:=mB Tryz.func203 [.v (.str)] [.cons .str cZ,.bool] [aRw,bF2] aO9 (lX,yG,()) λ_=>aL<|dL pr<|pq 0<|aL<|pq 1<|aL<|pq 2<|aL<|aL<|vY pr pr
def aXV:gC:=D0 sb [.v (.int .i64)] [.str] [aJd,aEr]
mutual
def aLl:Nat->Int->Γ aS->Prop
 | 0,_,_=>False
 | n+1,x0,ds=>if !Iz x0 then ds=[aI .str (aA #[])] else if x0==0 then ds=[aI .str (aA #[110,111,110,101])] else Ng n 0 ([]) x0 ds
def Ng:Nat->Int->Γ Δ->Int->Γ aS->Prop
 | 0,_,_,_,_=>False
 | n+1,v13,h0,x0,ds=>if decide (v13<3)then 0<=v13/\v13<3/\0<=v13/\aX .i64 (cQ x0 (2^yX (aE v13) 64))/\if mT eN (↑(yQ (fY 64 (cQ x0 (2^yX (aE v13) 64)) &&& fY 64 1)):Int)==1 then(aF h0+1)*16<=140737488355328/\aX .i64 (v13+1)/\Ng n (v13+1) (h0++[aD [aA #[114,111,112,101],aA #[102,105,114,115,116],aA #[114,97,100,105,111]] (aE v13) aC]) x0 ds else aX .i64 (v13+1)/\Ng n (v13+1) h0 x0 ds else ZC h0 (aA #[43])/\ds=[aI .str (rA h0 (aA #[43]))]
end
def aXW(ds:Γ aS)(K:fG)(q:Nat->Value):∀n,(∀ {x0},aLl n x0 ds->St aXV (x0,()) ds [] K q)/\(∀ {v13 h0 x0},Ng n v13 h0 x0 ds->Cu aXV 7 ([eI 0 x0,eW 3 0,eW 11 1,eI 12 3,eI 13 v13],[cL .str h0,cL .str [aA #[114,111,112,101],aA #[102,105,114,115,116],aA #[114,97,100,105,111]]]) ds [] K q):=nI ⟨aH,aH⟩ λn ⟨i,i7⟩=>⟨bH<|bD cM<|bD cM<|Dr [(3,.str)] i7,
  bD (cP<|cP<|bD (aL<|aL<|Dr [(3,.str)] i7)<|aL<|Dr [(3,.str)] i7)<|aL cM⟩
def LA(x0:Int):Nat->Nat->Γ Δ
 | 0,_=>[]
 | k+1,i=>if aKJ x0 i=true then aRl.getD i aC::LA x0 k (i+1)else LA x0 k (i+1)
def SB(x0:Int):Δ:=if !Iz x0 then aA #[] else if x0==0 then aA #[110,111,110,101] else rA (LA x0 3 0) (aA #[43])
def aGH{x0:Int}(h:Iz x0=true):0<=x0/\x0<=7:=by
 unfold Iz bE at h
 lia
def aXX{x0:Int}(h1:0<=x0)(h2:x0<=7)(i:Nat):aX .i64 (cQ x0 (2^yX i 64)):=by
 have hp:(0:Int)<2^yX i 64:=aAF (by lia);rw[aJ];have:=Hs h1 (Int.le_of_lt hp);have:=Fb (2^yX i 64) h1
 lia
def aXY(x0:Int)(h1:0<=x0)(h2:x0<=7)(T:Γ Δ)(hT:ZC T (aA #[43])):∀(k i:Nat) (h0:Γ Δ),i+k=3->h0++LA x0 k i=T->h0.length<=i->Ng (k+1) (i:Int) h0 x0 [⟨.str,rA T (aA #[43])⟩]:=by
 intro k
 induction k with
 | zero =>
  intro i h0 hi hh hl;rw[LA,dN]at hh;rw[Ng]
  lia
 | succ k ih =>
  intro i h0 hi hh hl;have e3:(i:Int)+1=((i+1:Nat):Int):=by lia
  rw[LA]at hh;rw[Ng,π (by lia)];refine⟨by lia,by lia,by lia,aXX h1 h2 i,?_⟩;by_cases c:aKJ x0 i=true
  ·exact(π c).mpr ⟨by lia,by grind [aJ],ih (i+1) _ (by lia) (by grind) (by grind)⟩
  ·rw[ν c]at hh;exact(ν c).mpr ⟨by grind [aJ],ih (i+1) _ (by lia) hh (by lia)⟩
def aXZ:∀(b0 b1 b2:Bool),ZC ((if b0=true then aRl.getD 0 aC::(if b1=true then aRl.getD 1 aC::(if b2=true then [aRl.getD 2 aC] else [])else(if b2=true then [aRl.getD 2 aC] else []))else(if b1=true then aRl.getD 1 aC::(if b2=true then [aRl.getD 2 aC] else [])else(if b2=true then [aRl.getD 2 aC] else [])))) (aA #[43]):=by
 intro b0 b1 b2;cases b0 <;> cases b1 <;> cases b2 <;> exact⟨by simp,by decide⟩
def aYa(x0:Int):∃n,aLl n x0 [⟨.str,SB x0⟩]:=by
 unfold SB;by_cases c:(!Iz x0)=true
 ·exact⟨1,by rw[aLl,π c,π c]⟩
 ·obtain⟨h1,h2⟩:=aGH (x0:=x0) (by lia);by_cases d:(x0==0)=true
  ·exact⟨1,by rw[aLl,ν c,π d,ν c,π d]⟩
  ·refine⟨5,?_⟩;rw[aLl,ν c,ν d,ν c,ν d];exact aXY x0 h1 h2 _ (aXZ (aKJ x0 0) (aKJ x0 1) (aKJ x0 2)) 3 0 [] rfl rfl (aU _)
def bF4:KK:=mL aXV (DO sb) nP (SB,()) (λ⟨x0,_⟩ h hwf K q =>
 let ⟨n,hn⟩:=aYa x0
 (aXW _ K q n).1 hn)
def aYb:gC:=D0 sd [.v (.str)] [.int .i64,.bool] [bF4]
mutual
def bF5:Nat->Δ->Γ aS->Prop
 | 0,_,_=>False
 | n+1,x0,ds=>SC n 0 x0 ds
def SC:Nat->Int->Δ->Γ aS->Prop
 | 0,_,_,_=>False
 | n+1,v5,x0,ds=>if decide (v5<8)then(if aB (SB v5)==aB x0 then ds=[aI (.int .i64) v5,aI .bool true] else aX .i64 (v5+1)/\SC n (v5+1) x0 ds)else ds=[aI (.int .i64) 0,aI .bool false]
end
def aYc(ds:Γ aS)(K:fG)(q:Nat->Value):∀n,(∀ {x0},bF5 n x0 ds->St aYb (x0,()) ds [] K q)/\(∀ {v5 x0},SC n v5 x0 ds->Cu aYb 2 ([eS 0 x0,eI 5 v5],[]) ds [] K q):=nI ⟨aH,aH⟩ λn ⟨i,i2⟩=>⟨bX i2,
  bD (bH<|bD cM<|aL<|bX i2) cM⟩
def aLm(x0:Δ)(v:Int):Bool:=aB (SB v)==aB x0
def TW(x0:Δ):Nat->Int->Int×Bool
 | 0,_=>(0,false)
 | k+1,v=>if aLm x0 v=true then(v,true)else TW x0 k (v+1)
def kc(x0:Δ):Int:=(TW x0 8 0).1
def SD(x0:Δ):Bool:=(TW x0 8 0).2
def aYd(x0:Δ):∀(k:Nat) (v:Int),v+(k:Int)=8->0<=v->SC (k+1) v x0 [⟨.int .i64,(TW x0 k v).1⟩,⟨.bool,(TW x0 k v).2⟩]:=by
 intro k
 induction k with
 | zero =>
  intro v hv h0;rw[SC,ν (by lia)];rfl
 | succ k ih =>
  intro v hv h0;rw[SC,π (by lia),TW];by_cases c:aLm x0 v=true
  ·rw[π c];exact(π c).mpr rfl
  ·rw[ν c];exact(ν c).mpr ⟨by grind [aJ],ih (v+1) (by lia) (by lia)⟩
def bF6:KK:=mL aYb (DO sd) nP (kc,SD,()) (λ⟨x0,_⟩ h hwf K q =>
 (aYc _ K q 10).1 (by rw[bF5];exact aYd x0 8 0 rfl (dX _)))
def aOA(x0:Δ):Prop:=((xi x0 (aA #[32]))/\(if((↑(aF (aW x0 (aA #[32]))):Int) != 3)=true then True else((1<(↑(aF (aW x0 (aA #[32]))):Int))/\((2<(↑(aF (aW x0 (aA #[32]))):Int))/\((aKb (aD (aW x0 (aA #[32])) 2 aC))/\((0<(↑(aF (aW x0 (aA #[32]))):Int))/\True))))))
def Gp(x0:Δ):Δ:=if(↑(aF (aW x0 (aA #[32]))):Int) != 3 then aA #[] else if SD (aD (aW x0 (aA #[32])) 1 aC)then aD (aW x0 (aA #[32])) 0 aC else aD (aW x0 (aA #[32])) 0 aC
def Gr(x0:Δ):Int:=if(↑(aF (aW x0 (aA #[32]))):Int) != 3 then 0 else if SD (aD (aW x0 (aA #[32])) 1 aC)then kc (aD (aW x0 (aA #[32])) 1 aC)else kc (aD (aW x0 (aA #[32])) 1 aC)
def Gt(x0:Δ):Int:=if(↑(aF (aW x0 (aA #[32]))):Int) != 3 then 0 else if SD (aD (aW x0 (aA #[32])) 1 aC)then gG (aD (aW x0 (aA #[32])) 2 aC)else gG (aD (aW x0 (aA #[32])) 2 aC)
def Nh(x0:Δ):Bool:=if(↑(aF (aW x0 (aA #[32]))):Int) != 3 then false else if SD (aD (aW x0 (aA #[32])) 1 aC)then gK (aD (aW x0 (aA #[32])) 2 aC)else false
def aRx:KK:=mB Tryz.func313 [.v (.str)] [.str,.int .i64,.int .i64,.bool] [co,bF6,aEq] aOA (Gp,Gr,Gt,Nh,()) λ_=>aL<|bAi pr<|pq 1<|aL<|bH<|pq 2<|aL<|aL<|pq 0<|aL<|pe4 pr pr
def aYe(x0:Δ):Prop:=((aOA x0)/\True)
def lK(x0:Δ):bP:=if !Nh x0 then(aC,0,0,())else if !xY (Gp x0,Gr x0,Gt x0,())then(aC,0,0,())else(Gp x0,Gr x0,Gt x0,())
def wN(x0:Δ):Bool:=if !Nh x0 then false else if !xY (Gp x0,Gr x0,Gt x0,())then false else true
def bF7:KK:=mB Tryz.func206 [.v (.str)] [.cons .str Ti,.bool] [aRx,aQz] aYe (lK,wN,()) λ_=>aL<|vY (jM pr)<|bH<|vY pr pr
def bF8:KK:=mB Tryz.func209 [.v (.str)] [.cons .str Ti,.bool] [aRx,aQ1] aYe (lK,wN,()) λ_=>aL<|vY (jM pr)<|bH<|vY pr pr
def aOB(x0:Δ):Prop:=((xl x0 3)/\(if(!kN x0 3)=true then True else((0<(↑(aF (cT x0 3)):Int))/\((1<(↑(aF (cT x0 3)):Int))/\((2<(↑(aF (cT x0 3)):Int))/\True)))))
def o6(x0:Δ):b6:=if !kN x0 3 then(0,0,0,())else if !xW (aD (cT x0 3) 0 0,aD (cT x0 3) 1 0,aD (cT x0 3) 2 0,())then(0,0,0,())else(aD (cT x0 3) 0 0,aD (cT x0 3) 1 0,aD (cT x0 3) 2 0,())
def AH(x0:Δ):Bool:=if !kN x0 3 then false else if !xW (aD (cT x0 3) 0 0,aD (cT x0 3) 1 0,aD (cT x0 3) 2 0,())then false else true
def bF9:KK:=mB Tryz.func212 [.v (.str)] [.cons Za Ti,.bool] [xm,aQv] aOB (o6,AH,()) λ_=>aL<|dL pr<|pq 0<|aL<|pq 1<|aL<|pq 2<|aL<|bH<|vY pr pr
def aOC(x0:Δ):Prop:=((xl x0 4)/\(if(!kN x0 4)=true then True else((0<(↑(aF (cT x0 4)):Int))/\((1<(↑(aF (cT x0 4)):Int))/\((2<(↑(aF (cT x0 4)):Int))/\((3<(↑(aF (cT x0 4)):Int))/\True))))))
def Jh(x0:Δ):Int×Int×Int×Int×Unit:=if !kN x0 4 then(0,0,0,0,())else if !wF (aD (cT x0 4) 0 0,aD (cT x0 4) 1 0,aD (cT x0 4) 2 0,aD (cT x0 4) 3 0,())then(0,0,0,0,())else(aD (cT x0 4) 0 0,aD (cT x0 4) 1 0,aD (cT x0 4) 2 0,aD (cT x0 4) 3 0,())
def Gu(x0:Δ):Bool:=if !kN x0 4 then false else if !wF (aD (cT x0 4) 0 0,aD (cT x0 4) 1 0,aD (cT x0 4) 2 0,aD (cT x0 4) 3 0,())then false else true
def bFA:KK:=mB Tryz.func216 [.v (.str)] [.cons Za cZ,.bool] [xm,aJ6] aOC (Jh,Gu,()) λ_=>aL<|dL pr<|pq 0<|aL<|pq 1<|aL<|pq 2<|aL<|pq 3<|aL<|bH<|vY pr pr
def Ji(x0:Δ):b6:=if !kN x0 3 then(0,0,0,())else if !rX (aD (cT x0 3) 0 0,aD (cT x0 3) 1 0,aD (cT x0 3) 2 0,())then(0,0,0,())else(aD (cT x0 3) 0 0,aD (cT x0 3) 1 0,aD (cT x0 3) 2 0,())
def Gv(x0:Δ):Bool:=if !kN x0 3 then false else if !rX (aD (cT x0 3) 0 0,aD (cT x0 3) 1 0,aD (cT x0 3) 2 0,())then false else true
def bFB:KK:=mB Tryz.func217 [.v (.str)] [.cons Za Ti,.bool] [xm,aJ7] aOB (Ji,Gv,()) λ_=>aL<|dL pr<|pq 0<|aL<|pq 1<|aL<|pq 2<|aL<|bH<|vY pr pr
def Jj(x0:Δ):Int×Int×Int×Int×Unit:=if !kN x0 4 then(0,0,0,0,())else if !q8 (aD (cT x0 4) 0 0,aD (cT x0 4) 1 0,aD (cT x0 4) 2 0,aD (cT x0 4) 3 0,())then(0,0,0,0,())else(aD (cT x0 4) 0 0,aD (cT x0 4) 1 0,aD (cT x0 4) 2 0,aD (cT x0 4) 3 0,())
def Gw(x0:Δ):Bool:=if !kN x0 4 then false else if !q8 (aD (cT x0 4) 0 0,aD (cT x0 4) 1 0,aD (cT x0 4) 2 0,aD (cT x0 4) 3 0,())then false else true
def bFC:KK:=mB Tryz.func218 [.v (.str)] [.cons Za cZ,.bool] [xm,aJz] aOC (Jj,Gw,()) λ_=>aL<|dL pr<|pq 0<|aL<|pq 1<|aL<|pq 2<|aL<|pq 3<|aL<|bH<|vY pr pr
end
def aYg:Γ AT:=[nV (sM eC)]
def aYh(x0:Γ dO):Prop:=x0.length<=1048576
def bFD:Am.Spec:={ sig:=aYg,pre:=λ⟨x0,_⟩=>aYh x0,res:=λ⟨x0,_⟩=>[⟨sM eC,aPW x0⟩] }
def aYi:Th 120 bFD:=Ay Tryz.func120<|q6 (Ah 41) rfl rfl (by decide) (by decide) x6.1 uI.1
def aRy:KK:=⟨120,bFD,aYi⟩
def aYj:Ox aN (lQ qA (lQ (mX eN) (lQ (mX eN) (lQ (mX eN) LL)))) 41 154 401 4:=Ox.of (Ah 41) rfl rfl (by decide) (by decide) (by decide) eR Tryz.func401 (by kernel_rfl) (by kernel_rfl) (by kernel_rfl) (by kernel_rfl)
def aYk:Ox aN (lQ qA (lQ (mX eN) (lQ (mX eN) LL))) 47 164 405 3:=Ox.of (Ah 47) rfl rfl (by decide) (by decide) (by decide) eR Tryz.func405 (by kernel_rfl) (by kernel_rfl) (by kernel_rfl) (by kernel_rfl)
def aYl:Ox aN (lQ qA (lQ (mX eN) (lQ (mX eN) (lQ (mX eN) LL)))) 49 166 407 4:=Ox.of (Ah 49) rfl rfl (by decide) (by decide) (by decide) eR Tryz.func407 (by kernel_rfl) (by kernel_rfl) (by kernel_rfl) (by kernel_rfl)
def aYm:Ox aN (lQ qA (lQ (mX eN) (lQ (mX eN) LL))) 51 172 410 3:=Ox.of (Ah 51) rfl rfl (by decide) (by decide) (by decide) eR Tryz.func410 (by kernel_rfl) (by kernel_rfl) (by kernel_rfl) (by kernel_rfl)
def aYn:Ox aN (lQ qA (lQ (mX eN) (lQ (mX eN) LL))) 52 174 412 3:=Ox.of (Ah 52) rfl rfl (by decide) (by decide) (by decide) eR Tryz.func412 (by kernel_rfl) (by kernel_rfl) (by kernel_rfl) (by kernel_rfl)
open Go.RowKit in
set_option maxHeartbeats 8000000 in
def Xc:aBF aN 303 41 154 4 /\ aBF aN 308 47 164 3 /\ aBF aN 312 49 166 4 /\ aBF aN 316 51 172 3 /\ aBF aN 319 52 174 3:=by
  refine⟨?_, ?_, ?_, ?_, ?_⟩ <;>
  (intro w m b off cap vb voff vcap i0 vs hu hi0 hz1 hcapm hroom hsrc R1 R2
   have mixed:=mixed
   first | go_enter Bl, En | go_enter Bm, Eo | go_enter Bn, Ep | go_enter Bo, Er | go_enter Bp, Es
   go_wp2_with (at_builtin; refine wpList_append_room_src _ rfl _ _ _ _ rfl _ i0 hu hi0 b off m cap rfl _ rfl 1 vs hsrc hroom R1.out R2.out ?_)
   go_ret
   exact⟨rfl, 0, rfl⟩)
open Go.RowKit in
set_option maxHeartbeats 8000000 in
def PU:Vt aN 303 41 154 /\ Vt aN 308 47 164 /\ Vt aN 312 49 166 /\ Vt aN 316 51 172 /\ Vt aN 319 52 174:=by
  refine⟨?_, ?_, ?_, ?_, ?_⟩ <;>
  (intro w m ad cap vb voff vcap G ROW hnil hlen hroom hmax hge hgm hrun
   have mixed:=mixed
   first | go_enter Bl, En | go_enter Bm, Eo | go_enter Bn, Ep | go_enter Bo, Er | go_enter Bp, Es
   cases ad with
   | none =>
     have h0:=hnil rfl;subst h0
     go_wp2_with (at_builtin; refine zG _ rfl _ _ _ _ rfl _ _ rfl rfl _ _ (hrun _) ?_)
     go_ret
     exact⟨rfl, rfl⟩
   | some a =>
     obtain⟨ab, ao, asp⟩:=a
     go_wp2_with (at_builtin; refine zG _ rfl _ _ _ _ rfl _ _ rfl rfl _ _ (hrun _) ?_)
     all_goals (go_ret; exact⟨rfl, rfl⟩))
open Go.RowKit in
set_option maxHeartbeats 8000000 in
def Jk:M7 aN 303 41 401 4 /\ M7 aN 308 47 405 3 /\ M7 aN 312 49 407 4 /\ M7 aN 316 51 410 3 /\ M7 aN 319 52 412 3:=by
  refine⟨?_, ?_, ?_, ?_, ?_⟩ <;>
  (intro w m b off cap vb voff vcap i vs ds W1 hi hroom hcapm N hov hcp1 hcp2
   have hz2 : ¬((i:Int) = (m:Int)):=by omega
   have hw1:eN.wrap ((i:Int)+1) = (i:Int)+1:=by unfold maxLen at hcapm; rw[uR]; omega
   have hw2:eN.wrap ((m:Int)+1) = (m:Int)+1:=by unfold maxLen at hcapm; rw[uR]; omega
   have hb1:(0:Int)<=(i:Int)+1:=by omega
   have hin:i<=m:=by omega
   have htn:((i:Int)+1).toNat = i+1:=by omega
   have htn2:((m:Int)+1).toNat = m+1:=by omega
   have hb2 : ¬(cap = i+1):=by omega
   have hb3:(i:Int)<=(m:Int)+1:=by omega
   have hb4 : ¬(cap = i):=by omega
   have hb5 : ¬((cap:Int)<(m:Int)+1):=by omega
   have mixed:=mixed
   first | go_enter Bl, En | go_enter Bm, Eo | go_enter Bn, Ep | go_enter Bo, Er | go_enter Bp, Es
   go_wp2_with (simp only[hov])
   go_region_law_o (refine scp rfl _ _ _ _ rfl _ _ (by simp[Yk, LJ]) (by simp[Yk, LJ]) (hcp1 _ _ _) ?_)
   go_wp2_with (at_builtin; refine lcp _ rfl _ _ _ _ rfl _ _ rfl rfl (hcp2 _ (λ_=>rfl) (λ_=>rfl) _ _) ?_)
   go_ret
   exact⟨rfl, 1, by rw[N.out]; rfl⟩)
open Go.RowKit in
set_option maxHeartbeats 8000000 in
def PW:Vu aN 303 41 154 4 /\ Vu aN 308 47 164 3 /\ Vu aN 312 49 166 4 /\ Vu aN 316 51 172 3 /\ Vu aN 319 52 174 3:=by
  refine⟨?_, ?_, ?_, ?_, ?_⟩ <;>
  (intro w m b off cap vb voff vcap i vs ds ROW G hi hroom hlen hcapm hge hgm hrz hcpA hcpB
   have hz2 : ¬((i:Int) = (m:Int)):=by omega
   have hw1:eN.wrap ((i:Int)+1) = (i:Int)+1:=by unfold maxLen at hgm; rw[uR]; omega
   have hw2:eN.wrap ((m:Int)+1) = (m:Int)+1:=by unfold maxLen at hgm; rw[uR]; omega
   have hw3:eN.wrap ((m:Int)+1-(i:Int)) = (m:Int)+1-(i:Int):=by unfold maxLen at hgm; rw[uR]; omega
   have hb1:(0:Int)<=(i:Int)+1:=by omega
   have hin:i<=m:=by omega
   have htn:((i:Int)+1).toNat = i+1:=by omega
   have hGi : ¬(G = i):=by omega
   have hGim : ¬(G = i+1):=by omega
   have hci : ¬(cap = i):=by omega
   have hb3:(i:Int)<=(m:Int):=by omega
   have hb5:(cap:Int)<(m:Int)+1:=by omega
   have hG63:G<=9223372036854775807:=by unfold maxLen at hgm; exact hgm
   have mixed:=mixed
   first | go_enter Bl, En | go_enter Bm, Eo | go_enter Bn, Ep | go_enter Bo, Er | go_enter Bp, Es
   go_wp2_with (first
     | (at_builtin; refine zG _ rfl _ _ _ _ rfl _ _ rfl rfl _ _ (hrz _) ?_)
     | (at_builtin; refine lcp _ rfl _ _ _ _ rfl _ _ rfl rfl (hcpA _ _) ?_))
   go_region_law_o (refine scp rfl _ _ _ _ rfl _ _ (by simp[Yk, LJ]) (by simp[Yk, LJ]) (hcpB 3 (G-(i+1)) (cap-i)) ?_)
   go_wp2
   go_ret
   exact⟨rfl, rfl⟩)
def aYo:Γ AT:=[rE eC,nV (mX .i64),rE eC]
def kd(x0:Γ dO)(x1:Int)(x2:Γ dO):Γ dO:=x0.take x1.toNat++(x2++x0.drop x1.toNat)
def bFE(x0:Γ dO)(x1:Int)(x2:Γ dO):Prop:=0<=x1/\x1<=x0.length/\x2.length=1/\x0.length<=1048576
def bFF:Am.Spec:={ sig:=aYo,pre:=λ⟨x0,x1,x2,_⟩=>bFE x0 x1 x2,upd:=λ_=>[none,none],res:=λ⟨x0,x1,x2,_⟩=>[⟨sM eC,kd x0 x1 x2⟩] }
def aYp:Th 303 bFF:=Ay Bl<|aYj.contract Jk.1 PW.1 Xc.1 PU.1
def bFG:KK:=⟨303,bFF,aYp⟩
noncomputable section
def Gx(x0:Δ)(x1:Δ):Int:=if Rr x0 then(if Rr x1 then 0 else -1)else if Rr x1 then 1 else if Op.bytesLess (aB x0) (aB x1)then -1 else if !(Op.bytesLess (aB x0) (aB x1)||aB x0==aB x1)then 1 else 0
def yk:KK:=mB Tryz.func302 [.v (.str),.v (.str)] [.int .i64] [bDS] nP (Gx,()) λ_=>bH<|bH<|dS (dS pr pr)<|dS pr<|dS pr<|dS pr pr
def aC3(x0:dO):Δ:=x0.1
def aRz:KK:=mB Tryz.func199 [.v eC] [.str] [] nP (aC3,()) λ_=>pr
def bJ3:gC:=D0 se [.v eC,.v eC,.p .fn] [.int .i64] [yk,aRz]
def aLn(x0:dO)(x1:dO)(x2:Option Nat):Prop:=x2=some 199/\True
def Xd(x0:dO)(x1:dO)(x2:Option Nat):Int:=Gx (aC3 x0) (aC3 x1)
def bFH:KK:=mL bJ3 (DO se) aLn (Xd,()) λ⟨x0,x1,x2,_⟩ h _ K q=>by
 obtain⟨rfl,h⟩:=h;exact tv<|tv<|tv<|rt
def Xe:gC:=D0 sf [.v (.sl eC),.v eC,.fn 301 [(true,.fn)]] [.int .i64,.bool] [bFH]
mutual
def yl:Nat->Γ dO->Δ×Int×Int×Int×Unit->Option Nat->Γ aS->Prop
 | 0,_,_,_,_=>False
 | n+1,x0,x1,x2,ds=>AI n 0 ((x0.length:Int)) x0 x2 x1 ds
def AI:Nat->Int->Int->Γ dO->Option Nat->Δ×Int×Int×Int×Unit->Γ aS->Prop
 | 0,_,_,_,_,_,_=>False
 | n+1,v9,v10,x0,x2,x1,ds=>if decide (v9<v10)then aX .i64 (v9+v10)/\aX .u64 (v9+v10)/\aX .u64 (cQ (v9+v10) 2)/\aX .i64 (cQ (v9+v10) 2)/\0<=cQ (v9+v10) 2/\cQ (v9+v10) 2<(x0.length:Int)/\aLn (aD x0 (aE (cQ (v9+v10) 2)) (aC,0,0,0,())) x1 x2/\if decide (Xd (aD x0 (aE (cQ (v9+v10) 2)) (aC,0,0,0,())) x1 x2<0)then aX .i64 (cQ (v9+v10) 2+1)/\AI n (cQ (v9+v10) 2+1) v10 x0 x2 x1 ds else AI n v9 (cQ (v9+v10) 2) x0 x2 x1 ds else if decide (v9<(x0.length:Int))then 0<=v9/\v9<(x0.length:Int)/\aLn (aD x0 (aE v9) (aC,0,0,0,())) x1 x2/\ds=[aI (.int .i64) v9,aI .bool (Xd (aD x0 (aE v9) (aC,0,0,0,())) x1 x2==0)] else ds=[aI (.int .i64) v9,aI .bool false]
end
def aC4(ds:Γ aS)(K:fG)(q:Nat->Value):∀n,(∀ {x0 x1 x2},yl n x0 x1 x2 ds->St Xe (x0,x1,(x2,()),()) ds [] K q)/\(∀ {v9 v10 x0 x2 x1},AI n v9 v10 x0 x2 x1 ds->Cu Xe 3 ([eL 0 eC x0,(2,pF 301 [rR Ll x2]),eO 4 0 0 [],eI 8 (x0.length:Int),eI 9 v9,eI 10 v10],[some (fE eC [x1] true none (some false))]) ds [] K q):=nI ⟨aH,aH⟩ λn ⟨i,i3⟩=>⟨bX i3,
  bD (aL<|aL<|pq 1<|aL<|aL<|cP<|aL<|bD (aL<|bX i3)<|bX i3)<|bD (cP<|aL cM) cM⟩
def Jl(x0:Γ dO)(x1:dO)(y0:Option Nat)(h:Nat):Bool:=decide (Xd (x0.getD h (aC,(0:Int),(0:Int),(0:Int),())) x1 y0<0)
def Xf(x0:Γ dO)(x1:dO)(y0:Option Nat):Nat:=iA (Jl x0 x1 y0) (x0.length+1) 0 x0.length
def PX(x0:Γ dO)(x1:dO)(y0:Option Nat)(k:Nat):Bool:=if k<x0.length then Xd (x0.getD k (aC,(0:Int),(0:Int),(0:Int),())) x1 y0==0 else false
def nM(x0:Γ dO)(x1:dO)(y0:Option Nat):Int:=(Xf x0 x1 y0:Nat)
def lY(x0:Γ dO)(x1:dO)(y0:Option Nat):Bool:=PX x0 x1 y0 (Xf x0 x1 y0)
def ym(x0:Γ dO)(x1:dO)(y0:Option Nat):Prop:=x0.length<=4611686018427387903/\∀y∈x0,aLn y x1 y0
theorem Jm(n:Int):aX .u64 n↔0<=n/\n<=18446744073709551615:=by
 rfl
def aC5(x0:Γ dO)(x1:dO)(y0:Option Nat)(hm:x0.length<=4611686018427387903)(hp:∀y∈x0,aLn y x1 y0):∀(k i j:Nat),j-i<k->i<=j->j<=x0.length ->
  AI k (i:Int) (j:Int) x0 y0 x1 [⟨.int .i64,((iA (Jl x0 x1 y0) k i j:Nat):Int)⟩,⟨.bool,PX x0 x1 y0 (iA (Jl x0 x1 y0) k i j)⟩]:=by
 intro k
 induction k with
 | zero=>lia
 | succ k ih =>
  intro i j h hij hj;rw[AI];by_cases hlt:i<j
  ·rw[π (by lia)];have e:cQ ((i:Int)+(j:Int)) 2=(((i+j)/2:Nat):Int):=by
    lia
   have hP:=hp _ (cF x0 ((i+j)/2) (aC,(0:Int),(0:Int),(0:Int),()) (by lia));rw[e];refine⟨by rw[aJ];lia,by rw[Jm];lia,by rw[Jm];lia,by rw[aJ];lia,by lia,by lia,hP,?_⟩;simp only[iA,π hlt];by_cases hq:Jl x0 x1 y0 ((i+j)/2)=true
   ·rw[π hq];exact(π hq).mpr ⟨by rw[aJ];lia,ih ((i+j)/2+1) j (by lia) (by lia) hj⟩
   ·rw[ν hq];exact(ν hq).mpr (ih i ((i+j)/2) (by lia) (by lia) (by lia))
  ·rw[ν (by lia)];simp only[iA,ν hlt,PX];by_cases hl:i<x0.length
   ·rw[π (by lia),π hl];exact⟨by lia,by lia,hp _ (cF x0 i (aC,(0:Int),(0:Int),(0:Int),()) hl),rfl⟩
   lia
def aGI:KK:=mL Xe (DO sf) ym (nM,lY,()) (λ⟨x0,x1,⟨y0,_⟩,_⟩ h hwf K q =>
 (aC4 _ K q ((x0.length+1+1))).1 (by rw[yl];exact aC5 x0 x1 y0 h.1 h.2 (x0.length+1) 0 x0.length (by omega) (by omega) (aU _)))
def Jn(x0:Γ dO)(x1:dO)(x3:Int):Prop:=((ym x0 x1 (some 199))/\(if lY x0 x1 (some 199)=true then True else(if decide ((x0.length:Int)>=x3)=true then True else((aYh x0)/\(bFE (aPW x0) (nM x0 x1 (some 199)) [x1])/\True))))
def wP(x0:Γ dO)(x1:dO)(x3:Int):Γ dO:=if lY x0 x1 (some 199)then x0 else if decide ((x0.length:Int)>=x3)then x0 else kd (aPW x0) (nM x0 x1 (some 199)) [x1]
def o7(x0:Γ dO)(x1:dO)(x3:Int):Int:=if lY x0 x1 (some 199)then 4 else if decide ((x0.length:Int)>=x3)then 5 else 0
def aGK:KK:=mV Tryz.func198 [.own eC,.v eC,.fn 199 [],.v (.int .i64)] [.sl eC,.int .i64] [aRy,bFG,aGI,aRz] Jn (λ_=>[none]) (wP,o7,()) λ⟨⟨x0,x1,_,x3,_⟩,_⟩=>aL<|dL pr<|dL pr<|Hv λs1=>Hv λs2=>sQ s1<|sQ s2<|sQ (aEe [eW 0 0,eT 1 eC x1,(2,pF 199 []),eI 3 x3,eO 5 1 0 [],eO 6 2 0 [],eW 8 5,eI 9 0,eI 10 (nM x0 x1 (some 199)),eB 11 (lY x0 x1 (some 199)),(12,gF [UD (nM x0 x1 (some 199)),OS (lY x0 x1 (some 199))]),eW 13 0,eT 14 eC x1,(15,pF 301 [LM 2 0 []]),(16,gF [UD (nM x0 x1 (some 199)),OS (lY x0 x1 (some 199))]),eI 17 (nM x0 x1 (some 199)),eB 18 (lY x0 x1 (some 199)),eB 19 (lY x0 x1 (some 199)),eB 20 (lY x0 x1 (some 199)),eB 22 (decide ((x0.length:Int)>=x3)),eW 23 0,eI 24 (x0.length:Int),eI 25 x3,eB 26 (decide ((x0.length:Int)>=x3)),eW 28 0,eI 30 (nM x0 x1 (some 199)),eT 31 eC x1,eW 33 5] [cL eC x0,some (fE eC [x1] true none (some false)),some (fE Ll [some 199] true none (some false)),none,none,cL eC (kd (aPW x0) (nM x0 x1 (some 199)) [x1])]) pr
end
def aYq:Γ AT:=[nV (sM c8)]
def aYr(x0:Γ bP):Prop:=x0.length<=1048576
def bFI:Am.Spec:={ sig:=aYq,pre:=λ⟨x0,_⟩=>aYr x0,res:=λ⟨x0,_⟩=>[⟨sM c8,aPZ x0⟩] }
def aYs:Th 123 bFI:=Ay Tryz.func123<|q6 (Ah 47) rfl rfl (by decide) (by decide) x6.2.2.2.1 uI.2.2.2.1
def aR0:KK:=⟨123,bFI,aYs⟩
def aYt:Γ AT:=[rE c8,nV (mX .i64),rE c8]
def ke(x0:Γ bP)(x1:Int)(x2:Γ bP):Γ bP:=x0.take x1.toNat++(x2++x0.drop x1.toNat)
def bFJ(x0:Γ bP)(x1:Int)(x2:Γ bP):Prop:=0<=x1/\x1<=x0.length/\x2.length=1/\x0.length<=1048576
def bFK:Am.Spec:={ sig:=aYt,pre:=λ⟨x0,x1,x2,_⟩=>bFJ x0 x1 x2,upd:=λ_=>[none,none],res:=λ⟨x0,x1,x2,_⟩=>[⟨sM c8,ke x0 x1 x2⟩] }
def aYu:Th 308 bFK:=Ay Bm<|aYk.contract Jk.2.1 PW.2.1 Xc.2.1 PU.2.1
def bFL:KK:=⟨308,bFK,aYu⟩
noncomputable section
def aC6(x0:bP):Δ:=x0.1
def aR1:KK:=mB Tryz.func202 [.v c8] [.str] [] nP (aC6,()) λ_=>pr
def bJ4:gC:=D0 sg [.v c8,.v c8,.p .fn] [.int .i64] [yk,aR1]
def aLo(x0:bP)(x1:bP)(x2:Option Nat):Prop:=x2=some 202/\True
def Xg(x0:bP)(x1:bP)(x2:Option Nat):Int:=Gx (aC6 x0) (aC6 x1)
def bFM:KK:=mL bJ4 (DO sg) aLo (Xg,()) λ⟨x0,x1,x2,_⟩ h _ K q=>by
 obtain⟨rfl,h⟩:=h;exact tv<|tv<|tv<|rt
def Xh:gC:=D0 sh [.v (.sl c8),.v c8,.fn 307 [(true,.fn)]] [.int .i64,.bool] [bFM]
mutual
def yn:Nat->Γ bP->Δ×Int×Int×Unit->Option Nat->Γ aS->Prop
 | 0,_,_,_,_=>False
 | n+1,x0,x1,x2,ds=>AJ n 0 ((x0.length:Int)) x0 x2 x1 ds
def AJ:Nat->Int->Int->Γ bP->Option Nat->Δ×Int×Int×Unit->Γ aS->Prop
 | 0,_,_,_,_,_,_=>False
 | n+1,v9,v10,x0,x2,x1,ds=>if decide (v9<v10)then aX .i64 (v9+v10)/\aX .u64 (v9+v10)/\aX .u64 (cQ (v9+v10) 2)/\aX .i64 (cQ (v9+v10) 2)/\0<=cQ (v9+v10) 2/\cQ (v9+v10) 2<(x0.length:Int)/\aLo (aD x0 (aE (cQ (v9+v10) 2)) (aC,0,0,())) x1 x2/\if decide (Xg (aD x0 (aE (cQ (v9+v10) 2)) (aC,0,0,())) x1 x2<0)then aX .i64 (cQ (v9+v10) 2+1)/\AJ n (cQ (v9+v10) 2+1) v10 x0 x2 x1 ds else AJ n v9 (cQ (v9+v10) 2) x0 x2 x1 ds else if decide (v9<(x0.length:Int))then 0<=v9/\v9<(x0.length:Int)/\aLo (aD x0 (aE v9) (aC,0,0,())) x1 x2/\ds=[aI (.int .i64) v9,aI .bool (Xg (aD x0 (aE v9) (aC,0,0,())) x1 x2==0)] else ds=[aI (.int .i64) v9,aI .bool false]
end
def aC7(ds:Γ aS)(K:fG)(q:Nat->Value):∀n,(∀ {x0 x1 x2},yn n x0 x1 x2 ds->St Xh (x0,x1,(x2,()),()) ds [] K q)/\(∀ {v9 v10 x0 x2 x1},AJ n v9 v10 x0 x2 x1 ds->Cu Xh 3 ([eL 0 c8 x0,(2,pF 307 [rR Ll x2]),eO 4 0 0 [],eI 8 (x0.length:Int),eI 9 v9,eI 10 v10],[some (fE c8 [x1] true none (some false))]) ds [] K q):=nI ⟨aH,aH⟩ λn ⟨i,i3⟩=>⟨bX i3,
  bD (aL<|aL<|pq 1<|aL<|aL<|cP<|aL<|bD (aL<|bX i3)<|bX i3)<|bD (cP<|aL cM) cM⟩
def Jo(x0:Γ bP)(x1:bP)(y0:Option Nat)(h:Nat):Bool:=decide (Xg (x0.getD h (aC,(0:Int),(0:Int),())) x1 y0<0)
def Xi(x0:Γ bP)(x1:bP)(y0:Option Nat):Nat:=iA (Jo x0 x1 y0) (x0.length+1) 0 x0.length
def PY(x0:Γ bP)(x1:bP)(y0:Option Nat)(k:Nat):Bool:=if k<x0.length then Xg (x0.getD k (aC,(0:Int),(0:Int),())) x1 y0==0 else false
def nN(x0:Γ bP)(x1:bP)(y0:Option Nat):Int:=(Xi x0 x1 y0:Nat)
def lZ(x0:Γ bP)(x1:bP)(y0:Option Nat):Bool:=PY x0 x1 y0 (Xi x0 x1 y0)
def yo(x0:Γ bP)(x1:bP)(y0:Option Nat):Prop:=x0.length<=4611686018427387903/\∀y∈x0,aLo y x1 y0
def aC8(x0:Γ bP)(x1:bP)(y0:Option Nat)(hm:x0.length<=4611686018427387903)(hp:∀y∈x0,aLo y x1 y0):∀(k i j:Nat),j-i<k->i<=j->j<=x0.length ->
  AJ k (i:Int) (j:Int) x0 y0 x1 [⟨.int .i64,((iA (Jo x0 x1 y0) k i j:Nat):Int)⟩,⟨.bool,PY x0 x1 y0 (iA (Jo x0 x1 y0) k i j)⟩]:=by
 intro k
 induction k with
 | zero=>lia
 | succ k ih =>
  intro i j h hij hj;rw[AJ];by_cases hlt:i<j
  ·rw[π (by lia)];have e:cQ ((i:Int)+(j:Int)) 2=(((i+j)/2:Nat):Int):=by
    lia
   have hP:=hp _ (cF x0 ((i+j)/2) (aC,(0:Int),(0:Int),()) (by lia));rw[e];refine⟨by rw[aJ];lia,by rw[Jm];lia,by rw[Jm];lia,by rw[aJ];lia,by lia,by lia,hP,?_⟩;simp only[iA,π hlt];by_cases hq:Jo x0 x1 y0 ((i+j)/2)=true
   ·rw[π hq];exact(π hq).mpr ⟨by rw[aJ];lia,ih ((i+j)/2+1) j (by lia) (by lia) hj⟩
   ·rw[ν hq];exact(ν hq).mpr (ih i ((i+j)/2) (by lia) (by lia) (by lia))
  ·rw[ν (by lia)];simp only[iA,ν hlt,PY];by_cases hl:i<x0.length
   ·rw[π (by lia),π hl];exact⟨by lia,by lia,hp _ (cF x0 i (aC,(0:Int),(0:Int),()) hl),rfl⟩
   lia
def aGL:KK:=mL Xh (DO sh) yo (nN,lZ,()) (λ⟨x0,x1,⟨y0,_⟩,_⟩ h hwf K q =>
 (aC7 _ K q ((x0.length+1+1))).1 (by rw[yn];exact aC8 x0 x1 y0 h.1 h.2 (x0.length+1) 0 x0.length (by omega) (by omega) (aU _)))
def Jq(x0:Γ bP)(x1:bP)(x3:Int):Prop:=((yo x0 x1 (some 202))/\(if lZ x0 x1 (some 202)=true then True else(if decide ((x0.length:Int)>=x3)=true then True else((aYr x0)/\(bFJ (aPZ x0) (nN x0 x1 (some 202)) [x1])/\True))))
def wQ(x0:Γ bP)(x1:bP)(x3:Int):Γ bP:=if lZ x0 x1 (some 202)then x0 else if decide ((x0.length:Int)>=x3)then x0 else ke (aPZ x0) (nN x0 x1 (some 202)) [x1]
def o8(x0:Γ bP)(x1:bP)(x3:Int):Int:=if lZ x0 x1 (some 202)then 4 else if decide ((x0.length:Int)>=x3)then 5 else 0
def aGN:KK:=mV Tryz.func201 [.own c8,.v c8,.fn 202 [],.v (.int .i64)] [.sl c8,.int .i64] [aR0,bFL,aGL,aR1] Jq (λ_=>[none]) (wQ,o8,()) λ⟨⟨x0,x1,_,x3,_⟩,_⟩=>aL<|dL pr<|dL pr<|Hv λs1=>Hv λs2=>sQ s1<|sQ s2<|sQ (aEe [eW 0 0,eT 1 c8 x1,(2,pF 202 []),eI 3 x3,eO 5 1 0 [],eO 6 2 0 [],eW 8 5,eI 9 0,eI 10 (nN x0 x1 (some 202)),eB 11 (lZ x0 x1 (some 202)),(12,gF [UD (nN x0 x1 (some 202)),OS (lZ x0 x1 (some 202))]),eW 13 0,eT 14 c8 x1,(15,pF 307 [LM 2 0 []]),(16,gF [UD (nN x0 x1 (some 202)),OS (lZ x0 x1 (some 202))]),eI 17 (nN x0 x1 (some 202)),eB 18 (lZ x0 x1 (some 202)),eB 19 (lZ x0 x1 (some 202)),eB 20 (lZ x0 x1 (some 202)),eB 22 (decide ((x0.length:Int)>=x3)),eW 23 0,eI 24 (x0.length:Int),eI 25 x3,eB 26 (decide ((x0.length:Int)>=x3)),eW 28 0,eI 30 (nN x0 x1 (some 202)),eT 31 c8 x1,eW 33 5] [cL c8 x0,some (fE c8 [x1] true none (some false)),some (fE Ll [some 202] true none (some false)),none,none,cL c8 (ke (aPZ x0) (nN x0 x1 (some 202)) [x1])]) pr
end
def aYx:Th 124 bFD:=Ay Tryz.func124<|q6 (Ah 49) rfl rfl (by decide) (by decide) x6.2.2.2.2.1 uI.2.2.2.2.1
def aR2:KK:=⟨124,bFD,aYx⟩
def aYz:Th 312 bFF:=Ay Bn<|aYl.contract Jk.2.2.1 PW.2.2.1 Xc.2.2.1 PU.2.2.1
def bFQ:KK:=⟨312,bFF,aYz⟩
noncomputable section
def aR3:KK:=mB Tryz.func205 [.v eC] [.str] [] nP (aC3,()) λ_=>pr
def bJ5:gC:=D0 si [.v eC,.v eC,.p .fn] [.int .i64] [yk,aR3]
def aLp(x0:dO)(x1:dO)(x2:Option Nat):Prop:=x2=some 205/\True
def bFR:KK:=mL bJ5 (DO si) aLp (Xd,()) λ⟨x0,x1,x2,_⟩ h _ K q=>by
 obtain⟨rfl,h⟩:=h;exact tv<|tv<|tv<|rt
def Xk:gC:=D0 sj [.v (.sl eC),.v eC,.fn 311 [(true,.fn)]] [.int .i64,.bool] [bFR]
mutual
def yp:Nat->Γ dO->Δ×Int×Int×Int×Unit->Option Nat->Γ aS->Prop
 | 0,_,_,_,_=>False
 | n+1,x0,x1,x2,ds=>AK n 0 ((x0.length:Int)) x0 x2 x1 ds
def AK:Nat->Int->Int->Γ dO->Option Nat->Δ×Int×Int×Int×Unit->Γ aS->Prop
 | 0,_,_,_,_,_,_=>False
 | n+1,v9,v10,x0,x2,x1,ds=>if decide (v9<v10)then aX .i64 (v9+v10)/\aX .u64 (v9+v10)/\aX .u64 (cQ (v9+v10) 2)/\aX .i64 (cQ (v9+v10) 2)/\0<=cQ (v9+v10) 2/\cQ (v9+v10) 2<(x0.length:Int)/\aLp (aD x0 (aE (cQ (v9+v10) 2)) (aC,0,0,0,())) x1 x2/\if decide (Xd (aD x0 (aE (cQ (v9+v10) 2)) (aC,0,0,0,())) x1 x2<0)then aX .i64 (cQ (v9+v10) 2+1)/\AK n (cQ (v9+v10) 2+1) v10 x0 x2 x1 ds else AK n v9 (cQ (v9+v10) 2) x0 x2 x1 ds else if decide (v9<(x0.length:Int))then 0<=v9/\v9<(x0.length:Int)/\aLp (aD x0 (aE v9) (aC,0,0,0,())) x1 x2/\ds=[aI (.int .i64) v9,aI .bool (Xd (aD x0 (aE v9) (aC,0,0,0,())) x1 x2==0)] else ds=[aI (.int .i64) v9,aI .bool false]
end
def aCA(ds:Γ aS)(K:fG)(q:Nat->Value):∀n,(∀ {x0 x1 x2},yp n x0 x1 x2 ds->St Xk (x0,x1,(x2,()),()) ds [] K q)/\(∀ {v9 v10 x0 x2 x1},AK n v9 v10 x0 x2 x1 ds->Cu Xk 3 ([eL 0 eC x0,(2,pF 311 [rR Ll x2]),eO 4 0 0 [],eI 8 (x0.length:Int),eI 9 v9,eI 10 v10],[some (fE eC [x1] true none (some false))]) ds [] K q):=nI ⟨aH,aH⟩ λn ⟨i,i3⟩=>⟨bX i3,
  bD (aL<|aL<|pq 1<|aL<|aL<|cP<|aL<|bD (aL<|bX i3)<|bX i3)<|bD (cP<|aL cM) cM⟩
def yq(x0:Γ dO)(x1:dO)(y0:Option Nat):Prop:=x0.length<=4611686018427387903/\∀y∈x0,aLp y x1 y0
def aCB(x0:Γ dO)(x1:dO)(y0:Option Nat)(hm:x0.length<=4611686018427387903)(hp:∀y∈x0,aLp y x1 y0):∀(k i j:Nat),j-i<k->i<=j->j<=x0.length ->
  AK k (i:Int) (j:Int) x0 y0 x1 [⟨.int .i64,((iA (Jl x0 x1 y0) k i j:Nat):Int)⟩,⟨.bool,PX x0 x1 y0 (iA (Jl x0 x1 y0) k i j)⟩]:=by
 intro k
 induction k with
 | zero=>lia
 | succ k ih =>
  intro i j h hij hj;rw[AK];by_cases hlt:i<j
  ·rw[π (by lia)];have e:cQ ((i:Int)+(j:Int)) 2=(((i+j)/2:Nat):Int):=by
    lia
   have hP:=hp _ (cF x0 ((i+j)/2) (aC,(0:Int),(0:Int),(0:Int),()) (by lia));rw[e];refine⟨by rw[aJ];lia,by rw[Jm];lia,by rw[Jm];lia,by rw[aJ];lia,by lia,by lia,hP,?_⟩;simp only[iA,π hlt];by_cases hq:Jl x0 x1 y0 ((i+j)/2)=true
   ·rw[π hq];exact(π hq).mpr ⟨by rw[aJ];lia,ih ((i+j)/2+1) j (by lia) (by lia) hj⟩
   ·rw[ν hq];exact(ν hq).mpr (ih i ((i+j)/2) (by lia) (by lia) (by lia))
  ·rw[ν (by lia)];simp only[iA,ν hlt,PX];by_cases hl:i<x0.length
   ·rw[π (by lia),π hl];exact⟨by lia,by lia,hp _ (cF x0 i (aC,(0:Int),(0:Int),(0:Int),()) hl),rfl⟩
   lia
def aGO:KK:=mL Xk (DO sj) yq (nM,lY,()) (λ⟨x0,x1,⟨y0,_⟩,_⟩ h hwf K q =>
 (aCA _ K q ((x0.length+1+1))).1 (by rw[yp];exact aCB x0 x1 y0 h.1 h.2 (x0.length+1) 0 x0.length (by omega) (by omega) (aU _)))
def Jt(x0:Γ dO)(x1:dO)(x3:Int):Prop:=((yq x0 x1 (some 205))/\(if lY x0 x1 (some 205)=true then True else(if decide ((x0.length:Int)>=x3)=true then True else((aYh x0)/\(bFE (aPW x0) (nM x0 x1 (some 205)) [x1])/\True))))
def wR(x0:Γ dO)(x1:dO)(x3:Int):Γ dO:=if lY x0 x1 (some 205)then x0 else if decide ((x0.length:Int)>=x3)then x0 else kd (aPW x0) (nM x0 x1 (some 205)) [x1]
def o9(x0:Γ dO)(x1:dO)(x3:Int):Int:=if lY x0 x1 (some 205)then 4 else if decide ((x0.length:Int)>=x3)then 5 else 0
def aGQ:KK:=mV Tryz.func204 [.own eC,.v eC,.fn 205 [],.v (.int .i64)] [.sl eC,.int .i64] [aR2,bFQ,aGO,aR3] Jt (λ_=>[none]) (wR,o9,()) λ⟨⟨x0,x1,_,x3,_⟩,_⟩=>aL<|dL pr<|dL pr<|Hv λs1=>Hv λs2=>sQ s1<|sQ s2<|sQ (aEe [eW 0 0,eT 1 eC x1,(2,pF 205 []),eI 3 x3,eO 5 1 0 [],eO 6 2 0 [],eW 8 5,eI 9 0,eI 10 (nM x0 x1 (some 205)),eB 11 (lY x0 x1 (some 205)),(12,gF [UD (nM x0 x1 (some 205)),OS (lY x0 x1 (some 205))]),eW 13 0,eT 14 eC x1,(15,pF 311 [LM 2 0 []]),(16,gF [UD (nM x0 x1 (some 205)),OS (lY x0 x1 (some 205))]),eI 17 (nM x0 x1 (some 205)),eB 18 (lY x0 x1 (some 205)),eB 19 (lY x0 x1 (some 205)),eB 20 (lY x0 x1 (some 205)),eB 22 (decide ((x0.length:Int)>=x3)),eW 23 0,eI 24 (x0.length:Int),eI 25 x3,eB 26 (decide ((x0.length:Int)>=x3)),eW 28 0,eI 30 (nM x0 x1 (some 205)),eT 31 eC x1,eW 33 5] [cL eC x0,some (fE eC [x1] true none (some false)),some (fE Ll [some 205] true none (some false)),none,none,cL eC (kd (aPW x0) (nM x0 x1 (some 205)) [x1])]) pr
end
def aY2:Th 126 bFI:=Ay Tryz.func126<|q6 (Ah 51) rfl rfl (by decide) (by decide) x6.2.2.2.2.2.2.1 uI.2.2.2.2.2.2.1
def aR4:KK:=⟨126,bFI,aY2⟩
def aY4:Th 316 bFK:=Ay Bo<|aYm.contract Jk.2.2.2.1 PW.2.2.2.1 Xc.2.2.2.1 PU.2.2.2.1
def bFV:KK:=⟨316,bFK,aY4⟩
noncomputable section
def aR5:KK:=mB Tryz.func208 [.v c8] [.str] [] nP (aC6,()) λ_=>pr
def bJ6:gC:=D0 sn [.v c8,.v c8,.p .fn] [.int .i64] [yk,aR5]
def aLq(x0:bP)(x1:bP)(x2:Option Nat):Prop:=x2=some 208/\True
def bFW:KK:=mL bJ6 (DO sn) aLq (Xg,()) λ⟨x0,x1,x2,_⟩ h _ K q=>by
 obtain⟨rfl,h⟩:=h;exact tv<|tv<|tv<|rt
def Xn:gC:=D0 so [.v (.sl c8),.v c8,.fn 315 [(true,.fn)]] [.int .i64,.bool] [bFW]
mutual
def yr:Nat->Γ bP->Δ×Int×Int×Unit->Option Nat->Γ aS->Prop
 | 0,_,_,_,_=>False
 | n+1,x0,x1,x2,ds=>AM n 0 ((x0.length:Int)) x0 x2 x1 ds
def AM:Nat->Int->Int->Γ bP->Option Nat->Δ×Int×Int×Unit->Γ aS->Prop
 | 0,_,_,_,_,_,_=>False
 | n+1,v9,v10,x0,x2,x1,ds=>if decide (v9<v10)then aX .i64 (v9+v10)/\aX .u64 (v9+v10)/\aX .u64 (cQ (v9+v10) 2)/\aX .i64 (cQ (v9+v10) 2)/\0<=cQ (v9+v10) 2/\cQ (v9+v10) 2<(x0.length:Int)/\aLq (aD x0 (aE (cQ (v9+v10) 2)) (aC,0,0,())) x1 x2/\if decide (Xg (aD x0 (aE (cQ (v9+v10) 2)) (aC,0,0,())) x1 x2<0)then aX .i64 (cQ (v9+v10) 2+1)/\AM n (cQ (v9+v10) 2+1) v10 x0 x2 x1 ds else AM n v9 (cQ (v9+v10) 2) x0 x2 x1 ds else if decide (v9<(x0.length:Int))then 0<=v9/\v9<(x0.length:Int)/\aLq (aD x0 (aE v9) (aC,0,0,())) x1 x2/\ds=[aI (.int .i64) v9,aI .bool (Xg (aD x0 (aE v9) (aC,0,0,())) x1 x2==0)] else ds=[aI (.int .i64) v9,aI .bool false]
end
def aCD(ds:Γ aS)(K:fG)(q:Nat->Value):∀n,(∀ {x0 x1 x2},yr n x0 x1 x2 ds->St Xn (x0,x1,(x2,()),()) ds [] K q)/\(∀ {v9 v10 x0 x2 x1},AM n v9 v10 x0 x2 x1 ds->Cu Xn 3 ([eL 0 c8 x0,(2,pF 315 [rR Ll x2]),eO 4 0 0 [],eI 8 (x0.length:Int),eI 9 v9,eI 10 v10],[some (fE c8 [x1] true none (some false))]) ds [] K q):=nI ⟨aH,aH⟩ λn ⟨i,i3⟩=>⟨bX i3,
  bD (aL<|aL<|pq 1<|aL<|aL<|cP<|aL<|bD (aL<|bX i3)<|bX i3)<|bD (cP<|aL cM) cM⟩
def yt(x0:Γ bP)(x1:bP)(y0:Option Nat):Prop:=x0.length<=4611686018427387903/\∀y∈x0,aLq y x1 y0
def aCE(x0:Γ bP)(x1:bP)(y0:Option Nat)(hm:x0.length<=4611686018427387903)(hp:∀y∈x0,aLq y x1 y0):∀(k i j:Nat),j-i<k->i<=j->j<=x0.length ->
  AM k (i:Int) (j:Int) x0 y0 x1 [⟨.int .i64,((iA (Jo x0 x1 y0) k i j:Nat):Int)⟩,⟨.bool,PY x0 x1 y0 (iA (Jo x0 x1 y0) k i j)⟩]:=by
 intro k
 induction k with
 | zero=>lia
 | succ k ih =>
  intro i j h hij hj;rw[AM];by_cases hlt:i<j
  ·rw[π (by lia)];have e:cQ ((i:Int)+(j:Int)) 2=(((i+j)/2:Nat):Int):=by
    lia
   have hP:=hp _ (cF x0 ((i+j)/2) (aC,(0:Int),(0:Int),()) (by lia));rw[e];refine⟨by rw[aJ];lia,by rw[Jm];lia,by rw[Jm];lia,by rw[aJ];lia,by lia,by lia,hP,?_⟩;simp only[iA,π hlt];by_cases hq:Jo x0 x1 y0 ((i+j)/2)=true
   ·rw[π hq];exact(π hq).mpr ⟨by rw[aJ];lia,ih ((i+j)/2+1) j (by lia) (by lia) hj⟩
   ·rw[ν hq];exact(ν hq).mpr (ih i ((i+j)/2) (by lia) (by lia) (by lia))
  ·rw[ν (by lia)];simp only[iA,ν hlt,PY];by_cases hl:i<x0.length
   ·rw[π (by lia),π hl];exact⟨by lia,by lia,hp _ (cF x0 i (aC,(0:Int),(0:Int),()) hl),rfl⟩
   lia
def aGR:KK:=mL Xn (DO so) yt (nN,lZ,()) (λ⟨x0,x1,⟨y0,_⟩,_⟩ h hwf K q =>
 (aCD _ K q ((x0.length+1+1))).1 (by rw[yr];exact aCE x0 x1 y0 h.1 h.2 (x0.length+1) 0 x0.length (by omega) (by omega) (aU _)))
def Jw(x0:Γ bP)(x1:bP)(x3:Int):Prop:=((yt x0 x1 (some 208))/\(if lZ x0 x1 (some 208)=true then True else(if decide ((x0.length:Int)>=x3)=true then True else((aYr x0)/\(bFJ (aPZ x0) (nN x0 x1 (some 208)) [x1])/\True))))
def wS(x0:Γ bP)(x1:bP)(x3:Int):Γ bP:=if lZ x0 x1 (some 208)then x0 else if decide ((x0.length:Int)>=x3)then x0 else ke (aPZ x0) (nN x0 x1 (some 208)) [x1]
def pA(x0:Γ bP)(x1:bP)(x3:Int):Int:=if lZ x0 x1 (some 208)then 4 else if decide ((x0.length:Int)>=x3)then 5 else 0
def aGT:KK:=mV Tryz.func207 [.own c8,.v c8,.fn 208 [],.v (.int .i64)] [.sl c8,.int .i64] [aR4,bFV,aGR,aR5] Jw (λ_=>[none]) (wS,pA,()) λ⟨⟨x0,x1,_,x3,_⟩,_⟩=>aL<|dL pr<|dL pr<|Hv λs1=>Hv λs2=>sQ s1<|sQ s2<|sQ (aEe [eW 0 0,eT 1 c8 x1,(2,pF 208 []),eI 3 x3,eO 5 1 0 [],eO 6 2 0 [],eW 8 5,eI 9 0,eI 10 (nN x0 x1 (some 208)),eB 11 (lZ x0 x1 (some 208)),(12,gF [UD (nN x0 x1 (some 208)),OS (lZ x0 x1 (some 208))]),eW 13 0,eT 14 c8 x1,(15,pF 315 [LM 2 0 []]),(16,gF [UD (nN x0 x1 (some 208)),OS (lZ x0 x1 (some 208))]),eI 17 (nN x0 x1 (some 208)),eB 18 (lZ x0 x1 (some 208)),eB 19 (lZ x0 x1 (some 208)),eB 20 (lZ x0 x1 (some 208)),eB 22 (decide ((x0.length:Int)>=x3)),eW 23 0,eI 24 (x0.length:Int),eI 25 x3,eB 26 (decide ((x0.length:Int)>=x3)),eW 28 0,eI 30 (nN x0 x1 (some 208)),eT 31 c8 x1,eW 33 5] [cL c8 x0,some (fE c8 [x1] true none (some false)),some (fE Ll [some 208] true none (some false)),none,none,cL c8 (ke (aPZ x0) (nN x0 x1 (some 208)) [x1])]) pr
end
def aY7:Th 127 bFI:=Ay Tryz.func127<|q6 (Ah 52) rfl rfl (by decide) (by decide) x6.2.2.2.2.2.2.2.1 uI.2.2.2.2.2.2.2.1
def aR6:KK:=⟨127,bFI,aY7⟩
def aY9:Th 319 bFK:=Ay Bp<|aYn.contract Jk.2.2.2.2 PW.2.2.2.2 Xc.2.2.2.2 PU.2.2.2.2
def bGa:KK:=⟨319,bFK,aY9⟩
noncomputable section
def aR7:KK:=mB Tryz.func211 [.v c8] [.str] [] nP (aC6,()) λ_=>pr
def bJ7:gC:=D0 sq [.v c8,.v c8,.p .fn] [.int .i64] [yk,aR7]
def aLr(x0:bP)(x1:bP)(x2:Option Nat):Prop:=x2=some 211/\True
def bGb:KK:=mL bJ7 (DO sq) aLr (Xg,()) λ⟨x0,x1,x2,_⟩ h _ K q=>by
 obtain⟨rfl,h⟩:=h;exact tv<|tv<|tv<|rt
def Xq:gC:=D0 sr [.v (.sl c8),.v c8,.fn 318 [(true,.fn)]] [.int .i64,.bool] [bGb]
mutual
def yu:Nat->Γ bP->Δ×Int×Int×Unit->Option Nat->Γ aS->Prop
 | 0,_,_,_,_=>False
 | n+1,x0,x1,x2,ds=>AN n 0 ((x0.length:Int)) x0 x2 x1 ds
def AN:Nat->Int->Int->Γ bP->Option Nat->Δ×Int×Int×Unit->Γ aS->Prop
 | 0,_,_,_,_,_,_=>False
 | n+1,v9,v10,x0,x2,x1,ds=>if decide (v9<v10)then aX .i64 (v9+v10)/\aX .u64 (v9+v10)/\aX .u64 (cQ (v9+v10) 2)/\aX .i64 (cQ (v9+v10) 2)/\0<=cQ (v9+v10) 2/\cQ (v9+v10) 2<(x0.length:Int)/\aLr (aD x0 (aE (cQ (v9+v10) 2)) (aC,0,0,())) x1 x2/\if decide (Xg (aD x0 (aE (cQ (v9+v10) 2)) (aC,0,0,())) x1 x2<0)then aX .i64 (cQ (v9+v10) 2+1)/\AN n (cQ (v9+v10) 2+1) v10 x0 x2 x1 ds else AN n v9 (cQ (v9+v10) 2) x0 x2 x1 ds else if decide (v9<(x0.length:Int))then 0<=v9/\v9<(x0.length:Int)/\aLr (aD x0 (aE v9) (aC,0,0,())) x1 x2/\ds=[aI (.int .i64) v9,aI .bool (Xg (aD x0 (aE v9) (aC,0,0,())) x1 x2==0)] else ds=[aI (.int .i64) v9,aI .bool false]
end
def aCG(ds:Γ aS)(K:fG)(q:Nat->Value):∀n,(∀ {x0 x1 x2},yu n x0 x1 x2 ds->St Xq (x0,x1,(x2,()),()) ds [] K q)/\(∀ {v9 v10 x0 x2 x1},AN n v9 v10 x0 x2 x1 ds->Cu Xq 3 ([eL 0 c8 x0,(2,pF 318 [rR Ll x2]),eO 4 0 0 [],eI 8 (x0.length:Int),eI 9 v9,eI 10 v10],[some (fE c8 [x1] true none (some false))]) ds [] K q):=nI ⟨aH,aH⟩ λn ⟨i,i3⟩=>⟨bX i3,
  bD (aL<|aL<|pq 1<|aL<|aL<|cP<|aL<|bD (aL<|bX i3)<|bX i3)<|bD (cP<|aL cM) cM⟩
def yv(x0:Γ bP)(x1:bP)(y0:Option Nat):Prop:=x0.length<=4611686018427387903/\∀y∈x0,aLr y x1 y0
def aCH(x0:Γ bP)(x1:bP)(y0:Option Nat)(hm:x0.length<=4611686018427387903)(hp:∀y∈x0,aLr y x1 y0):∀(k i j:Nat),j-i<k->i<=j->j<=x0.length ->
  AN k (i:Int) (j:Int) x0 y0 x1 [⟨.int .i64,((iA (Jo x0 x1 y0) k i j:Nat):Int)⟩,⟨.bool,PY x0 x1 y0 (iA (Jo x0 x1 y0) k i j)⟩]:=by
 intro k
 induction k with
 | zero=>lia
 | succ k ih =>
  intro i j h hij hj;rw[AN];by_cases hlt:i<j
  ·rw[π (by lia)];have e:cQ ((i:Int)+(j:Int)) 2=(((i+j)/2:Nat):Int):=by
    lia
   have hP:=hp _ (cF x0 ((i+j)/2) (aC,(0:Int),(0:Int),()) (by lia));rw[e];refine⟨by rw[aJ];lia,by rw[Jm];lia,by rw[Jm];lia,by rw[aJ];lia,by lia,by lia,hP,?_⟩;simp only[iA,π hlt];by_cases hq:Jo x0 x1 y0 ((i+j)/2)=true
   ·rw[π hq];exact(π hq).mpr ⟨by rw[aJ];lia,ih ((i+j)/2+1) j (by lia) (by lia) hj⟩
   ·rw[ν hq];exact(ν hq).mpr (ih i ((i+j)/2) (by lia) (by lia) (by lia))
  ·rw[ν (by lia)];simp only[iA,ν hlt,PY];by_cases hl:i<x0.length
   ·rw[π (by lia),π hl];exact⟨by lia,by lia,hp _ (cF x0 i (aC,(0:Int),(0:Int),()) hl),rfl⟩
   lia
def aGU:KK:=mL Xq (DO sr) yv (nN,lZ,()) (λ⟨x0,x1,⟨y0,_⟩,_⟩ h hwf K q =>
 (aCG _ K q ((x0.length+1+1))).1 (by rw[yu];exact aCH x0 x1 y0 h.1 h.2 (x0.length+1) 0 x0.length (by omega) (by omega) (aU _)))
def Jz(x0:Γ bP)(x1:bP)(x3:Int):Prop:=((yv x0 x1 (some 211))/\(if lZ x0 x1 (some 211)=true then True else(if decide ((x0.length:Int)>=x3)=true then True else((aYr x0)/\(bFJ (aPZ x0) (nN x0 x1 (some 211)) [x1])/\True))))
def wT(x0:Γ bP)(x1:bP)(x3:Int):Γ bP:=if lZ x0 x1 (some 211)then x0 else if decide ((x0.length:Int)>=x3)then x0 else ke (aPZ x0) (nN x0 x1 (some 211)) [x1]
def pB(x0:Γ bP)(x1:bP)(x3:Int):Int:=if lZ x0 x1 (some 211)then 4 else if decide ((x0.length:Int)>=x3)then 5 else 0
def aGW:KK:=mV Tryz.func210 [.own c8,.v c8,.fn 211 [],.v (.int .i64)] [.sl c8,.int .i64] [aR6,bGa,aGU,aR7] Jz (λ_=>[none]) (wT,pB,()) λ⟨⟨x0,x1,_,x3,_⟩,_⟩=>aL<|dL pr<|dL pr<|Hv λs1=>Hv λs2=>sQ s1<|sQ s2<|sQ (aEe [eW 0 0,eT 1 c8 x1,(2,pF 211 []),eI 3 x3,eO 5 1 0 [],eO 6 2 0 [],eW 8 5,eI 9 0,eI 10 (nN x0 x1 (some 211)),eB 11 (lZ x0 x1 (some 211)),(12,gF [UD (nN x0 x1 (some 211)),OS (lZ x0 x1 (some 211))]),eW 13 0,eT 14 c8 x1,(15,pF 318 [LM 2 0 []]),(16,gF [UD (nN x0 x1 (some 211)),OS (lZ x0 x1 (some 211))]),eI 17 (nN x0 x1 (some 211)),eB 18 (lZ x0 x1 (some 211)),eB 19 (lZ x0 x1 (some 211)),eB 20 (lZ x0 x1 (some 211)),eB 22 (decide ((x0.length:Int)>=x3)),eW 23 0,eI 24 (x0.length:Int),eI 25 x3,eB 26 (decide ((x0.length:Int)>=x3)),eW 28 0,eI 30 (nN x0 x1 (some 211)),eT 31 c8 x1,eW 33 5] [cL c8 x0,some (fE c8 [x1] true none (some false)),some (fE Ll [some 211] true none (some false)),none,none,cL c8 (ke (aPZ x0) (nN x0 x1 (some 211)) [x1])]) pr
def aYA(x0:bF)(x1:Δ×Δ×Γ Int×Γ Int×Unit):Prop:=if aB x1.1==aB (aA #[98,101,110,100])then aO7 x1.2.1/\Jn x0.1 (lV x1.2.1) 12/\True else if aB x1.1==aB (aA #[119,111,114,107,101,114])then aGG x1.2.1/\Jq x0.2.2.2.2.2.2.1 (lJ x1.2.1) 12/\True else if aB x1.1==aB (aA #[102,97,114,101])then aO9 x1.2.1/\Jt x0.2.2.2.2.2.2.2.2.1 (lX x1.2.1) 8/\True else if aB x1.1==aB (aA #[104,101,108,112,101,114])then aYe x1.2.1/\Jw x0.2.2.2.2.2.2.2.2.2.2.1 (lK x1.2.1) 10/\True else if aB x1.1==aB (aA #[116,97,115,107])then aYe x1.2.1/\Jz x0.2.2.2.2.2.2.2.2.2.2.2.1 (lK x1.2.1) 8/\True else if aB x1.1==aB (aA #[104,111,117,114])then aOB x1.2.1/\aUl x0.2.2.1 (o6 x1.2.1) 48/\True else if aB x1.1==aB (aA #[116,101,115,116])then xn x1.2.1/\aUt x0.2.2.2.2.2.2.2.2.2.1 (rB x1.2.1)/\True else if aB x1.1==aB (aA #[114,111,112,101])then aOC x1.2.1/\True else if aB x1.1==aB (aA #[109,111,116,111,114])then aOB x1.2.1/\True else aOC x1.2.1/\True
def yH(x0:bF)(x1:Δ×Δ×Γ Int×Γ Int×Unit):Bool:=if aB x1.1==aB (aA #[98,101,110,100])then yF x1.2.1 else if aB x1.1==aB (aA #[119,111,114,107,101,114])then wM x1.2.1 else if aB x1.1==aB (aA #[102,97,114,101])then yG x1.2.1 else if aB x1.1==aB (aA #[104,101,108,112,101,114])then wN x1.2.1 else if aB x1.1==aB (aA #[116,97,115,107])then wN x1.2.1 else if aB x1.1==aB (aA #[104,111,117,114])then AH x1.2.1 else if aB x1.1==aB (aA #[116,101,115,116])then C6 x1.2.1 else if aB x1.1==aB (aA #[114,111,112,101])then Gu x1.2.1 else if aB x1.1==aB (aA #[109,111,116,111,114])then Gv x1.2.1 else Gw x1.2.1
def yI(x0:bF)(x1:Δ×Δ×Γ Int×Γ Int×Unit):Int:=if aB x1.1==aB (aA #[98,101,110,100])then o7 x0.1 (lV x1.2.1) 12 else if aB x1.1==aB (aA #[119,111,114,107,101,114])then o8 x0.2.2.2.2.2.2.1 (lJ x1.2.1) 12 else if aB x1.1==aB (aA #[102,97,114,101])then o9 x0.2.2.2.2.2.2.2.2.1 (lX x1.2.1) 8 else if aB x1.1==aB (aA #[104,101,108,112,101,114])then pA x0.2.2.2.2.2.2.2.2.2.2.1 (lK x1.2.1) 10 else if aB x1.1==aB (aA #[116,97,115,107])then pB x0.2.2.2.2.2.2.2.2.2.2.2.1 (lK x1.2.1) 8 else if aB x1.1==aB (aA #[104,111,117,114])then EA x0.2.2.1 (o6 x1.2.1) 48 else if aB x1.1==aB (aA #[116,101,115,116])then EC x0.2.2.2.2.2.2.2.2.2.1 (rB x1.2.1)else if aB x1.1==aB (aA #[114,111,112,101])then 0 else if aB x1.1==aB (aA #[109,111,116,111,114])then 0 else 0
def yJ(x0:bF)(x1:Δ×Δ×Γ Int×Γ Int×Unit):bF:=if aB x1.1==aB (aA #[98,101,110,100])then(wP x0.1 (lV x1.2.1) 12,x0.2.1,x0.2.2.1,x0.2.2.2.1,x0.2.2.2.2.1,x0.2.2.2.2.2.1,x0.2.2.2.2.2.2.1,x0.2.2.2.2.2.2.2.1,x0.2.2.2.2.2.2.2.2.1,x0.2.2.2.2.2.2.2.2.2.1,x0.2.2.2.2.2.2.2.2.2.2.1,x0.2.2.2.2.2.2.2.2.2.2.2.1,())else if aB x1.1==aB (aA #[119,111,114,107,101,114])then(x0.1,x0.2.1,x0.2.2.1,x0.2.2.2.1,x0.2.2.2.2.1,x0.2.2.2.2.2.1,wQ x0.2.2.2.2.2.2.1 (lJ x1.2.1) 12,x0.2.2.2.2.2.2.2.1,x0.2.2.2.2.2.2.2.2.1,x0.2.2.2.2.2.2.2.2.2.1,x0.2.2.2.2.2.2.2.2.2.2.1,x0.2.2.2.2.2.2.2.2.2.2.2.1,())else if aB x1.1==aB (aA #[102,97,114,101])then(x0.1,x0.2.1,x0.2.2.1,x0.2.2.2.1,x0.2.2.2.2.1,x0.2.2.2.2.2.1,x0.2.2.2.2.2.2.1,x0.2.2.2.2.2.2.2.1,wR x0.2.2.2.2.2.2.2.2.1 (lX x1.2.1) 8,x0.2.2.2.2.2.2.2.2.2.1,x0.2.2.2.2.2.2.2.2.2.2.1,x0.2.2.2.2.2.2.2.2.2.2.2.1,())else if aB x1.1==aB (aA #[104,101,108,112,101,114])then(x0.1,x0.2.1,x0.2.2.1,x0.2.2.2.1,x0.2.2.2.2.1,x0.2.2.2.2.2.1,x0.2.2.2.2.2.2.1,x0.2.2.2.2.2.2.2.1,x0.2.2.2.2.2.2.2.2.1,x0.2.2.2.2.2.2.2.2.2.1,wS x0.2.2.2.2.2.2.2.2.2.2.1 (lK x1.2.1) 10,x0.2.2.2.2.2.2.2.2.2.2.2.1,())else if aB x1.1==aB (aA #[116,97,115,107])then(x0.1,x0.2.1,x0.2.2.1,x0.2.2.2.1,x0.2.2.2.2.1,x0.2.2.2.2.2.1,x0.2.2.2.2.2.2.1,x0.2.2.2.2.2.2.2.1,x0.2.2.2.2.2.2.2.2.1,x0.2.2.2.2.2.2.2.2.2.1,x0.2.2.2.2.2.2.2.2.2.2.1,wT x0.2.2.2.2.2.2.2.2.2.2.2.1 (lK x1.2.1) 8,())else if aB x1.1==aB (aA #[104,111,117,114])then(x0.1,x0.2.1,Mj x0.2.2.1 (o6 x1.2.1) 48,x0.2.2.2.1,x0.2.2.2.2.1,x0.2.2.2.2.2.1,x0.2.2.2.2.2.2.1,x0.2.2.2.2.2.2.2.1,x0.2.2.2.2.2.2.2.2.1,x0.2.2.2.2.2.2.2.2.2.1,x0.2.2.2.2.2.2.2.2.2.2.1,x0.2.2.2.2.2.2.2.2.2.2.2.1,())else if aB x1.1==aB (aA #[116,101,115,116])then(x0.1,x0.2.1,x0.2.2.1,x0.2.2.2.1,x0.2.2.2.2.1,x0.2.2.2.2.2.1,x0.2.2.2.2.2.2.1,x0.2.2.2.2.2.2.2.1,x0.2.2.2.2.2.2.2.2.1,JK x0.2.2.2.2.2.2.2.2.2.1 (rB x1.2.1),x0.2.2.2.2.2.2.2.2.2.2.1,x0.2.2.2.2.2.2.2.2.2.2.2.1,())else if aB x1.1==aB (aA #[114,111,112,101])then(x0.1,(Jh x1.2.1),x0.2.2.1,x0.2.2.2.1,x0.2.2.2.2.1,x0.2.2.2.2.2.1,x0.2.2.2.2.2.2.1,x0.2.2.2.2.2.2.2.1,x0.2.2.2.2.2.2.2.2.1,x0.2.2.2.2.2.2.2.2.2.1,x0.2.2.2.2.2.2.2.2.2.2.1,x0.2.2.2.2.2.2.2.2.2.2.2.1,())else if aB x1.1==aB (aA #[109,111,116,111,114])then(x0.1,x0.2.1,x0.2.2.1,x0.2.2.2.1,(Ji x1.2.1),x0.2.2.2.2.2.1,x0.2.2.2.2.2.2.1,x0.2.2.2.2.2.2.2.1,x0.2.2.2.2.2.2.2.2.1,x0.2.2.2.2.2.2.2.2.2.1,x0.2.2.2.2.2.2.2.2.2.2.1,x0.2.2.2.2.2.2.2.2.2.2.2.1,())else(x0.1,x0.2.1,x0.2.2.1,x0.2.2.2.1,x0.2.2.2.2.1,x0.2.2.2.2.2.1,x0.2.2.2.2.2.2.1,(Jj x1.2.1),x0.2.2.2.2.2.2.2.2.1,x0.2.2.2.2.2.2.2.2.2.1,x0.2.2.2.2.2.2.2.2.2.2.1,x0.2.2.2.2.2.2.2.2.2.2.2.1,())
def bGc:KK:=mV Tryz.func128 [.po iT,.v Km] [.bool,.int .i64] [bFz,bF1,bF3,bF7,bF8,bF9,bCE,bDv,bCK,bFA,bFB,bFC,aGK,aGN,aGQ,aGT,aGW] aYA (λx=>[some ⟨.cons (.sl eC) YA1,[yJ x.1 x.2.1]⟩]) (yH,yI,()) λ⟨⟨x0,x1,_⟩,_⟩=>sF (aL<|Hv λs1=>sQ s1<|sQ (aEe [eP 0 8 0 iT,eT 1 Km x1,eO 3 9 0 [],eB 4 false,eI 5 0,eB 6 (yF x1.2.1),eI 7 (o7 x0.1 (lV x1.2.1) 12),eO 8 10 0 [],eO 15 9 0 [0],eS 16 x1.1,eB 26 (aB x1.1==aB (aA #[98,101,110,100])),eB 27 (aB x1.1==aB (aA #[98,101,110,100])),(28,gF [mZ eC (lV x1.2.1),OS (yF x1.2.1)]),eO 29 9 0 [1],eS 30 x1.2.1,(31,gF [mZ eC (lV x1.2.1),OS (yF x1.2.1)]),eT 32 eC (lV x1.2.1),eB 33 (yF x1.2.1),(34,gF [qC 11 none,UD (o7 x0.1 (lV x1.2.1) 12)]),eP 35 8 0 iT,eP 36 8 0 iT,eP 37 8 0 iT,eP 38 8 0 (.sl eC),eT 40 eC (lV x1.2.1),(41,gF [qC 11 none,UD (o7 x0.1 (lV x1.2.1) 12)]),eW 42 11,eI 43 (o7 x0.1 (lV x1.2.1) 12),eP 44 8 0 iT,eP 45 8 0 (.sl eC)] [none,cL cZ x0.2.2.1,cL cZ x0.2.2.2.1,cL c8 x0.2.2.2.2.2.2.1,cL eC x0.2.2.2.2.2.2.2.2.1,cL cZ x0.2.2.2.2.2.2.2.2.2.1,cL c8 x0.2.2.2.2.2.2.2.2.2.2.1,cL c8 x0.2.2.2.2.2.2.2.2.2.2.2.1,TD x0 11 1 2 3 4 5 6 7,some (fE Km [x1] true none (some false)),some (fE eC [lV x1.2.1] true none (some false)),cL eC (wP x0.1 (lV x1.2.1) 12)]) pr)<|sF (aL<|Hv λs1=>sQ s1<|sQ (aEe [eP 0 8 0 iT,eT 1 Km x1,eO 3 9 0 [],eB 4 false,eI 5 0,eB 6 (wM x1.2.1),eI 7 (o8 x0.2.2.2.2.2.2.1 (lJ x1.2.1) 12),eO 9 10 0 [],eO 15 9 0 [0],eS 16 x1.1,eB 26 (aB x1.1==aB (aA #[98,101,110,100])),eB 27 (aB x1.1==aB (aA #[98,101,110,100])),eB 46 (aB x1.1==aB (aA #[119,111,114,107,101,114])),eB 47 (aB x1.1==aB (aA #[119,111,114,107,101,114])),(48,gF [mZ c8 (lJ x1.2.1),OS (wM x1.2.1)]),eO 49 9 0 [1],eS 50 x1.2.1,(51,gF [mZ c8 (lJ x1.2.1),OS (wM x1.2.1)]),eT 52 c8 (lJ x1.2.1),eB 53 (wM x1.2.1),(54,gF [qC 11 none,UD (o8 x0.2.2.2.2.2.2.1 (lJ x1.2.1) 12)]),eP 55 8 0 iT,eP 56 8 0 iT,eP 57 8 0 iT,eP 58 8 13 (.sl c8),eT 60 c8 (lJ x1.2.1),(61,gF [qC 11 none,UD (o8 x0.2.2.2.2.2.2.1 (lJ x1.2.1) 12)]),eW 62 11,eI 63 (o8 x0.2.2.2.2.2.2.1 (lJ x1.2.1) 12),eP 64 8 0 iT,eP 65 8 13 (.sl c8)] [cL eC x0.1,cL cZ x0.2.2.1,cL cZ x0.2.2.2.1,none,cL eC x0.2.2.2.2.2.2.2.2.1,cL cZ x0.2.2.2.2.2.2.2.2.2.1,cL c8 x0.2.2.2.2.2.2.2.2.2.2.1,cL c8 x0.2.2.2.2.2.2.2.2.2.2.2.1,TD x0 0 1 2 11 4 5 6 7,some (fE Km [x1] true none (some false)),some (fE c8 [lJ x1.2.1] true none (some false)),cL c8 (wQ x0.2.2.2.2.2.2.1 (lJ x1.2.1) 12)]) pr)<|sF (aL<|Hv λs1=>sQ s1<|sQ (aEe [eP 0 8 0 iT,eT 1 Km x1,eO 3 9 0 [],eB 4 false,eI 5 0,eB 6 (yG x1.2.1),eI 7 (o9 x0.2.2.2.2.2.2.2.2.1 (lX x1.2.1) 8),eO 10 10 0 [],eO 15 9 0 [0],eS 16 x1.1,eB 26 (aB x1.1==aB (aA #[98,101,110,100])),eB 27 (aB x1.1==aB (aA #[98,101,110,100])),eB 46 (aB x1.1==aB (aA #[119,111,114,107,101,114])),eB 47 (aB x1.1==aB (aA #[119,111,114,107,101,114])),eB 66 (aB x1.1==aB (aA #[102,97,114,101])),eB 67 (aB x1.1==aB (aA #[102,97,114,101])),(68,gF [mZ eC (lX x1.2.1),OS (yG x1.2.1)]),eO 69 9 0 [1],eS 70 x1.2.1,(71,gF [mZ eC (lX x1.2.1),OS (yG x1.2.1)]),eT 72 eC (lX x1.2.1),eB 73 (yG x1.2.1),(74,gF [qC 11 none,UD (o9 x0.2.2.2.2.2.2.2.2.1 (lX x1.2.1) 8)]),eP 75 8 0 iT,eP 76 8 0 iT,eP 77 8 0 iT,eP 78 8 18 (.sl eC),eT 80 eC (lX x1.2.1),(81,gF [qC 11 none,UD (o9 x0.2.2.2.2.2.2.2.2.1 (lX x1.2.1) 8)]),eW 82 11,eI 83 (o9 x0.2.2.2.2.2.2.2.2.1 (lX x1.2.1) 8),eP 84 8 0 iT,eP 85 8 18 (.sl eC)] [cL eC x0.1,cL cZ x0.2.2.1,cL cZ x0.2.2.2.1,cL c8 x0.2.2.2.2.2.2.1,none,cL cZ x0.2.2.2.2.2.2.2.2.2.1,cL c8 x0.2.2.2.2.2.2.2.2.2.2.1,cL c8 x0.2.2.2.2.2.2.2.2.2.2.2.1,TD x0 0 1 2 3 11 5 6 7,some (fE Km [x1] true none (some false)),some (fE eC [lX x1.2.1] true none (some false)),cL eC (wR x0.2.2.2.2.2.2.2.2.1 (lX x1.2.1) 8)]) pr)<|sF (aL<|Hv λs1=>sQ s1<|sQ (aEe [eP 0 8 0 iT,eT 1 Km x1,eO 3 9 0 [],eB 4 false,eI 5 0,eB 6 (wN x1.2.1),eI 7 (pA x0.2.2.2.2.2.2.2.2.2.2.1 (lK x1.2.1) 10),eO 11 10 0 [],eO 15 9 0 [0],eS 16 x1.1,eB 26 (aB x1.1==aB (aA #[98,101,110,100])),eB 27 (aB x1.1==aB (aA #[98,101,110,100])),eB 46 (aB x1.1==aB (aA #[119,111,114,107,101,114])),eB 47 (aB x1.1==aB (aA #[119,111,114,107,101,114])),eB 66 (aB x1.1==aB (aA #[102,97,114,101])),eB 67 (aB x1.1==aB (aA #[102,97,114,101])),eB 86 (aB x1.1==aB (aA #[104,101,108,112,101,114])),eB 87 (aB x1.1==aB (aA #[104,101,108,112,101,114])),(88,gF [mZ c8 (lK x1.2.1),OS (wN x1.2.1)]),eO 89 9 0 [1],eS 90 x1.2.1,(91,gF [mZ c8 (lK x1.2.1),OS (wN x1.2.1)]),eT 92 c8 (lK x1.2.1),eB 93 (wN x1.2.1),(94,gF [qC 11 none,UD (pA x0.2.2.2.2.2.2.2.2.2.2.1 (lK x1.2.1) 10)]),eP 95 8 0 iT,eP 96 8 0 iT,eP 97 8 0 iT,eP 98 8 20 (.sl c8),eT 100 c8 (lK x1.2.1),(101,gF [qC 11 none,UD (pA x0.2.2.2.2.2.2.2.2.2.2.1 (lK x1.2.1) 10)]),eW 102 11,eI 103 (pA x0.2.2.2.2.2.2.2.2.2.2.1 (lK x1.2.1) 10),eP 104 8 0 iT,eP 105 8 20 (.sl c8)] [cL eC x0.1,cL cZ x0.2.2.1,cL cZ x0.2.2.2.1,cL c8 x0.2.2.2.2.2.2.1,cL eC x0.2.2.2.2.2.2.2.2.1,cL cZ x0.2.2.2.2.2.2.2.2.2.1,none,cL c8 x0.2.2.2.2.2.2.2.2.2.2.2.1,TD x0 0 1 2 3 4 5 11 7,some (fE Km [x1] true none (some false)),some (fE c8 [lK x1.2.1] true none (some false)),cL c8 (wS x0.2.2.2.2.2.2.2.2.2.2.1 (lK x1.2.1) 10)]) pr)<|sF (aL<|Hv λs1=>sQ s1<|sQ (aEe [eP 0 8 0 iT,eT 1 Km x1,eO 3 9 0 [],eB 4 false,eI 5 0,eB 6 (wN x1.2.1),eI 7 (pB x0.2.2.2.2.2.2.2.2.2.2.2.1 (lK x1.2.1) 8),eO 12 10 0 [],eO 15 9 0 [0],eS 16 x1.1,eB 26 (aB x1.1==aB (aA #[98,101,110,100])),eB 27 (aB x1.1==aB (aA #[98,101,110,100])),eB 46 (aB x1.1==aB (aA #[119,111,114,107,101,114])),eB 47 (aB x1.1==aB (aA #[119,111,114,107,101,114])),eB 66 (aB x1.1==aB (aA #[102,97,114,101])),eB 67 (aB x1.1==aB (aA #[102,97,114,101])),eB 86 (aB x1.1==aB (aA #[104,101,108,112,101,114])),eB 87 (aB x1.1==aB (aA #[104,101,108,112,101,114])),eB 106 (aB x1.1==aB (aA #[116,97,115,107])),eB 107 (aB x1.1==aB (aA #[116,97,115,107])),(108,gF [mZ c8 (lK x1.2.1),OS (wN x1.2.1)]),eO 109 9 0 [1],eS 110 x1.2.1,(111,gF [mZ c8 (lK x1.2.1),OS (wN x1.2.1)]),eT 112 c8 (lK x1.2.1),eB 113 (wN x1.2.1),(114,gF [qC 11 none,UD (pB x0.2.2.2.2.2.2.2.2.2.2.2.1 (lK x1.2.1) 8)]),eP 115 8 0 iT,eP 116 8 0 iT,eP 117 8 0 iT,eP 118 8 21 (.sl c8),eT 120 c8 (lK x1.2.1),(121,gF [qC 11 none,UD (pB x0.2.2.2.2.2.2.2.2.2.2.2.1 (lK x1.2.1) 8)]),eW 122 11,eI 123 (pB x0.2.2.2.2.2.2.2.2.2.2.2.1 (lK x1.2.1) 8),eP 124 8 0 iT,eP 125 8 21 (.sl c8)] [cL eC x0.1,cL cZ x0.2.2.1,cL cZ x0.2.2.2.1,cL c8 x0.2.2.2.2.2.2.1,cL eC x0.2.2.2.2.2.2.2.2.1,cL cZ x0.2.2.2.2.2.2.2.2.2.1,cL c8 x0.2.2.2.2.2.2.2.2.2.2.1,none,TD x0 0 1 2 3 4 5 6 11,some (fE Km [x1] true none (some false)),some (fE c8 [lK x1.2.1] true none (some false)),cL c8 (wT x0.2.2.2.2.2.2.2.2.2.2.2.1 (lK x1.2.1) 8)]) pr)<|sF (aL<|Hv λs1=>sQ s1<|sQ (aEe [eP 0 8 0 iT,eT 1 Km x1,eO 3 9 0 [],eB 4 false,eI 5 0,eB 6 (AH x1.2.1),eI 7 (EA x0.2.2.1 (o6 x1.2.1) 48),eO 13 10 0 [],eO 15 9 0 [0],eS 16 x1.1,eB 26 (aB x1.1==aB (aA #[98,101,110,100])),eB 27 (aB x1.1==aB (aA #[98,101,110,100])),eB 46 (aB x1.1==aB (aA #[119,111,114,107,101,114])),eB 47 (aB x1.1==aB (aA #[119,111,114,107,101,114])),eB 66 (aB x1.1==aB (aA #[102,97,114,101])),eB 67 (aB x1.1==aB (aA #[102,97,114,101])),eB 86 (aB x1.1==aB (aA #[104,101,108,112,101,114])),eB 87 (aB x1.1==aB (aA #[104,101,108,112,101,114])),eB 106 (aB x1.1==aB (aA #[116,97,115,107])),eB 107 (aB x1.1==aB (aA #[116,97,115,107])),eB 126 (aB x1.1==aB (aA #[104,111,117,114])),eB 127 (aB x1.1==aB (aA #[104,111,117,114])),(128,gF [mZ cZ (o6 x1.2.1),OS (AH x1.2.1)]),eO 129 9 0 [1],eS 130 x1.2.1,(131,gF [mZ cZ (o6 x1.2.1),OS (AH x1.2.1)]),eT 132 cZ (o6 x1.2.1),eB 133 (AH x1.2.1),(134,gF [qC 11 none,UD (EA x0.2.2.1 (o6 x1.2.1) 48)]),eP 135 8 0 iT,eP 136 8 0 iT,eP 137 8 0 iT,eP 138 8 5 (.sl cZ),eT 140 cZ (o6 x1.2.1),(141,gF [qC 11 none,UD (EA x0.2.2.1 (o6 x1.2.1) 48)]),eW 142 11,eI 143 (EA x0.2.2.1 (o6 x1.2.1) 48),eP 144 8 0 iT,eP 145 8 5 (.sl cZ)] [cL eC x0.1,none,cL cZ x0.2.2.2.1,cL c8 x0.2.2.2.2.2.2.1,cL eC x0.2.2.2.2.2.2.2.2.1,cL cZ x0.2.2.2.2.2.2.2.2.2.1,cL c8 x0.2.2.2.2.2.2.2.2.2.2.1,cL c8 x0.2.2.2.2.2.2.2.2.2.2.2.1,TD x0 0 11 2 3 4 5 6 7,some (fE Km [x1] true none (some false)),some (fE cZ [o6 x1.2.1] true none (some false)),cL cZ (Mj x0.2.2.1 (o6 x1.2.1) 48)]) pr)<|sF (aL<|aL pr)<|sF (aL pr)<|sF (aL pr)<|aL pr
def aOF(x0:bF)(x1:Δ×Δ×Γ Int×Γ Int×Unit):Prop:=if aB x1.1==aB (aA #[101,118,101,110,116])then 0<(x1.2.2.1.length:Int)/\aUf x0.2.2.2.2.2.1 (aD x1.2.2.1 0 0)/\if tK x0.2.2.2.2.2.1 (aD x1.2.2.1 0 0) != 0 then True else aXU (x7 x0.2.2.2.2.2.1 (aD x1.2.2.1 0 0))/\True else 0<(x1.2.2.1.length:Int)/\1<(x1.2.2.1.length:Int)/\2<(x1.2.2.1.length:Int)/\if !qV (aD x1.2.2.1 0 0,aD x1.2.2.1 1 0,aD x1.2.2.1 2 0,())then True else aUl x0.2.2.2.1 (aD x1.2.2.1 0 0,aD x1.2.2.1 1 0,aD x1.2.2.1 2 0,()) 8/\True
def KA(x0:bF)(x1:Δ×Δ×Γ Int×Γ Int×Unit):Γ Δ:=if aB x1.1==aB (aA #[101,118,101,110,116])then(if tK x0.2.2.2.2.2.1 (aD x1.2.2.1 0 0) != 0 then [] else [AG (x7 x0.2.2.2.2.2.1 (aD x1.2.2.1 0 0))])else if !qV (aD x1.2.2.1 0 0,aD x1.2.2.1 1 0,aD x1.2.2.1 2 0,())then [] else [aA #[111,107]]
def KB(x0:bF)(x1:Δ×Δ×Γ Int×Γ Int×Unit):Int:=if aB x1.1==aB (aA #[101,118,101,110,116])then(if tK x0.2.2.2.2.2.1 (aD x1.2.2.1 0 0) != 0 then tK x0.2.2.2.2.2.1 (aD x1.2.2.1 0 0)else 0)else if !qV (aD x1.2.2.1 0 0,aD x1.2.2.1 1 0,aD x1.2.2.1 2 0,())then 2 else EA x0.2.2.2.1 (aD x1.2.2.1 0 0,aD x1.2.2.1 1 0,aD x1.2.2.1 2 0,()) 8
def KC(x0:bF)(x1:Δ×Δ×Γ Int×Γ Int×Unit):bF:=if aB x1.1==aB (aA #[101,118,101,110,116])then(if tK x0.2.2.2.2.2.1 (aD x1.2.2.1 0 0) != 0 then x0 else(x0.1,x0.2.1,x0.2.2.1,x0.2.2.2.1,x0.2.2.2.2.1,(x7 x0.2.2.2.2.2.1 (aD x1.2.2.1 0 0)),x0.2.2.2.2.2.2.1,x0.2.2.2.2.2.2.2.1,x0.2.2.2.2.2.2.2.2.1,x0.2.2.2.2.2.2.2.2.2.1,x0.2.2.2.2.2.2.2.2.2.2.1,x0.2.2.2.2.2.2.2.2.2.2.2.1,()))else if !qV (aD x1.2.2.1 0 0,aD x1.2.2.1 1 0,aD x1.2.2.1 2 0,())then x0 else(x0.1,x0.2.1,x0.2.2.1,Mj x0.2.2.2.1 (aD x1.2.2.1 0 0,aD x1.2.2.1 1 0,aD x1.2.2.1 2 0,()) 8,x0.2.2.2.2.1,x0.2.2.2.2.2.1,x0.2.2.2.2.2.2.1,x0.2.2.2.2.2.2.2.1,x0.2.2.2.2.2.2.2.2.1,x0.2.2.2.2.2.2.2.2.2.1,x0.2.2.2.2.2.2.2.2.2.2.1,x0.2.2.2.2.2.2.2.2.2.2.2.1,())
def bGe:KK:=mV Tryz.func129 [.po iT,.v Km] [.sl .str,.int .i64] [bC8,bFx,aQs,bCH] aOF (λx=>[some ⟨.cons (.sl eC) YA1,[KC x.1 x.2.1]⟩]) (KA,KB,()) λ⟨⟨x0,x1,_⟩,_⟩=>sF (pq 0<|aL<|aL<|sF pr<|aL pr)<|pq 0<|aL<|pq 1<|aL<|pq 2<|aL<|bH<|sF pr<|Hv λs3=>sQ s3<|sQ (aEe [eP 0 8 0 iT,eT 1 Km x1,eO 3 9 0 [],(4,.a (.val (.slice none 0 0))),eI 5 0,eO 8 10 0 [],eI 9 (EA x0.2.2.2.1 (aD x1.2.2.1 0 0,aD x1.2.2.1 1 0,aD x1.2.2.1 2 0,()) 8),eO 10 9 0 [0],eS 11 x1.1,eB 12 (aB x1.1==aB (aA #[101,118,101,110,116])),eO 35 9 0 [2],eL 36 (.int .i64) x1.2.2.1,(37,.a (.ptr (.int .i64) (aD x1.2.2.1 0 0))),eI 38 (aD x1.2.2.1 0 0),eO 39 9 0 [2],eL 40 (.int .i64) x1.2.2.1,(41,.a (.ptr (.int .i64) (aD x1.2.2.1 1 0))),eI 42 (aD x1.2.2.1 1 0),eO 43 9 0 [2],eL 44 (.int .i64) x1.2.2.1,(45,.a (.ptr (.int .i64) (aD x1.2.2.1 2 0))),eI 46 (aD x1.2.2.1 2 0),eT 47 cZ (aD x1.2.2.1 0 0,aD x1.2.2.1 1 0,aD x1.2.2.1 2 0,()),eT 48 cZ (aD x1.2.2.1 0 0,aD x1.2.2.1 1 0,aD x1.2.2.1 2 0,()),eB 49 (qV (aD x1.2.2.1 0 0,aD x1.2.2.1 1 0,aD x1.2.2.1 2 0,())),eB 50 (!qV (aD x1.2.2.1 0 0,aD x1.2.2.1 1 0,aD x1.2.2.1 2 0,())),(51,gF [qC 11 none,UD (EA x0.2.2.2.1 (aD x1.2.2.1 0 0,aD x1.2.2.1 1 0,aD x1.2.2.1 2 0,()) 8)]),eP 52 8 0 iT,eP 53 8 0 iT,eP 54 8 0 iT,eP 55 8 6 (.sl cZ),eT 57 cZ (aD x1.2.2.1 0 0,aD x1.2.2.1 1 0,aD x1.2.2.1 2 0,()),(58,gF [qC 11 none,UD (EA x0.2.2.2.1 (aD x1.2.2.1 0 0,aD x1.2.2.1 1 0,aD x1.2.2.1 2 0,()) 8)]),eW 59 11,eI 60 (EA x0.2.2.2.1 (aD x1.2.2.1 0 0,aD x1.2.2.1 1 0,aD x1.2.2.1 2 0,()) 8),eP 61 8 0 iT,eP 62 8 6 (.sl cZ)] [cL eC x0.1,cL cZ x0.2.2.1,none,cL c8 x0.2.2.2.2.2.2.1,cL eC x0.2.2.2.2.2.2.2.2.1,cL cZ x0.2.2.2.2.2.2.2.2.2.1,cL c8 x0.2.2.2.2.2.2.2.2.2.2.1,cL c8 x0.2.2.2.2.2.2.2.2.2.2.2.1,TD x0 0 1 11 3 4 5 6 7,some (fE Km [x1] true none (some false)),some (fE cZ [(aD x1.2.2.1 0 0,aD x1.2.2.1 1 0,aD x1.2.2.1 2 0,())] true none (some false)),cL cZ (Mj x0.2.2.2.1 (aD x1.2.2.1 0 0,aD x1.2.2.1 1 0,aD x1.2.2.1 2 0,()) 8)]) pr
def aCI(x0:bF)(x1:Δ×Δ×Γ Int×Γ Int×Unit):Prop:=if aB x1.1==aB (aA #[115,108,111,119,101,115,116])then 0<(x1.2.2.1.length:Int)/\aJ9 x0.1 (aD x1.2.2.1 0 0)/\True else if aB x1.1==aB (aA #[114,101,115,101,114,118,101])then 0<(x1.2.2.1.length:Int)/\aNo x0.2.1 (aD x1.2.2.1 0 0)/\True else if aB x1.1==aB (aA #[112,111,119,101,114])then 0<(x1.2.2.1.length:Int)/\1<(x1.2.2.1.length:Int)/\aNq x0.2.2.2.2.1 (aD x1.2.2.1 0 0) (aD x1.2.2.1 1 0)/\True else if aB x1.1==aB (aA #[118,111,116,101])then 0<(x1.2.2.1.length:Int)/\aUc x1.2.2.2.1 (aD x1.2.2.1 0 0)/\True else 0<(x1.2.2.1.length:Int)/\1<(x1.2.2.1.length:Int)/\2<(x1.2.2.1.length:Int)/\3<(x1.2.2.1.length:Int)/\4<(x1.2.2.1.length:Int)/\aNm x0.2.2.2.2.2.2.2.1 (aD x1.2.2.1 0 0) (aD x1.2.2.1 1 0) (aD x1.2.2.1 2 0) (aD x1.2.2.1 3 0) (aD x1.2.2.1 4 0)/\True
def tQ(x0:bF)(x1:Δ×Δ×Γ Int×Γ Int×Unit):Int:=if aB x1.1==aB (aA #[115,108,111,119,101,115,116])then GS x0.1 (aD x1.2.2.1 0 0)else if aB x1.1==aB (aA #[114,101,115,101,114,118,101])then RU x0.2.1 (aD x1.2.2.1 0 0)else if aB x1.1==aB (aA #[112,111,119,101,114])then RY x0.2.2.2.2.1 (aD x1.2.2.1 0 0) (aD x1.2.2.1 1 0)else if aB x1.1==aB (aA #[118,111,116,101])then GQ x1.2.2.2.1 (aD x1.2.2.1 0 0)else RO x0.2.2.2.2.2.2.2.1 (aD x1.2.2.1 0 0) (aD x1.2.2.1 1 0) (aD x1.2.2.1 2 0) (aD x1.2.2.1 3 0) (aD x1.2.2.1 4 0)
def Ck(x0:bF)(x1:Δ×Δ×Γ Int×Γ Int×Unit):Int:=if aB x1.1==aB (aA #[115,108,111,119,101,115,116])then Mo x0.1 (aD x1.2.2.1 0 0)else if aB x1.1==aB (aA #[114,101,115,101,114,118,101])then WP x0.2.1 (aD x1.2.2.1 0 0)else if aB x1.1==aB (aA #[112,111,119,101,114])then WQ x0.2.2.2.2.1 (aD x1.2.2.1 0 0) (aD x1.2.2.1 1 0)else if aB x1.1==aB (aA #[118,111,116,101])then JH x1.2.2.2.1 (aD x1.2.2.1 0 0)else WI x0.2.2.2.2.2.2.2.1 (aD x1.2.2.1 0 0) (aD x1.2.2.1 1 0) (aD x1.2.2.1 2 0) (aD x1.2.2.1 3 0) (aD x1.2.2.1 4 0)
def bGf:KK:=mB Tryz.func222 [.p iT,.v Km] [.int .i64,.int .i64] [bCZ,bCN,bCT,bC4,bCx] aCI (tQ,Ck,()) λ_=>dL (pq 0<|aL<|aL pr)<|dL (pq 0<|aL<|aL pr)<|dL (pq 0<|aL<|pq 1<|aL<|aL pr)<|dL (pq 0<|aL<|aL pr)<|pq 0<|aL<|pq 1<|aL<|pq 2<|aL<|pq 3<|aL<|pq 4<|aL<|aL pr
def aGX(x0:bF)(x1:Δ×Δ×Γ Int×Γ Int×Unit):Prop:=if aB x1.1==aB (aA #[114,117,110,110,105,110,103])then aMY x0.2.2.2.1 x0.2.2.1/\True else if aB x1.1==aB (aA #[99,111,118,101,114])then 0<(x1.2.2.1.length:Int)/\1<(x1.2.2.1.length:Int)/\bFh x0.2.2.2.2.2.2.1 (aD x1.2.2.1 0 0) (aD x1.2.2.1 1 0)/\True else if aB x1.1==aB (aA #[113,117,101,117,101])then 0<(x1.2.2.1.length:Int)/\1<(x1.2.2.1.length:Int)/\aGe x1.2.2.2.1 (aD x1.2.2.1 0 0) (aD x1.2.2.1 1 0)/\True else aTy x0.2.2.2.2.2.2.2.2.2.2.1 x0.2.2.2.2.2.2.2.2.2.2.2.1/\True
def E6(x0:bF)(x1:Δ×Δ×Γ Int×Γ Int×Unit):Γ Int:=if aB x1.1==aB (aA #[114,117,110,110,105,110,103])then Du x0.2.2.2.1 x0.2.2.1 else if aB x1.1==aB (aA #[99,111,118,101,114])then E2 x0.2.2.2.2.2.2.1 (aD x1.2.2.1 0 0) (aD x1.2.2.1 1 0)else if aB x1.1==aB (aA #[113,117,101,117,101])then Iy x1.2.2.2.1 (aD x1.2.2.1 0 0) (aD x1.2.2.1 1 0)else JA x0.2.2.2.2.2.2.2.2.2.2.1 x0.2.2.2.2.2.2.2.2.2.2.2.1
def Gy(x0:bF)(x1:Δ×Δ×Γ Int×Γ Int×Unit):Int:=if aB x1.1==aB (aA #[114,117,110,110,105,110,103])then Iv x0.2.2.2.1 x0.2.2.1 else if aB x1.1==aB (aA #[99,111,118,101,114])then Na x0.2.2.2.2.2.2.1 (aD x1.2.2.1 0 0) (aD x1.2.2.1 1 0)else if aB x1.1==aB (aA #[113,117,101,117,101])then RB x1.2.2.2.1 (aD x1.2.2.1 0 0) (aD x1.2.2.1 1 0)else RG x0.2.2.2.2.2.2.2.2.2.2.1 x0.2.2.2.2.2.2.2.2.2.2.2.1
def bGg:KK:=mA (D su [.p iT,.v Km] [.sl Za,.int .i64] [.frz,.own] [bBJ,bFi,bBQ,bCb] false []) (DO su) aGX (E6,Gy,()) λ_=>dL (aL pr)<|dL (pq 0<|aL<|pq 1<|aL<|aL pr)<|dL (pq 0<|aL<|pq 1<|aL<|aL pr)<|aL pr
end
def ki(x0 x1:Δ):Δ:=⟨(fO x0.data.toList (x1.data.toList.getD 0 0)).toArray⟩
def aYC(x0 x1:Δ):Prop:=∃c:UInt8,x1=⟨#[c]⟩/\c.toNat<128
def bGh:Am.Spec:={ sig:=aU1,pre:=λ⟨x0,x1,_⟩=>aYC x0 x1,res:=λ⟨x0,x1,_⟩=>[⟨qA,ki x0 x1⟩] }
def aYD(l:Γ UInt8)(c:UInt8):(fO l c).length<=l.length:=by
 unfold fO
 first
 | (rw[List.length_reverse];exact Nat.le_trans (List.dropWhile_sublist _).length_le (by simp))
 | (simp)
def aYE:Th 451 bGh:=Ay Tryz.func451<|oU rfl λw ⟨x0,x1,_⟩ vs bss hg hp hw ha=>by
 obtain⟨v0,s0,_,_,rfl,_,⟨_,rfl,_⟩,v1,s1,_,_,rfl,_,⟨_,rfl,_⟩,rfl,_⟩:=ha;have hi:x0.size<=maxLen:=hw.1;obtain⟨c,rfl,hc⟩:=hp;refine⟨λd hd=>?_,?_⟩
 ·rw[List.mem_singleton.1 hd];refine⟨rfl,?_⟩;show (rD _).size<=maxLen;rw[List.size_toArray];have e:x0.data.toList.length=x0.size:=rfl;have:=aYD x0.data.toList c;show (fO x0.data.toList c).length<=maxLen;omega
 ·refine(Tryz.strings_TrimRight_one x0 c hc w hi).mono ?_;rintro e w' ⟨rfl,rfl⟩;exact⟨rfl,dD.refl _ _⟩
def bGi:KK:=⟨451,bGh,aYE⟩
noncomputable section
def SJ(x0:Int):Bool:=if decide (x0<32)then true else decide (x0>126)
def aR8:KK:=mB Tryz.func546 [.v (.int .u8)] [.bool] [] nP (SJ,()) λ_=>dS pr pr
def Xs:gC:=D0 H5 [.v (.sl (.int .u8)),.fn 546 []] [.int .i64] [aR8]
def aCJ(ds:Γ aS)(K:fG)(q:Nat->Value):∀n,(∀ {x0},RI0 SJ 0 n x0 ds->St Xs (x0,(),()) ds [] K q)/\(∀ {v8 x0},RI SJ 0 n v8 x0 ds->Cu Xs 2 ([eL 0 (.int .u8) x0,(1,pF 546 []),eI 7 (x0.length:Int),eI 8 v8],[]) ds [] K q):=nI ⟨aH,aH⟩ λn ⟨i,i2⟩=>⟨bX i2,
  bD (cP<|bH<|bD cM<|aL<|bX i2) cM⟩
def Ni(x0:Γ (Int)):Int:=idx (x0.findIdx? SJ)
def aGY:KK:=mL Xs (DO H5) nP (Ni,()) (λ⟨x0,_⟩ h hwf K q =>
 (aCJ _ K q _).1 (Vl hwf.1.1))
theorem aCK(x0:Γ (Int)):decide (Ni x0>=0)=x0.any SJ:=Vm
def Nj(x0:Γ Int):Bool:=decide (Ni x0>=0)
def aGZ:KK:=mB sw [.v (.sl (.int .u8)),.fn 546 []] [.bool] [aGY,aR8] nP (Nj,()) λ_=>bH pr
def SK(x0:Δ):Bool:=if decide ((↑(aG x0):Int)<=100)then !Nj (cD x0)else false
def bGj:KK:=mB Tryz.func541 [.v (.str)] [.bool] [aGZ] nP (SK,()) λ_=>dS (bH pr) pr
def Nk(x0:Δ):Bool := !SK x0
def aR9:KK:=mB Tryz.func540 [.v (.str)] [.bool] [bGj] nP (Nk,()) λ_=>bH pr
def Xt:gC:=D0 H6 [.v (.sl .str),.fn 540 []] [.int .i64] [aR9]
def aCL(ds:Γ aS)(K:fG)(q:Nat->Value):∀n,(∀ {x0},RI0 Nk aC n x0 ds->St Xt (x0,(),()) ds [] K q)/\(∀ {v8 x0},RI Nk aC n v8 x0 ds->Cu Xt 2 ([eL 0 .str x0,(1,pF 540 []),eI 7 (x0.length:Int),eI 8 v8],[]) ds [] K q):=nI ⟨aH,aH⟩ λn ⟨i,i2⟩=>⟨bX i2,
  bD (cP<|bH<|bD cM<|aL<|bX i2) cM⟩
def Nl(x0:Γ (Δ)):Int:=idx (x0.findIdx? Nk)
def aHa:KK:=mL Xt (DO H6) nP (Nl,()) (λ⟨x0,_⟩ h hwf K q =>
 (aCL _ K q _).1 (Vl hwf.1.1))
theorem Xu(x0:Γ (Δ)):decide (Nl x0>=0)=x0.any Nk:=Vm
def Gz(x0:Γ Δ):Bool:=decide (Nl x0>=0)
def aHb:KK:=mB sx [.v (.sl .str),.fn 540 []] [.bool] [aHa,aR9] nP (Gz,()) λ_=>bH pr
def Xv(x0:Γ Δ):Bool:=if decide ((x0.length:Int)<=200)then !Gz x0 else false
def bGk:KK:=mB Tryz.func514 [.v (.sl .str)] [.bool] [aHb] nP (Xv,()) λ_=>dS (bH pr) pr
def HC(x0:Γ Δ):Γ Δ:=if !Xv x0 then [] else x0
def SL(x0:Γ Δ):Int:=if !Xv x0 then 5 else 0
def bGl:KK:=mV Tryz.func452 [.own .str] [.sl .str,.int .i64] [bGk] nP (λ_=>[none]) (HC,SL,()) λ_=>bH<|vY pr pr
def SM(x0:Int):Bool:=if decide (x0<33)then true else decide (x0>126)
def aRA:KK:=mB Tryz.func509 [.v (.int .u8)] [.bool] [] nP (SM,()) λ_=>dS pr pr
def Xw:gC:=D0 H5 [.v (.sl (.int .u8)),.fn 509 []] [.int .i64] [aRA]
def aCM(ds:Γ aS)(K:fG)(q:Nat->Value):∀n,(∀ {x0},RI0 SM 0 n x0 ds->St Xw (x0,(),()) ds [] K q)/\(∀ {v8 x0},RI SM 0 n v8 x0 ds->Cu Xw 2 ([eL 0 (.int .u8) x0,(1,pF 509 []),eI 7 (x0.length:Int),eI 8 v8],[]) ds [] K q):=nI ⟨aH,aH⟩ λn ⟨i,i2⟩=>⟨bX i2,
  bD (cP<|bH<|bD cM<|aL<|bX i2) cM⟩
def Nm(x0:Γ (Int)):Int:=idx (x0.findIdx? SM)
def aHc:KK:=mL Xw (DO H5) nP (Nm,()) (λ⟨x0,_⟩ h hwf K q =>
 (aCM _ K q _).1 (Vl hwf.1.1))
theorem aCN(x0:Γ (Int)):decide (Nm x0>=0)=x0.any SM:=Vm
def Nn(x0:Γ Int):Bool:=decide (Nm x0>=0)
def aHd:KK:=mB sw [.v (.sl (.int .u8)),.fn 509 []] [.bool] [aHc,aRA] nP (Nn,()) λ_=>bH pr
def No(x0:Δ):Bool:=Nn (cD x0)
def aRB:KK:=mB Tryz.func507 [.v (.str)] [.bool] [aHd] nP (No,()) λ_=>bH pr
def Xx:gC:=D0 H6 [.v (.sl .str),.fn 507 []] [.int .i64] [aRB]
def aCO(ds:Γ aS)(K:fG)(q:Nat->Value):∀n,(∀ {x0},RI0 No aC n x0 ds->St Xx (x0,(),()) ds [] K q)/\(∀ {v8 x0},RI No aC n v8 x0 ds->Cu Xx 2 ([eL 0 .str x0,(1,pF 507 []),eI 7 (x0.length:Int),eI 8 v8],[]) ds [] K q):=nI ⟨aH,aH⟩ λn ⟨i,i2⟩=>⟨bX i2,
  bD (cP<|bH<|bD cM<|aL<|bX i2) cM⟩
def Np(x0:Γ (Δ)):Int:=idx (x0.findIdx? No)
def aHe:KK:=mL Xx (DO H6) nP (Np,()) (λ⟨x0,_⟩ h hwf K q =>
 (aCO _ K q _).1 (Vl hwf.1.1))
theorem aCP(x0:Γ (Δ)):decide (Np x0>=0)=x0.any No:=Vm
def HF(x0:Γ Δ):Bool:=decide (Np x0>=0)
def aHf:KK:=mB sx [.v (.sl .str),.fn 507 []] [.bool] [aHe,aRB] nP (HF,()) λ_=>bH pr
def aCQ(x0:Γ Δ):Bool:=if decide ((x0.length:Int)<=12)then !HF x0 else false
def bGm:KK:=mB Tryz.func450 [.v (.sl .str)] [.bool] [aHf] nP (aCQ,()) λ_=>dS (bH pr) pr
def SN(x0:Γ Δ):Bool := !aCQ x0
def aRC:KK:=mB Tryz.func449 [.v (.sl .str)] [.bool] [bGm] nP (SN,()) λ_=>bH pr
def Xy:gC:=D0 sy [.v (.sl (.sl .str)),.fn 449 []] [.int .i64] [aRC]
def aCR(ds:Γ aS)(K:fG)(q:Nat->Value):∀n,(∀ {x0},RI0 SN [] n x0 ds->St Xy (x0,(),()) ds [] K q)/\(∀ {v8 x0},RI SN [] n v8 x0 ds->Cu Xy 2 ([eL 0 (.sl .str) x0,(1,pF 449 []),eI 7 (x0.length:Int),eI 8 v8],[]) ds [] K q):=nI ⟨aH,aH⟩ λn ⟨i,i2⟩=>⟨bX i2,
  bD (cP<|bH<|bD cM<|aL<|bX i2) cM⟩
def Nq(x0:Γ (Γ (Δ))):Int:=idx (x0.findIdx? SN)
def aHg:KK:=mL Xy (DO sy) nP (Nq,()) (λ⟨x0,_⟩ h hwf K q =>
 (aCR _ K q _).1 (Vl hwf.1.1))
theorem aCS(x0:Γ (Γ (Δ))):decide (Nq x0>=0)=x0.any SN:=Vm
def tR(x0:Γ (Γ Δ)):Bool:=decide (Nq x0>=0)
def aHh:KK:=mB Tryz.func448 [.v (.sl (.sl .str)),.fn 449 []] [.bool] [aHg,aRC] nP (tR,()) λ_=>bH pr
def aHi:gC:=D0 ta [.v (.sl (.sl .str))] [.sl .str,.int .i64] [aQN,aEr,bGi,bGl,aHh]
mutual
def aOG:Nat->Γ (Γ Δ)->Γ aS->Prop
 | 0,_,_=>False
 | n+1,x0,ds=>if tR x0 then ds=[aI (.sl .str) [],aI (.int .i64) 2] else Nr n 0 ([0,0,0,0,0,0,0,0,0,0,0,0]) x0 ds
def Nr:Nat->Int->Γ Int->Γ (Γ Δ)->Γ aS->Prop
 | 0,_,_,_,_=>False
 | n+1,v20,h0,x0,ds=>if decide (v20<(x0.length:Int))then 0<=v20/\v20<(x0.length:Int)/\SO n 0 h0 x0 v20 ds else Db n 0 ([]) x0 h0 ds
def SO:Nat->Int->Γ Int->Γ (Γ Δ)->Int->Γ aS->Prop
 | 0,_,_,_,_,_=>False
 | n+1,v26,h0,x0,v20,ds=>if decide (v26<(↑(aF (aD x0 (aE v20) [])):Int))then 0<=v26/\v26<(↑(aF (aD x0 (aE v20) [])):Int)/\0<=v26/\v26<(h0.length:Int)/\0<=v26/\v26<(h0.length:Int)/\aX .i64 (v26+1)/\SO n (v26+1) (eU h0 (aE v26) (if aD h0 (aE v26) 0<(↑(aG (aD (aD x0 (aE v20) []) (aE v26) aC)):Int)then(↑(aG (aD (aD x0 (aE v20) []) (aE v26) aC)):Int)else aD h0 (aE v26) 0)) x0 v20 ds else aX .i64 (v20+1)/\Nr n (v20+1) h0 x0 ds
def Db:Nat->Int->Γ Δ->Γ (Γ Δ)->Γ Int->Γ aS->Prop
 | 0,_,_,_,_,_=>False
 | n+1,v45,h1,x0,h0,ds=>if decide (v45<(x0.length:Int))then 0<=v45/\v45<(x0.length:Int)/\LB n 0 ([]) x0 v45 h0 h1 ds else ds=[aI (.sl .str) (HC h1),aI (.int .i64) (SL h1)]
def LB:Nat->Int->Γ Δ->Γ (Γ Δ)->Int->Γ Int->Γ Δ->Γ aS->Prop
 | 0,_,_,_,_,_,_,_=>False
 | n+1,v51,h2,x0,v45,h0,h1,ds=>if decide (v51<(↑(aF (aD x0 (aE v45) [])):Int))then 0<=v51/\v51<(↑(aF (aD x0 (aE v45) [])):Int)/\0<=v51/\v51<(h0.length:Int)/\aX .i64 (aD h0 (aE v51) 0-(↑(aG (aD (aD x0 (aE v45) []) (aE v51) aC)):Int))/\aUz (aA #[32]) (aD h0 (aE v51) 0-(↑(aG (aD (aD x0 (aE v45) []) (aE v51) aC)):Int))/\aG (aD (aD x0 (aE v45) []) (aE v51) aC)+aG (GU (aA #[32]) (aD h0 (aE v51) 0-(↑(aG (aD (aD x0 (aE v45) []) (aE v51) aC)):Int)))<=9223372036854775807/\(aF h2+1)*16<=140737488355328/\aX .i64 (v51+1)/\LB n (v51+1) (h2++[aD (aD x0 (aE v45) []) (aE v51) aC++GU (aA #[32]) (aD h0 (aE v51) 0-(↑(aG (aD (aD x0 (aE v45) []) (aE v51) aC)):Int))]) x0 v45 h0 h1 ds else ZC h2 (aA #[32,32])/\aYC (rA h2 (aA #[32,32])) (aA #[32])/\(aF h1+1)*16<=140737488355328/\aX .i64 (v45+1)/\Db n (v45+1) (h1++[ki (rA h2 (aA #[32,32])) (aA #[32])]) x0 h0 ds
end
def aYF(ds:Γ aS)(K:fG)(q:Nat->Value):∀n,(∀ {x0},aOG n x0 ds->St aHi (x0,()) ds [] K q)/\(∀ {v20 h0 x0},Nr n v20 h0 x0 ds->Cu aHi 5 ([eL 0 (.sl .str) x0,eW 4 0,eL 18 (.sl .str) x0,eI 19 (x0.length:Int),eI 20 v20],[cL (.int .i64) h0]) ds [] K q)/\(∀ {v26 h0 x0 v20},SO n v26 h0 x0 v20 ds->Cu aHi 8 ([eL 0 (.sl .str) x0,eW 4 0,eL 18 (.sl .str) x0,eI 19 (x0.length:Int),eI 20 v20,eL 24 .str (aD x0 (aE v20) []),eI 25 (↑(aF (aD x0 (aE v20) [])):Int),eI 26 v26],[cL (.int .i64) h0]) ds [] K q)/\(∀ {v45 h1 x0 h0},Db n v45 h1 x0 h0 ds->Cu aHi 15 ([eW 4 0,eW 9 1,eL 43 (.sl .str) x0,eI 44 (x0.length:Int),eI 45 v45],[cL (.int .i64) h0,cL .str h1]) ds [] K q)/\(∀ {v51 h2 x0 v45 h0 h1},LB n v51 h2 x0 v45 h0 h1 ds->Cu aHi 19 ([eW 4 0,eW 9 1,eW 12 2,eL 43 (.sl .str) x0,eI 44 (x0.length:Int),eI 45 v45,eL 49 .str (aD x0 (aE v45) []),eI 50 (↑(aF (aD x0 (aE v45) [])):Int),eI 51 v51],[cL (.int .i64) h0,cL .str h1,cL .str h2]) ds [] K q):=nI ⟨aH,aH,aH,aH,aH⟩ λn ⟨i,i5,i8,i15,i19⟩=>⟨bH<|bD cM<|pq 12<|sQ ((by decide):(12:Int)<=(12:Int))<|sQ ((by decide):(96:Int)<=(281474976710656:Int))<|bX i5,
  bD (cP<|bX i8)<|Dr [(9,.str)] i15,
  bD (cP<|cP<|cP<|aL<|bX i8)<|aL<|bX i5,
  bD (cP<|Dr [(12,.str)] i19)<|bH cM,
  bD (cP<|cP<|aL<|aL<|aL<|aL<|aL<|Dr [(12,.str)] i19)<|aL<|aL<|aL<|aL<|Dr [(9,.str)] i15⟩
def KD(h:Γ Int)(k:Nat)(c:Δ):Γ Int:=h.set k (if h.getD k 0<((c.size:Nat):Int)then((c.size:Nat):Int)else h.getD k 0)
def wU:Nat->Γ Δ->Γ Int->Γ Int
 | _,[],h=>h
 | k,c::r,h=>wU (k+1) r (KD h k c)
def LC(x0:Γ (Γ Δ)):Γ Int:=x0.foldl (λh r=>wU 0 r h) [0,0,0,0,0,0,0,0,0,0,0,0]
def Xz(h:Γ Int)(k:Nat)(c:Δ):Δ:=c++GU (aA #[32]) (h.getD k 0-((c.size:Nat):Int))
def tU(h:Γ Int):Nat->Γ Δ->Γ Δ
 | _,[]=>[]
 | k,c::r=>Xz h k c::tU h (k+1) r
def aCT(w:Γ Δ):Δ:=ki (rA w (aA #[32,32])) (aA #[32])
def vR(h:Γ Int)(r:Γ Δ):Δ:=aCT (tU h 0 r)
def aOH(x0:Γ (Γ Δ)):Prop:=tR x0=false->aNO x0
def E7(x0:Γ (Γ Δ)):Γ Δ:=if tR x0 then [] else HC (x0.map (vR (LC x0)))
def KE(x0:Γ (Γ Δ)):Int:=if tR x0 then 2 else SL (x0.map (vR (LC x0)))
def aLs{h:Γ Int}(hw:Cd h)(k:Nat){c:Δ}(hc:c.size<=4000000):Cd (KD h k c):=by
 have hg:=aED hw k;refine⟨by unfold KD;rw[List.length_set];exact hw.1,λy hy=>?_⟩;rcases List.mem_or_eq_of_mem_set hy with hy | rfl
 ·exact hw.2 y hy
 lia
theorem kl:∀(r:Γ Δ) (k:Nat) (h:Γ Int),Cd h->(∀c∈r,c.size<=4000000)->Cd (wU k r h)
 | [],_,_,hw,_=>hw
 | c::r,k,h,hw,hc=>kl r (k+1) _ (aLs hw k (hc c (aR ..))) (λd hd=>hc d (aM _ hd))
def yw(h:Γ Int)(k:Nat)(c:Δ)(j:Nat):h.getD j 0<=(KD h k c).getD j 0/\(k<h.length->((c.size:Nat):Int)<=(KD h k c).getD k 0):=by
 unfold KD
 grind
theorem Ns:∀(r:Γ Δ) (k:Nat) (h:Γ Int) (j:Nat),h.getD j 0<=(wU k r h).getD j 0
 | [],_,_,_=>dX _
 | c::r,k,h,j=>Bk (yw h k c j).1 (Ns r (k+1) _ j)
theorem dd:∀(r:Γ Δ) (k:Nat) (h:Γ Int),k+r.length<=h.length->∀j,j<r.length->(((r.getD j aC).size:Nat):Int)<=(wU k r h).getD (k+j) 0
 | [],_,_,_,j,hj=>by grind
 | c::r,k,h,hl,j,hj=>by
  have hk:k<h.length:=by lia
  cases j with
  | zero=>exact Bk ((yw h k c k).2 hk) (Ns r (k+1) _ k)
  | succ j =>
   have:=dd r (k+1) (KD h k c) (by grind [KD]) j (by grind)
   grind [wU]
theorem TY:∀(l:Γ (Γ Δ)) (h:Γ Int) (j:Nat),h.getD j 0<=(l.foldl (λh r=>wU 0 r h) h).getD j 0
 | [],_,_=>dX _
 | r::l,h,j=>Bk (Ns r 0 h j) (TY l _ j)
theorem YA:∀(l:Γ (Γ Δ)) (h:Γ Int),Cd h->(∀r∈l,r.length<=12/\∀c∈r,c.size<=4000000)->Cd (l.foldl (λh r=>wU 0 r h) h)/\∀r∈l,∀j,j<r.length->(((r.getD j aC).size:Nat):Int)<=(l.foldl (λh r=>wU 0 r h) h).getD j 0
 | [],h,hw,_=>⟨hw,λr hr=>by grind⟩
 | q::l,h,hw,hr=>by
  obtain⟨q1,q2⟩:=hr q (aR ..);obtain⟨i1,i2⟩:=YA l (wU 0 q h) (kl q 0 h hw q2) (λr h=>hr r (aM _ h));refine⟨i1,λr hm j hj=>?_⟩;rcases bA.1 hm with rfl | hm
  ·have:=dd r 0 h (by rw[hw.1];lia) j hj
   grind [Bk,TY]
  grind
def aHj{h:Γ Int}(hw:Cd h){k:Nat}{c:Δ}(hc:((c.size:Nat):Int)<=h.getD k 0):(Xz h k c).size<=4000000:=by
 have hg:=aED hw k;unfold Xz GU;rw[dH];have:(aA (Lib.repeatL (aA #[32]).data.toList (h.getD k 0-((c.size:Nat):Int)).toNat).toArray).size=(h.getD k 0-((c.size:Nat):Int)).toNat*1:=by
  show (rD _).size=_;simp[Lib.repeatL_length]
 lia
theorem YB:∀(w:Γ (Γ UInt8)),(∀x∈w,x.length<=4000000)->(iW [32,32] w).length<=w.length*4000002
 | [],_=>by simp[iW]
 | x::r,h=>by
  have:=YB r (λy hy=>h y (aM _ hy));have hx:=h x (aR ..);simp[iW]at this ⊢;omega
def aHk{w:Γ Δ}(hl:w.length<=12)(hw:∀x∈w,x.size<=4000000):ZC w (aA #[32,32])/\aYC (rA w (aA #[32,32])) (aA #[32]):=by
 refine⟨⟨by lia,?_⟩,⟨32,rfl,by lia⟩⟩;cases w with
 | nil=>exact aY _
 | cons x r =>
  rw[dY,Lib.join_cons];have h1:x.data.toList.length<=4000000:=hw x (aR ..);have h2:=YB (r.map λx=>x.data.toList) (λy hy=>by
   obtain⟨z,hz,rfl⟩:=cW.1 hy;simp_all)
  grind
section
variable {x0:Γ (Γ Δ)} {ds:Γ aS}
def aYG{v45:Nat}{h0:Γ Int}{h1:Γ Δ}(hw:Cd h0)(hr:(x0.getD v45 []).length<=12)(hc:∀c∈x0.getD v45 [],c.size<=4000000)(hcov:∀j,j<(x0.getD v45 []).length->((((x0.getD v45 []).getD j aC).size:Nat):Int)<=h0.getD j 0)(hv:v45<1100000)(hl:h1.length<=1100000) :
  ∀(k v51:Nat) (h2:Γ Δ),v51+k=(x0.getD v45 []).length->h2.length=v51->(∀x∈h2,x.size<=4000000)->(∃n,Db n ((v45:Int)+1) (h1++[aCT (h2++tU h0 v51 ((x0.getD v45 []).drop v51))]) x0 h0 ds)->∃n,LB n (v51:Int) h2 x0 (v45:Int) h0 h1 ds:=by
 intro k
 induction k with
 | zero =>
  intro v51 h2 hk h2l h2s ⟨n,hn⟩;rw[sV _ v51 (by lia)]at hn;simp[tU,dN]at hn;obtain⟨p1,p2⟩:=aHk (w:=h2) (by lia) h2s;refine⟨n+1,?_⟩;rw[LB];simp only[aK];rw[ν (by lia)];exact⟨p1,p2,by lia,by grind [aJ],hn⟩
 | succ k ih =>
  intro v51 h2 hk h2l h2s hn;have h5:v51<(x0.getD v45 []).length:=by lia
  have hcell:=hcov v51 h5;have hg:=aED hw v51;rw[dQ _ v51 aC h5]at hn;simp[tU]at hn;have hsz:=aHj hw hcell;obtain⟨n,hn⟩:=ih (v51+1) (h2++[Xz h0 v51 ((x0.getD v45 []).getD v51 aC)]) (by lia) (by grind) (λx hx=>by
   grind) (by grind)
  have hsz2:((x0.getD v45 []).getD v51 aC).size+(GU (aA #[32]) (h0.getD v51 0-((((x0.getD v45 []).getD v51 aC).size:Nat):Int))).size<=4000000:=by
   grind [Xz]
  have s1:(aA #[32]).size=1:=rfl;have hlen:=hw.1;refine⟨n+1,?_⟩;rw[LB];simp only[aK];rw[π (by lia)];exact⟨by lia,by lia,by lia,by lia,by grind [aJ],⟨by lia,by lia⟩,by lia,by lia,by grind [aJ],hn⟩
theorem aYH{h0:Γ Int}(hw:Cd h0)(hx:x0.length<=1100000)(hr:∀r∈x0,r.length<=12/\∀c∈r,c.size<=4000000)(hcov:∀r∈x0,∀j,j<r.length->(((r.getD j aC).size:Nat):Int)<=h0.getD j 0):∀(k v45:Nat) (h1:Γ Δ),v45+k=x0.length->h1.length=v45 ->
  ∃n,Db n (v45:Int) h1 x0 h0 [⟨.sl .str,HC (h1++(x0.drop v45).map (vR h0))⟩,⟨.int .i64,SL (h1++(x0.drop v45).map (vR h0))⟩]:=by
 intro k
 induction k with
 | zero =>
  intro v45 h1 hk hl;refine⟨1,?_⟩;rw[Db,ν (by lia),sV _ v45 (by lia)];simp
 | succ k ih =>
  intro v45 h1 hk hl;have h7:v45<x0.length:=by lia
  have hm:=cF x0 v45 [] h7;obtain⟨r1,r2⟩:=hr _ hm;obtain⟨n,hn⟩:=ih (v45+1) (h1++[vR h0 (x0.getD v45 [])]) (by lia) (by grind);have e:h1++[vR h0 (x0.getD v45 [])]++F9 (vR h0) (x0.drop (v45+1))=h1++F9 (vR h0) (x0.drop v45):=by
   grind [dQ]
  obtain⟨n',hn'⟩:=aYG (h1:=h1) (v45:=v45) hw r1 r2 (hcov _ hm) (by lia) (by lia) (x0.getD v45 []).length 0 [] (by lia) rfl (λx hx=>by grind) ⟨n,hn⟩;refine⟨n'+1,?_⟩;rw[Db]
  lia
def bGn{v20:Nat}(hr:(x0.getD v20 []).length<=12)(hc:∀c∈x0.getD v20 [],c.size<=4000000)(hv:v20<1100000) :
  ∀(k v26:Nat) (h0:Γ Int),v26+k=(x0.getD v20 []).length->Cd h0->(∃n,Nr n ((v20:Int)+1) (wU v26 ((x0.getD v20 []).drop v26) h0) x0 ds)->∃n,SO n (v26:Int) h0 x0 (v20:Int) ds:=by
 intro k
 induction k with
 | zero =>
  intro v26 h0 hk hw ⟨n,hn⟩;rw[sV _ v26 (by lia)]at hn;refine⟨n+1,?_⟩;rw[SO];simp only[aK];rw[ν (by lia)];exact⟨by grind [aJ],hn⟩
 | succ k ih =>
  intro v26 h0 hk hw hn;have h5:v26<(x0.getD v20 []).length:=by lia
  have hcell:=hc _ (cF (x0.getD v20 []) v26 aC h5);have hlen:=hw.1;rw[dQ _ v26 aC h5]at hn;obtain⟨n,hn⟩:=ih (v26+1) _ (by lia) (aLs hw v26 hcell) hn;refine⟨n+1,?_⟩;rw[SO];simp only[aK];rw[π (by lia)];exact⟨by lia,by lia,by lia,by lia,by lia,by lia,by grind [aJ],hn⟩
def bGo(hx:x0.length<=1100000)(hr:∀r∈x0,r.length<=12/\∀c∈r,c.size<=4000000):∀(k v20:Nat) (h0:Γ Int),v20+k=x0.length->Cd h0->(∃n,Db n 0 [] x0 ((x0.drop v20).foldl (λh r=>wU 0 r h) h0) ds)->∃n,Nr n (v20:Int) h0 x0 ds:=by
 intro k
 induction k with
 | zero =>
  intro v20 h0 hk hw ⟨n,hn⟩;refine⟨n+1,?_⟩;rw[Nr]
  grind
 | succ k ih =>
  intro v20 h0 hk hw hn;have h4:v20<x0.length:=by lia
  obtain⟨r1,r2⟩:=hr _ (cF x0 v20 [] h4);rw[dQ x0 v20 [] h4]at hn;obtain⟨n,hn⟩:=ih (v20+1) (wU 0 (x0.getD v20 []) h0) (by lia) (kl _ 0 h0 hw r2) hn;obtain⟨n',hn'⟩:=bGn (x0:=x0) r1 r2 (by lia) (x0.getD v20 []).length 0 h0 (by lia) hw ⟨n,hn⟩;refine⟨n'+1,?_⟩;rw[Nr]
  lia
end
def aYI(x0:Γ (Γ Δ))(h:aOH x0):∃n,aOG n x0 [⟨.sl .str,E7 x0⟩,⟨.int .i64,KE x0⟩]:=by
 unfold E7 KE;by_cases hc:tR x0=true
 ·refine⟨1,?_⟩;rw[aOG,π hc,π hc,π hc]
 ·have h:=h (Hb hc);obtain⟨i1,i2⟩:=YA x0 _ bJz h.2;obtain⟨n,hn⟩:=aYH (x0:=x0) (h0:=LC x0) i1 h.1 h.2 i2 x0.length 0 [] (by omega) rfl;obtain⟨n',hn'⟩:=bGo (x0:=x0) h.1 h.2 x0.length 0 [0,0,0,0,0,0,0,0,0,0,0,0] (by omega) bJz ⟨n,hn⟩;refine⟨n'+1,?_⟩;rw[aOG,ν hc,ν hc,ν hc];exact hn'
def bGp:KK:=mL aHi (DO ta) aOH (E7,KE,()) (λ⟨x0,_⟩ h hwf K q =>
 let ⟨n,hn⟩:=aYI x0 h
 (aYF _ K q n).1 hn)
def aYJ:gC:=D0 tc [.v (.sl cZ)] [.sl .str,.int .i64] [bx,aEp,PA,bGp]
mutual
def aOI:Nat->Γ b6->Γ aS->Prop
 | 0,_,_=>False
 | n+1,x0,ds=>if !fW x0 then ds=[aI (.sl .str) [],aI (.int .i64) 1] else SP n 0 ([[aA #[100,97,121],aA #[98,114,111,107,101,110],aA #[119,111,114,110]]]) x0 ds
def SP:Nat->Int->Γ (Γ Δ)->Γ b6->Γ aS->Prop
 | 0,_,_,_,_=>False
 | n+1,v14,h0,x0,ds=>if decide (v14<(x0.length:Int))then 0<=v14/\v14<(x0.length:Int)/\Mu (aD x0 (aE v14) (0,0,0,())).1/\DH (aD x0 (aE v14) (0,0,0,())).2.1/\DH (aD x0 (aE v14) (0,0,0,())).2.2.1/\(aF h0+1)*24<=140737488355328/\aX .i64 (v14+1)/\SP n (v14+1) (h0++[[o3 (aD x0 (aE v14) (0,0,0,())).1,dA (aD x0 (aE v14) (0,0,0,())).2.1,dA (aD x0 (aE v14) (0,0,0,())).2.2.1]]) x0 ds else aOH h0/\ds=[aI (.sl .str) (E7 h0),aI (.int .i64) (KE h0)]
end
def aYK(ds:Γ aS)(K:fG)(q:Nat->Value):∀n,(∀ {x0},aOI n x0 ds->St aYJ (x0,()) ds [] K q)/\(∀ {v14 h0 x0},SP n v14 h0 x0 ds->Cu aYJ 5 ([eW 4 0,eL 12 cZ x0,eI 13 (x0.length:Int),eI 14 v14],[some (fE (.sl .str) h0 true none none)]) ds [] K q):=nI ⟨aH,aH⟩ λn ⟨i,i5⟩=>⟨bH<|bD cM<|bX i5,
  bD (cP<|aL<|aL<|aL<|aL<|aL<|bX i5)<|aL cM⟩
def YC:Γ Δ:=[aA #[100,97,121],aA #[98,114,111,107,101,110],aA #[119,111,114,110]]
def Dc(f:b6):Γ Δ:=[o3 f.1,dA f.2.1,dA f.2.2.1]
def aHl(x0:Γ b6):Prop:=fW x0=true->x0.length<=1000/\∀f∈x0,Mu f.1/\DH f.2.1/\DH f.2.2.1/\∀c∈Dc f,c.size<=4000000
def BN(x0:Γ b6):Γ Δ:=if fW x0 then E7 (YC::x0.map Dc)else []
def KF(x0:Γ b6):Int:=if fW x0 then KE (YC::x0.map Dc)else 1
def aYL{x0:Γ b6}(hl:x0.length<=1000)(hc:∀f∈x0,∀c∈Dc f,c.size<=4000000):aOH (YC::x0.map Dc):=by
 refine λ_=>⟨by grind,λr hr=>?_⟩;rcases bA.1 hr with rfl | hr
 ·exact⟨by decide,by decide⟩
 ·obtain⟨f,hf,rfl⟩:=cW.1 hr;exact⟨by show 3<=12;lia,hc f hf⟩
def aYM(x0:Γ b6)(hl:x0.length<=1000)(hc:∀f∈x0,Mu f.1/\DH f.2.1/\DH f.2.2.1/\∀c∈Dc f,c.size<=4000000):∀(k i:Nat),i+k=x0.length ->
  SP (k+1) (i:Int) (YC::(x0.take i).map Dc) x0 [⟨.sl .str,E7 (YC::x0.map Dc)⟩,⟨.int .i64,KE (YC::x0.map Dc)⟩]:=by
 intro k
 induction k with
 | zero =>
  intro i hi;rw[SP,ν (by lia),eA (by lia)];exact⟨aYL hl (λf hf=>(hc f hf).2.2.2),rfl⟩
 | succ k ih =>
  intro i hi;have hlt:i<x0.length:=by lia
  have h:=ih (i+1) (by lia);have hm:=cF x0 i ((0:Int),(0:Int),(0:Int),()) hlt;rw[SP,π (by lia)];refine⟨by lia,by lia,(hc _ hm).1,(hc _ hm).2.1,(hc _ hm).2.2.1,?_,by grind [aJ],?_⟩
  ·grind
  ·have e:x0.take (i+1)=x0.take i++[x0.getD i ((0:Int),(0:Int),(0:Int),())]:=by
    simp_all
   rw[e,mF]at h;exact h
def aYN(x0:Γ b6)(h:aHl x0):∃n,aOI n x0 [⟨.sl .str,BN x0⟩,⟨.int .i64,KF x0⟩]:=by
 unfold BN KF;cases hv:fW x0 with
 | false =>
  refine⟨1,?_⟩;rw[aOI,π (by rw[hv];rfl)];rfl
 | true =>
  obtain⟨hl,hc⟩:=h hv;refine⟨x0.length+1+1,?_⟩;rw[aOI,ν (by rw[hv];simp)];simp only[if_true];exact aYM x0 hl hc x0.length 0 (by omega)
def bGq:KK:=mL aYJ (DO tc) aHl (BN,KF,()) (λ⟨x0,_⟩ h hwf K q =>
 let ⟨n,hn⟩:=aYN x0 h
 (aYK _ K q n).1 hn)
def YD(x0:Γ dO):Int:=(x0.length:Int)
def bGr:KK:=mB Tryz.func343 [.v (.sl eC)] [.int .i64] [] nP (YD,()) λ_=>pr
def YE(x0:Γ b6):Int:=(x0.length:Int)
def bGs:KK:=mB Tryz.func344 [.v (.sl cZ)] [.int .i64] [] nP (YE,()) λ_=>pr
def YF(x0:Γ b6):Int:=(x0.length:Int)
def bGt:KK:=mB Tryz.func345 [.v (.sl cZ)] [.int .i64] [] nP (YF,()) λ_=>pr
def YG(x0:Γ bP):Int:=(x0.length:Int)
def bGu:KK:=mB Tryz.func346 [.v (.sl c8)] [.int .i64] [] nP (YG,()) λ_=>pr
def YH(x0:Γ dO):Int:=(x0.length:Int)
def bGv:KK:=mB Tryz.func347 [.v (.sl eC)] [.int .i64] [] nP (YH,()) λ_=>pr
def YI(x0:Γ b6):Int:=(x0.length:Int)
def bGw:KK:=mB Tryz.func348 [.v (.sl cZ)] [.int .i64] [] nP (YI,()) λ_=>pr
def YJ(x0:Γ bP):Int:=(x0.length:Int)
def bGx:KK:=mB Tryz.func349 [.v (.sl c8)] [.int .i64] [] nP (YJ,()) λ_=>pr
def YK(x0:Γ bP):Int:=(x0.length:Int)
def bGy:KK:=mB Tryz.func350 [.v (.sl c8)] [.int .i64] [] nP (YK,()) λ_=>pr
def aYO:gC:=D0 td [.v iT] [.sl .str,.int .i64] [bDa,bGr,bGs,bGt,bGu,bGv,bGw,bGx,bGy,PA]
mutual
def aOJ:Nat->bF->Γ aS->Prop
 | 0,_,_=>False
 | n+1,x0,ds=>if !zC x0 then ds=[aI (.sl .str) [],aI (.int .i64) 1] else SQ n 0 ([]) x0 ds
def SQ:Nat->Int->Γ Δ->bF->Γ aS->Prop
 | 0,_,_,_,_=>False
 | n+1,v43,h1,x0,ds=>if decide (v43<9)then 0<=v43/\v43<9/\aG (aD [aA #[98,101,110,100,115],aA #[104,111,117,114,115],aA #[108,105,109,105,116,115],aA #[119,111,114,107,101,114,115],aA #[108,105,116,114,101,115],aA #[102,97,114,101,115],aA #[116,101,115,116,115],aA #[104,101,108,112,101,114,115],aA #[116,97,115,107,115]] (aE v43) aC)+1<=9223372036854775807/\0<=v43/\v43<(↑9:Int)/\DH (aD [YD x0.1,YE x0.2.2.1,YF x0.2.2.2.1,YG x0.2.2.2.2.2.2.1,x0.2.2.2.2.2.2.2.1.2.2.1,YH x0.2.2.2.2.2.2.2.2.1,YI x0.2.2.2.2.2.2.2.2.2.1,YJ x0.2.2.2.2.2.2.2.2.2.2.1,YK x0.2.2.2.2.2.2.2.2.2.2.2.1] (aE v43) 0)/\aG (aD [aA #[98,101,110,100,115],aA #[104,111,117,114,115],aA #[108,105,109,105,116,115],aA #[119,111,114,107,101,114,115],aA #[108,105,116,114,101,115],aA #[102,97,114,101,115],aA #[116,101,115,116,115],aA #[104,101,108,112,101,114,115],aA #[116,97,115,107,115]] (aE v43) aC++aA #[32])+aG (dA (aD [YD x0.1,YE x0.2.2.1,YF x0.2.2.2.1,YG x0.2.2.2.2.2.2.1,x0.2.2.2.2.2.2.2.1.2.2.1,YH x0.2.2.2.2.2.2.2.2.1,YI x0.2.2.2.2.2.2.2.2.2.1,YJ x0.2.2.2.2.2.2.2.2.2.2.1,YK x0.2.2.2.2.2.2.2.2.2.2.2.1] (aE v43) 0))<=9223372036854775807/\(aF h1+1)*16<=140737488355328/\aX .i64 (v43+1)/\SQ n (v43+1) (h1++[aD [aA #[98,101,110,100,115],aA #[104,111,117,114,115],aA #[108,105,109,105,116,115],aA #[119,111,114,107,101,114,115],aA #[108,105,116,114,101,115],aA #[102,97,114,101,115],aA #[116,101,115,116,115],aA #[104,101,108,112,101,114,115],aA #[116,97,115,107,115]] (aE v43) aC++aA #[32]++dA (aD [YD x0.1,YE x0.2.2.1,YF x0.2.2.2.1,YG x0.2.2.2.2.2.2.1,x0.2.2.2.2.2.2.2.1.2.2.1,YH x0.2.2.2.2.2.2.2.2.1,YI x0.2.2.2.2.2.2.2.2.2.1,YJ x0.2.2.2.2.2.2.2.2.2.2.1,YK x0.2.2.2.2.2.2.2.2.2.2.2.1] (aE v43) 0)]) x0 ds else ds=[aI (.sl .str) h1,aI (.int .i64) 0]
end
def aYP(ds:Γ aS)(K:fG)(q:Nat->Value):∀n,(∀ {x0},aOJ n x0 ds->St aYO (x0,()) ds [] K q)/\(∀ {v43 h1 x0},SQ n v43 h1 x0 ds->Cu aYO 7 ([eW 5 0,eW 6 1,eW 41 2,eI 42 9,eI 43 v43],[cL (.int .i64) [YD x0.1,YE x0.2.2.1,YF x0.2.2.2.1,YG x0.2.2.2.2.2.2.1,x0.2.2.2.2.2.2.2.1.2.2.1,YH x0.2.2.2.2.2.2.2.2.1,YI x0.2.2.2.2.2.2.2.2.2.1,YJ x0.2.2.2.2.2.2.2.2.2.2.1,YK x0.2.2.2.2.2.2.2.2.2.2.2.1],cL .str h1,cL .str [aA #[98,101,110,100,115],aA #[104,111,117,114,115],aA #[108,105,109,105,116,115],aA #[119,111,114,107,101,114,115],aA #[108,105,116,114,101,115],aA #[102,97,114,101,115],aA #[116,101,115,116,115],aA #[104,101,108,112,101,114,115],aA #[116,97,115,107,115]]]) ds [] K q):=nI ⟨aH,aH⟩ λn ⟨i,i7⟩=>⟨bH<|bD cM<|bH<|bH<|bH<|bH<|bH<|bH<|bH<|bH<|Dr [(6,.str)] i7,
  bD (cP<|aL<|cP<|aL<|aL<|aL<|aL<|Dr [(6,.str)] i7) cM⟩
def SR:Γ Δ:=[aA #[98,101,110,100,115],aA #[104,111,117,114,115],aA #[108,105,109,105,116,115],aA #[119,111,114,107,101,114,115],aA #[108,105,116,114,101,115],aA #[102,97,114,101,115],aA #[116,101,115,116,115],aA #[104,101,108,112,101,114,115],aA #[116,97,115,107,115]]
def P8(x0:bF):Γ Int:=[((x0.1.length:Nat):Int),((x0.2.2.1.length:Nat):Int),((x0.2.2.2.1.length:Nat):Int),((x0.2.2.2.2.2.2.1.length:Nat):Int),x0.2.2.2.2.2.2.2.1.2.2.1,((x0.2.2.2.2.2.2.2.2.1.length:Nat):Int),((x0.2.2.2.2.2.2.2.2.2.1.length:Nat):Int),((x0.2.2.2.2.2.2.2.2.2.2.1.length:Nat):Int),((x0.2.2.2.2.2.2.2.2.2.2.2.1.length:Nat):Int)]
def P9(w:Δ)(n:Int):Δ:=w++aA #[32]++dA n
def AP(x0:bF):Γ Δ:=if zC x0 then uQ P9 SR (P8 x0)else []
def KG(x0:bF):Int:=if zC x0 then 0 else 1
def bGz(x0:bF)(hw:Wf iT x0):∀n∈P8 x0, -9223372036854775808<=n/\n<=9223372036854775807:=by
 have hmx:maxLen<=9223372036854775807:=by decide
 have a0:x0.1.length<=maxLen:=hw.1.1;have a2:x0.2.2.1.length<=maxLen:=hw.2.2.1.1;have a3:x0.2.2.2.1.length<=maxLen:=hw.2.2.2.1.1;have a6:x0.2.2.2.2.2.2.1.length<=maxLen:=hw.2.2.2.2.2.2.1.1;have a8:x0.2.2.2.2.2.2.2.2.1.length<=maxLen:=hw.2.2.2.2.2.2.2.2.1.1;have a9:x0.2.2.2.2.2.2.2.2.2.1.length<=maxLen:=hw.2.2.2.2.2.2.2.2.2.1.1;have aa:x0.2.2.2.2.2.2.2.2.2.2.1.length<=maxLen:=hw.2.2.2.2.2.2.2.2.2.2.1.1;have ab:x0.2.2.2.2.2.2.2.2.2.2.2.1.length<=maxLen:=hw.2.2.2.2.2.2.2.2.2.2.2.1.1;have a7:aX .i64 x0.2.2.2.2.2.2.2.1.2.2.1:=hw.2.2.2.2.2.2.2.1.2.2.1;rw[aJ]at a7;intro n hn;unfold P8 at hn;simp at hn
 lia
def aRE:∀w∈SR,w.size<=7:=by
 intro w hw;unfold SR at hw;simp at hw;rcases hw with rfl | rfl | rfl | rfl | rfl | rfl | rfl | rfl | rfl <;> decide
def aYQ(x0:bF)(hn:∀n∈P8 x0, -9223372036854775808<=n/\n<=9223372036854775807):∀(k i:Nat) (h:Γ Δ),i+k=9->h.length=i ->
  SQ (k+1) (i:Int) h x0 [⟨.sl .str,h++uQ P9 (SR.drop i) ((P8 x0).drop i)⟩,⟨.int .i64,0⟩]:=by
 intro k
 induction k with
 | zero =>
  intro i h hi hl;obtain rfl:i=9:=by lia
  rw[SQ,ν (by lia)];have e:uQ P9 (SR.drop 9) ((P8 x0).drop 9)=[]:=rfl;rw[e,dN]
 | succ k ih =>
  intro i h hi hl;have lW:SR.length=9:=rfl;have lN:(P8 x0).length=9:=rfl;have mw:=aRE _ (cF SR i aC (by lia));have mn:=hn _ (cF (P8 x0) i 0 (by lia));have hz:=w5 _ mn.1 mn.2;have hnext:=ih (i+1) (h++[P9 (SR.getD i aC) ((P8 x0).getD i 0)]) (by lia) (by grind);rw[dQ SR i aC (by lia),dQ (P8 x0) i 0 (by lia)];rw[cK]at hnext;rw[SQ,π (by lia)];have s1:(aA #[32]).size=1:=rfl;have hws:(SR.getD i aC).size+1<=9223372036854775807:=by lia
  have hsum:(SR.getD i aC++aA #[32]).size+(lD ((P8 x0).getD i 0)).size<=9223372036854775807:=by
   grind
  exact⟨by lia,by lia,hws,by lia,by lia,⟨rfl,trivial⟩,hsum,by lia,by rw[aJ];lia,hnext⟩
def aYR(x0:bF)(hw:Wf iT x0):∃n,aOJ n x0 [⟨.sl .str,AP x0⟩,⟨.int .i64,KG x0⟩]:=by
 unfold AP KG;cases hv:zC x0 with
 | false =>
  refine⟨1,?_⟩;rw[aOJ,π (by rw[hv];rfl)];rfl
 | true =>
  refine⟨9+1+1,?_⟩;rw[aOJ,ν (by rw[hv];simp)];exact aYQ x0 (bGz x0 hw) 9 0 [] (by omega) rfl
def bG0:KK:=mL aYO (DO td) nP (AP,KG,()) (λ⟨x0,_⟩ h hwf K q =>
 let ⟨n,hn⟩:=aYR x0 hwf.1
 (aYP _ K q n).1 hn)
def aRF:KK:=mB Tryz.func115 [] [.sl .str] [] nP (aKA,()) λ_=>pr
def aYS(x0:bF)(x1:Δ×Δ×Γ Int×Γ Int×Unit):Prop:=if aB x1.1==aB (aA #[115,108,111,119,101,115,116])then aCI x0 x1/\DH (tQ x0 x1)/\True else if aB x1.1==aB (aA #[114,101,115,101,114,118,101])then aCI x0 x1/\DH (tQ x0 x1)/\True else if aB x1.1==aB (aA #[112,111,119,101,114])then aCI x0 x1/\DH (tQ x0 x1)/\True else if aB x1.1==aB (aA #[118,111,116,101])then aCI x0 x1/\DH (tQ x0 x1)/\True else if aB x1.1==aB (aA #[119,97,116,101,114])then aCI x0 x1/\DH (tQ x0 x1)/\True else if aB x1.1==aB (aA #[114,117,110,110,105,110,103])then aGX x0 x1/\True else if aB x1.1==aB (aA #[99,111,118,101,114])then aGX x0 x1/\True else if aB x1.1==aB (aA #[113,117,101,117,101])then aGX x0 x1/\True else if aB x1.1==aB (aA #[102,105,108,108])then aGX x0 x1/\True else if aB x1.1==aB (aA #[116,114,105,112,115])then aNd x0.2.2.2.2.2.2.2.2.1 x1.2.2.2.1/\True else if aB x1.1==aB (aA #[100,117,101])then 0<(x1.2.2.1.length:Int)/\1<(x1.2.2.1.length:Int)/\aNj x0.2.2.2.2.2.2.2.2.2.1 (aD x1.2.2.1 0 0) (aD x1.2.2.1 1 0)/\Mu (JD x0.2.2.2.2.2.2.2.2.2.1 (aD x1.2.2.1 0 0) (aD x1.2.2.1 1 0))/\True else if aB x1.1==aB (aA #[114,101,112,111,114,116])then aHl x0.2.2.2.2.2.2.2.2.2.1/\True else True
def tV(x0:bF)(x1:Δ×Δ×Γ Int×Γ Int×Unit):Γ Δ:=if aB x1.1==aB (aA #[115,108,111,119,101,115,116])then [dA (tQ x0 x1)] else if aB x1.1==aB (aA #[114,101,115,101,114,118,101])then [dA (tQ x0 x1)] else if aB x1.1==aB (aA #[112,111,119,101,114])then [dA (tQ x0 x1)] else if aB x1.1==aB (aA #[118,111,116,101])then [dA (tQ x0 x1)] else if aB x1.1==aB (aA #[119,97,116,101,114])then [dA (tQ x0 x1)] else if aB x1.1==aB (aA #[114,117,110,110,105,110,103])then [hJ (E6 x0 x1)] else if aB x1.1==aB (aA #[99,111,118,101,114])then [hJ (E6 x0 x1)] else if aB x1.1==aB (aA #[113,117,101,117,101])then [hJ (E6 x0 x1)] else if aB x1.1==aB (aA #[102,105,108,108])then [hJ (E6 x0 x1)] else if aB x1.1==aB (aA #[116,114,105,112,115])then BC x0.2.2.2.2.2.2.2.2.1 x1.2.2.2.1 else if aB x1.1==aB (aA #[100,117,101])then [o3 (JD x0.2.2.2.2.2.2.2.2.2.1 (aD x1.2.2.1 0 0) (aD x1.2.2.1 1 0))] else if aB x1.1==aB (aA #[114,101,112,111,114,116])then BN x0.2.2.2.2.2.2.2.2.2.1 else if aB x1.1==aB (aA #[115,104,111,119])then AP x0 else aKA
def u6(x0:bF)(x1:Δ×Δ×Γ Int×Γ Int×Unit):Int:=if aB x1.1==aB (aA #[115,108,111,119,101,115,116])then Ck x0 x1 else if aB x1.1==aB (aA #[114,101,115,101,114,118,101])then Ck x0 x1 else if aB x1.1==aB (aA #[112,111,119,101,114])then Ck x0 x1 else if aB x1.1==aB (aA #[118,111,116,101])then Ck x0 x1 else if aB x1.1==aB (aA #[119,97,116,101,114])then Ck x0 x1 else if aB x1.1==aB (aA #[114,117,110,110,105,110,103])then Gy x0 x1 else if aB x1.1==aB (aA #[99,111,118,101,114])then Gy x0 x1 else if aB x1.1==aB (aA #[113,117,101,117,101])then Gy x0 x1 else if aB x1.1==aB (aA #[102,105,108,108])then Gy x0 x1 else if aB x1.1==aB (aA #[116,114,105,112,115])then JB x0.2.2.2.2.2.2.2.2.1 x1.2.2.2.1 else if aB x1.1==aB (aA #[100,117,101])then RL x0.2.2.2.2.2.2.2.2.2.1 (aD x1.2.2.1 0 0) (aD x1.2.2.1 1 0)else if aB x1.1==aB (aA #[114,101,112,111,114,116])then KF x0.2.2.2.2.2.2.2.2.2.1 else if aB x1.1==aB (aA #[115,104,111,119])then KG x0 else 0
def bG1:KK:=mB Tryz.func130 [.p iT,.v Km] [.sl .str,.int .i64] [bGf,PA,bGg,xk,bCj,bCo,aEp,bGq,bG0,aRF] aYS (tV,u6,()) λ_=>dL (aL<|aL pr)<|dL (aL<|aL pr)<|dL (aL<|aL pr)<|dL (aL<|aL pr)<|dL (aL<|aL pr)<|dL (aL<|bH pr)<|dL (aL<|bH pr)<|dL (aL<|bH pr)<|dL (aL<|bH pr)<|dL (aL pr)<|dL (pq 0<|aL<|pq 1<|aL<|aL<|aL pr)<|dL (aL pr)<|vY (bH pr)<|bH pr
def P40(x0:bF)(x1:Δ×Δ×Γ Int×Γ Int×Unit):Prop:=if aB (cU x1.1)==aB (aA #[116])then aYA x0 x1/\True else if aB x1.1==aB (aA #[101,118,101,110,116])then aOF x0 x1/\True else if aB x1.1==aB (aA #[108,105,109,105,116])then aOF x0 x1/\True else aYS x0 x1/\True
def fM(x0:bF)(x1:Δ×Δ×Γ Int×Γ Int×Unit):Γ Δ:=if aB (cU x1.1)==aB (aA #[116])then [aA #[111,107]] else if aB x1.1==aB (aA #[101,118,101,110,116])then KA x0 x1 else if aB x1.1==aB (aA #[108,105,109,105,116])then KA x0 x1 else tV x0 x1
def fU(x0:bF)(x1:Δ×Δ×Γ Int×Γ Int×Unit):Int:=if aB (cU x1.1)==aB (aA #[116])then yI x0 x1 else if aB x1.1==aB (aA #[101,118,101,110,116])then KB x0 x1 else if aB x1.1==aB (aA #[108,105,109,105,116])then KB x0 x1 else u6 x0 x1
def gP(x0:bF)(x1:Δ×Δ×Γ Int×Γ Int×Unit):Bool:=if aB (cU x1.1)==aB (aA #[116])then yH x0 x1 else if aB x1.1==aB (aA #[101,118,101,110,116])then true else if aB x1.1==aB (aA #[108,105,109,105,116])then true else true
def gT(x0:bF)(x1:Δ×Δ×Γ Int×Γ Int×Unit):bF:=if aB (cU x1.1)==aB (aA #[116])then yJ x0 x1 else if aB x1.1==aB (aA #[101,118,101,110,116])then KC x0 x1 else if aB x1.1==aB (aA #[108,105,109,105,116])then KC x0 x1 else x0
def bJA:KK:=mV Tryz.func40 [.po iT,.v Km] [.sl .str,.int .i64,.bool] [aRv,bGc,bGe,bG1] P40 (λx=>[some ⟨.cons (.sl eC) YA1,[gT x.1 x.2.1]⟩]) (fM,fU,gP,()) λ_=>bH<|aIC (aL pr)<|aIC (jM<|aL pr)<|aIC (aL pr)<|aL pr
def P41(x0:Int):Prop:=if decide (x0<0)then True else if decide (x0>=12)then True else 0<=x0/\x0<12/\True
def TZ(x0:Int):Δ:=if decide (x0<0)then aA #[] else if decide (x0>=12)then aA #[] else aD [aA #[111,107],aA #[105,110,118,97,108,105,100],aA #[114,97,110,103,101],aA #[110,111,116,45,102,111,117,110,100],aA #[101,120,105,115,116,115],aA #[102,117,108,108],aA #[115,116,97,116,101],aA #[111,114,100,101,114],aA #[115,121,110,116,97,120],aA #[102,111,114,109,97,116],aA #[99,104,101,99,107,115,117,109],aA #[116,114,117,110,99,97,116,101,100]] (aE x0) aC
def bJB:KK:=mB Tryz.func41 [.v (.int .i64)] [.str] [] P41 (TZ,()) λ_=>lT (jM pr)<|lT pr<|cP pr
def aYT:gC:=D0 tf [.v (.sl .str),.v (.str)] [.int .i64] []
mutual
def aYU:Nat->Γ Δ->Δ->Γ aS->Prop
 | 0,_,_,_=>False
 | n+1,x0,x1,ds=>Nt n 0 x0 x1 ds
def Nt:Nat->Int->Γ Δ->Δ->Γ aS->Prop
 | 0,_,_,_,_=>False
 | n+1,v8,x0,x1,ds=>if decide (v8<(x0.length:Int))then 0<=v8/\v8<(x0.length:Int)/\if aB x1==aB (aD x0 (aE v8) aC)then ds=[aI (.int .i64) v8] else aX .i64 (v8+1)/\Nt n (v8+1) x0 x1 ds else ds=[aI (.int .i64) (-1)]
end
def aYV(ds:Γ aS)(K:fG)(q:Nat->Value):∀n,(∀ {x0 x1},aYU n x0 x1 ds->St aYT (x0,x1,()) ds [] K q)/\(∀ {v8 x0 x1},Nt n v8 x0 x1 ds->Cu aYT 2 ([eL 0 .str x0,eS 1 x1,eI 7 (x0.length:Int),eI 8 v8],[]) ds [] K q):=nI ⟨aH,aH⟩ λn ⟨i,i2⟩=>⟨bX i2,
  bD (cP<|bD cM<|aL<|bX i2) cM⟩
def T0(x1:Δ)(y:Δ):Bool:=aB x1==aB y
def Nu(x0:Γ Δ)(x1:Δ):Int:=idx (x0.findIdx? (T0 x1))
def aYW(x0:Γ Δ)(x1:Δ)(hm:x0.length<=maxLen):aYU (x0.length+1+1) x0 x1 [⟨.int .i64,Nu x0 x1⟩]:=by
 rw[aYU];have key:=FE x0 aC (T0 x1) [(⟨.int .i64, -1⟩:aS)] (λk=>[⟨.int .i64,k⟩]) (λn i ds=>Nt n i x0 x1 ds) (λn=>?_) (λn i hi hok ds hr=>?_) (λn i hi hok=>?_)
 ·unfold Nu;cases h:x0.findIdx? (T0 x1) <;> rw[h]at key <;> exact key
 ·rw[Nt,ν (by simp)]
 ·rw[Nt,π (by simp;omega)];simp only[aK];refine⟨by omega,by omega,?_⟩;unfold T0 at hok;rw[ν (by rw[hok];simp)];exact⟨iJ hm hi,hr⟩
 ·rw[Nt,π (by simp;omega)];simp only[aK];refine⟨by omega,by omega,?_⟩;unfold T0 at hok;rw[π hok] <;> trivial
theorem aYX(x0:Γ Δ)(x1:Δ):decide (Nu x0 x1>=0)=x0.any (T0 x1):=by
 have:=DW (T0 x1) x0;unfold Nu;cases h:x0.any (T0 x1)with
 | true=>rw[h]at this;simpa using this
 | false=>rw[h]at this;simpa using this
def bG2:KK:=mL aYT (DO tf) nP (Nu,()) (λ⟨x0,x1,_⟩ h hwf K q =>
 (aYV _ K q _).1 (aYW x0 x1 hwf.1.1))
def KH(x0:Γ Δ)(x1:Δ):Bool:=decide (Nu x0 x1>=0)
def bG3:KK:=mB Tryz.func114 [.v (.sl .str),.v (.str)] [.bool] [bG2] nP (KH,()) λ_=>bH pr
def d38:gC:=D aAI [.v (.str)] [.cons .str (.cons .str (.cons (.sl Za) (.cons (.sl Za) .unit))),.bool] [.frz,.own] [co,aRv,aRF,bG3,aEi,aEq,aKc,bE9] false []
mutual
def R38:Nat->Δ->Γ aS->Prop
 | 0,_,_=>False
 | n+1,x0,ds=>xi x0 (aA #[32])/\0<(↑(aF (aW x0 (aA #[32]))):Int)/\if decide ((↑(aG x0):Int)>400)then ds=[aI Km (aC,aC,[],[],()),aI .bool false] else if !KH aKA (aD (aW x0 (aA #[32])) 0 aC)then ds=[aI Km (aC,aC,[],[],()),aI .bool false] else if aB (cU (aD (aW x0 (aA #[32])) 0 aC))==aB (aA #[116])then aGq x0 (aA #[32])/\ds=[aI Km (aD (aW x0 (aA #[32])) 0 aC,eD x0 (aA #[32]),[],[],()),aI .bool (EG x0 (aA #[32]))] else aX .i64 ((↑(aG (cU (aD (aW x0 (aA #[32])) 0 aC))):Int)+1)/\if(↑(aF (aW x0 (aA #[32]))):Int) != (↑(aG (cU (aD (aW x0 (aA #[32])) 0 aC))):Int)+1 then ds=[aI Km (aC,aC,[],[],()),aI .bool false] else 1<=(↑(aF (aW x0 (aA #[32]))-0):Int)/\KI n 0 ([]) ([]) x0 ds
def KI:Nat->Int->Γ Int->Γ Int->Δ->Γ aS->Prop
 | 0,_,_,_,_,_=>False
 | n+1,v56,h3,h4,x0,ds=>if decide (v56<(↑(0+aE (↑(aF (aW x0 (aA #[32]))-0):Int)-1):Int))then 0<=v56/\v56<(↑(0+aE (↑(aF (aW x0 (aA #[32]))-0):Int)-1):Int)/\0<=v56/\v56<(↑(aG (cU (aD (aW x0 (aA #[32])) 0 aC))):Int)/\if(↑(UInt8.toNat (aD (Array.toList (bO (cU (aD (aW x0 (aA #[32])) 0 aC)))) (aE v56) 0)):Int)==110 then aKb (aD (aW x0 (aA #[32])) (1+aE v56) aC)/\(aF h3+1)*8<=140737488355328/\if !gK (aD (aW x0 (aA #[32])) (1+aE v56) aC)then ds=[aI Km (aC,aC,[],[],()),aI .bool false] else aX .i64 (v56+1)/\KI n (v56+1) (h3++[gG (aD (aW x0 (aA #[32])) (1+aE v56) aC)]) h4 x0 ds else if(↑(UInt8.toNat (aD (Array.toList (bO (cU (aD (aW x0 (aA #[32])) 0 aC)))) (aE v56) 0)):Int)==108 then ik (aD (aW x0 (aA #[32])) (1+aE v56) aC)/\if !o4 (aD (aW x0 (aA #[32])) (1+aE v56) aC)then ds=[aI Km (aC,aC,[],[],()),aI .bool false] else aX .i64 (v56+1)/\KI n (v56+1) h3 (fK (aD (aW x0 (aA #[32])) (1+aE v56) aC)) x0 ds else ik (aD (aW x0 (aA #[32])) (1+aE v56) aC)/\if !rC (aD (aW x0 (aA #[32])) (1+aE v56) aC)then ds=[aI Km (aC,aC,[],[],()),aI .bool false] else aX .i64 (v56+1)/\KI n (v56+1) h3 (r9 (aD (aW x0 (aA #[32])) (1+aE v56) aC)) x0 ds else ds=[aI Km (aD (aW x0 (aA #[32])) 0 aC,aC,h3,h4,()),aI .bool true]
end
def bG4(ds:Γ aS)(K:fG)(q:Nat->Value):∀n,(∀ {x0},R38 n x0 ds->St d38 (x0,()) ds [] K q)/\(∀ {v56 h3 h4 x0},KI n v56 h3 h4 x0 ds->Cu d38 13 ([eP 2 0 0 Km,eP 5 1 0 Km,eS 6 (cU (aD (aW x0 (aA #[32])) 0 aC)),(54,.a (.osl 2 (some (1,0+aE (↑(aF (aW x0 (aA #[32]))-0):Int))))),eI 55 (↑(0+aE (↑(aF (aW x0 (aA #[32]))-0):Int)-1):Int),eI 56 v56],[hB_ Km [K7 (oR aC),K7 (oR aC),K7 (T8 none 0 0),K7 (T8 none 0 0)],hB_ Km [K7 (oR (aD (aW x0 (aA #[32])) 0 aC)),K7 (oR aC),lO_ 3,lO_ 4],cL .str (aW x0 (aA #[32])),cL (.int .i64) h3,cL (.int .i64) h4]) ds [] K q):=nI ⟨aH,aH⟩ λn ⟨i,i13⟩=>⟨aL<|pq 0<|aL<|bH<|bD (jM cM)<|bH<|bH<|bD cM<|bD (aL cM)<|aL<|bD cM<|pq 1<|aL<|Dr [(3000005,.int .i64),(4000005,.int .i64)] i13,
  bD (cP<|cP<|bD (aL<|aL<|bD cM<|aL<|Dr [(3000005,.int .i64),(4000005,.int .i64)] i13)<|bD (aL<|bD cM<|aL<|Dr [(3000005,.int .i64),(4000005,.int .i64)] i13)<|aL<|bD cM<|aL<|Dr [(3000005,.int .i64),(4000005,.int .i64)] i13) cM⟩
abbrev C38:=Δ×Δ×Γ Int×Γ Int×Unit
def gD(x0:Δ):Γ Δ:=aW x0 (aA #[32])
def An(x0:Δ):Δ:=cU ((gD x0).getD 0 aC)
def Cl(x0:Δ)(i:Nat):Int:=(((An x0).data.toList.getD i 0).toNat:Int)
def LU(x0:Δ):Nat->Nat->Γ Int->Γ Int->Option (Γ Int×Γ Int)
 | 0,_,n,l=>some (n,l)
 | k+1,i,n,l =>
  if(Cl x0 i==110)=true then
   if gK ((gD x0).getD (1+i) aC)=true then LU x0 k (i+1) (n++[gG ((gD x0).getD (1+i) aC)]) l else none
  else if(Cl x0 i==108)=true then
   if o4 ((gD x0).getD (1+i) aC)=true then LU x0 k (i+1) n (fK ((gD x0).getD (1+i) aC))else none
  else
   if rC ((gD x0).getD (1+i) aC)=true then LU x0 k (i+1) n (r9 ((gD x0).getD (1+i) aC))else none
def aOK:C38×Bool:=((ByteArray.empty,ByteArray.empty,[],[],()),false)
def yx(x0:Δ):Option (Γ Int×Γ Int)->C38×Bool
 | some (n,l)=>(((gD x0).getD 0 aC,aC,n,l,()),true)
 | none=>aOK
def Pa(x0:Δ):C38×Bool :=
 if 400<x0.size then aOK
 else if KH aKA ((gD x0).getD 0 aC)=false then aOK
 else if An x0=aA #[116] then(((gD x0).getD 0 aC,eD x0 (aA #[32]),[],[],()),EG x0 (aA #[32]))
 else if(gD x0).length=(An x0).size+1 then yx x0 (LU x0 (An x0).size 0 [] [])
 else aOK
def hY(x0:Δ):C38:=(Pa x0).1
def BX(x0:Δ):Bool:=(Pa x0).2
def aRG(c:C38×Bool):Γ aS:=[aI Km c.1,aI .bool c.2]
def bG6(w:Δ):(cU w).size<=5:=by
 have h:∀ {c:Prop} [Decidable c] {a b:Δ},a.size<=5->b.size<=5->(if c then a else b).size<=5:=λha hb=>by lia
 repeat refine h (nZ rfl) ?_
 exact nZ rfl
def bJE(x0:Δ)(i:Nat):((gD x0).getD i aC).size<=x0.size:=by
 by_cases c:i<(gD x0).length
 ·exact sX (aA #[32]) 0 _ _ _ (cF (gD x0) i aC c)
 simp_all
def bG7(x0:Δ)(hp:ik x0)(hl:(gD x0).length=(An x0).size+1):∀(k i:Nat) (n l:Γ Int),i+k=(An x0).size->n.length<=i->KI (k+1) (i:Int) n l x0 (aRG (yx x0 (LU x0 k i n l))):=by
 have hp:x0.size<=1048576:=hp;have ew:aW x0 (aA #[32])=gD x0:=rfl;have ek:cU ((gD x0).getD 0 aC)=An x0:=rfl;have h5:(An x0).size<=5:=bG6 _;intro k
 induction k with
 | zero =>
  intro i n l hi hn;rw[KI,ν (by lia)]<;>rfl
 | succ k ih =>
  intro i n l hi hn;have e3:(i:Int)+1=((i+1:Nat):Int):=by lia
  have hz:=bJE x0 (1+i);have e0:(i:Int).toNat=i:=aK i;have ek2:((((An x0).data.toList.getD i 0).toNat:Nat):Int)=Cl x0 i:=rfl;rw[KI,ew,ek,π (by lia),e0,ek2,LU];generalize (gD x0).getD (1+i) aC=w at *;refine⟨by lia,by lia,by lia,by lia,?_⟩;have hr:aX .i64 ((i+1:Nat):Int):=by grind [aJ]
  by_cases c:(Cl x0 i==110)=true
  ·rw[π c,π c];refine⟨show w.size<=281474976710656 by lia,by lia,?_⟩;by_cases d:gK w=true
   ·grind
   ·rw[ν d,π (by lia)]<;>rfl
  ·rw[ν c,ν c];by_cases c2:(Cl x0 i==108)=true
   ·rw[π c2,π c2];refine⟨show w.size<=1048576 by lia,?_⟩;by_cases d:o4 w=true
    ·grind
    ·rw[ν d,π (by lia)]<;>rfl
   ·rw[ν c2,ν c2];refine⟨show w.size<=1048576 by lia,?_⟩;by_cases d:rC w=true
    ·grind
    ·rw[ν d,π (by lia)]<;>rfl
def bG8(x0:Δ)(hp:ik x0):∃n,R38 n x0 (aRG (Pa x0)):=by
 have hp':x0.size<=1048576:=hp;have ew:aW x0 (aA #[32])=gD x0:=rfl;have ek:cU ((gD x0).getD 0 aC)=An x0:=rfl;have h5:(An x0).size<=5:=bG6 _;have hl:(gD x0).length=gX x0 (aA #[32])+1:=yV (aA #[32]) (aU 1) 0 (gX x0 (aA #[32])) x0 rfl;have hc:=A8 (aA #[32]) (aU 1) x0.size x0 (aU _);refine⟨(An x0).size+1+1,?_⟩;unfold Pa;rw[R38,ew,ek];refine⟨⟨by omega,aU 1⟩,by omega,?_⟩;by_cases c:400<x0.size
 ·rw[π c,π (by simp only[ε];omega)]<;>rfl
 rw[ν c,ν (by simp only[ε];omega)];by_cases d:KH aKA ((gD x0).getD 0 aC)=false
 ·rw[π d,π (by rw[d];rfl)]<;>rfl
 rw[ν d,ν (by intro h;exact d (by cases hh:KH aKA ((gD x0).getD 0 aC)with | false=>rfl | true=>rw[hh]at h;cases h))];by_cases e:An x0=aA #[116]
 ·rw[π e,π ((bC _ _).2 e)];exact⟨show x0.size<4294967281 by omega,rfl⟩
 rw[ν e,ν (λh=>e ((bC _ _).1 h))];refine⟨by rw[aJ];omega,?_⟩;by_cases f:(gD x0).length=(An x0).size+1
 ·rw[π f,ν (by rw[f];simp)];exact⟨by omega,bG7 x0 hp f _ 0 [] [] (cO _) (aU _)⟩
 ·rw[ν f,π (by rw[bne_iff_ne];omega)]<;>rfl
def bJF:KK:=mM d38 (DO aAI) (λ⟨x0,_⟩=>ik x0) (λ_=>[]) (λ⟨x0,_⟩=>[aI Km (hY x0),aI .bool (BX x0)]) (λ⟨x0,_⟩ h hwf K q =>
 let ⟨n,hn⟩:=bG8 x0 h
 (bG4 _ K q n).1 hn)
def P39(x0:bF):Prop:=((aYh x0.1)/\((aUj x0.2.2.1)/\((aUj x0.2.2.2.1)/\((aYr x0.2.2.2.2.2.2.1)/\((aYh x0.2.2.2.2.2.2.2.2.1)/\((aUj x0.2.2.2.2.2.2.2.2.2.1)/\((aYr x0.2.2.2.2.2.2.2.2.2.2.1)/\((aYr x0.2.2.2.2.2.2.2.2.2.2.2.1)/\True))))))))
def bJG:KK:=mA (D aAJ [.v iT] [.cons (.sl eC) YA1] [] [aRy,aQJ,aQK,aR0,aR2,aQL,aR4,aR6] true []) (DO aAJ) P39 (cX,()) λ_=>aL<|aL<|aL<|aL<|aL<|aL<|aL<|aL pr
end
end Go.Proofs.YtbaoaedmbhpolaaGreatDoor
