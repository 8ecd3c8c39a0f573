/- The functions that this law reaches, and their laws. -/
import Derived.Test.YtgfpjekjhnkbfaaGreatDoorZ3E
set_option linter.unusedVariables false
set_option linter.unusedSimpArgs false
set_option linter.defProp false
open Bool renaming and_eq_true->aV,eq_false_iff->cG,eq_iff_iff->mK,not_not->aEe,true_and->rI
open ByteArray renaming empty->aC,mk->aA,size->aG,size_append->bD,toList->aB
open False renaming elim->aH
open Go.Am.aS renaming mk->aJ
open Go.Lib renaming countB->hY,cut->lF,joinTail->iY
open Go.Op renaming bytesLess->bK
open Go.Proofs.Tryz renaming func111->aEb,func113->aEc,func120->aEf,func121->aEg,func123->aEh,func124->aEj,func126->aEk,func130->aEm,func15->aHB,func213->aEd,func218->aEi,func227->aEl,func231->aEn,func233->aEo,func43->aHC,func45->aHD,func46->aHE
open Int renaming add_mul_ediv_left->Hv,ediv_eq_zero_of_lt->yC,ediv_le_ediv->SA,le_refl->dO,mul_le_mul->KL,neg_tdiv->Pg,neg_tmod->Pf,ofNat_le->Ba,tdiv->aP,tdiv_eq_ediv_of_nonneg->eJ,tmod->cP,toNat->aE,toNat_natCast->aI
open List renaming append_assoc->bZ,append_nil->cK,drop->aY,drop_eq_nil_of_le->bT,drop_zero->gP,foldl_cons->fR,getD->aD,getElem?_eq_getElem->aX,getElem_of_mem->pG,length->aF,length_append->aU,length_cons->cL,length_drop->gQ,length_map->cM,length_set->iR,length_singleton->bP,length_take->bW,map_append->iQ,map_cons->dG,map_map->oM,mem_cons->aW,mem_cons_of_mem->aM,mem_cons_self->aR,nil_append->dL,replicate->aQ,set->fF,set_set->Pi,take->aZ,take_add_one->eG,take_of_length_le->cW
open Nat renaming add_zero->iX,le_refl->aT,zero_add->bX,zero_le->bG
open Prod renaming fst->dB
set_option maxRecDepth 100000
namespace Go.Proofs.YtgfpjekjhnkbfaaGreatDoor
open Go Go.Am Go.Proofs
noncomputable section
def aQW(x0:Δ):Prop:=((aQV x0)/\True)
def Jh(x0:Δ):b6:=if !NQ x0 then(aC,0,0,())else if !JX (G8 x0,G9 x0,Gb x0,())then(aC,0,0,())else(G8 x0,G9 x0,Gb x0,())
def EO(x0:Δ):Bool:=if !NQ x0 then false else if !JX (G8 x0,G9 x0,Gb x0,())then false else true
def bIX:KK:=mB Tryz.func110 [.v (.str)] [.cons .str YA7,.bool] [aWX,aWD] aQW (Jh,EO,()) λ_=>aO<|vD (j0 pr)<|bS<|vD pr pr
def bBI:jB:=D0 aEb [.po iU,.v eC] [.int .i64] [aQN]
mutual
def bIY:Nat->bV->Δ×Int×Int×Unit->Γ aS->Γ (Option jC)->Prop
 | 0,_,_,_,_=>False
 | n+1,x0,x1,ds,us=>RY n 0 ([]) x0 x1 ds us
def RY:Nat->Int->Γ Δ->bV->Δ×Int×Int×Unit->Γ aS->Γ (Option jC)->Prop
 | 0,_,_,_,_,_,_=>False
 | n+1,v6,h2,x0,x1,ds,us=>if decide (v6<(x0.2.2.2.2.2.2.2.2.2.2.1.length:Int))then 0<=v6/\v6<(x0.2.2.2.2.2.2.2.2.2.2.1.length:Int)/\(aF h2+1)*16<=140737488355328/\bA .i64 (v6+1)/\RY n (v6+1) (h2++[(aD x0.2.2.2.2.2.2.2.2.2.2.1 (aE v6) (aC,0,0,())).1]) x0 x1 ds us else if yM h2 x1.1 10==0 then 0<=fT h2 x1.1 10/\fT h2 x1.1 10<=(↑(aF x0.2.2.2.2.2.2.2.2.2.2.1-0):Int)/\(0+aF (aY 0 (aZ (0+aE (fT h2 x1.1 10)) x0.2.2.2.2.2.2.2.2.2.2.1)))*32<=140737488355328/\(aF ([]++aY 0 (aZ (0+aE (fT h2 x1.1 10)) x0.2.2.2.2.2.2.2.2.2.2.1))+1)*32<=140737488355328/\0<=fT h2 x1.1 10/\fT h2 x1.1 10<=(↑(aF x0.2.2.2.2.2.2.2.2.2.2.1-0):Int)/\(aF ([]++aY 0 (aZ (0+aE (fT h2 x1.1 10)) x0.2.2.2.2.2.2.2.2.2.2.1)++[x1])+aF (aY (0+aE (fT h2 x1.1 10)) (aZ (0+aE (↑(aF x0.2.2.2.2.2.2.2.2.2.2.1-0):Int)) x0.2.2.2.2.2.2.2.2.2.2.1)))*32<=140737488355328/\ds=[aJ (.int .i64) (yM h2 x1.1 10)]/\us=[some (jC.mk iU [(x0.1,x0.2.1,x0.2.2.1,x0.2.2.2.1,x0.2.2.2.2.1,x0.2.2.2.2.2.1,x0.2.2.2.2.2.2.1,x0.2.2.2.2.2.2.2.1,x0.2.2.2.2.2.2.2.2.1,x0.2.2.2.2.2.2.2.2.2.1,[]++aY 0 (aZ (0+aE (fT h2 x1.1 10)) x0.2.2.2.2.2.2.2.2.2.2.1)++[x1]++aY (0+aE (fT h2 x1.1 10)) (aZ (0+aE (↑(aF x0.2.2.2.2.2.2.2.2.2.2.1-0):Int)) x0.2.2.2.2.2.2.2.2.2.2.1),x0.2.2.2.2.2.2.2.2.2.2.2.1,())])] else ds=[aJ (.int .i64) (yM h2 x1.1 10)]/\us=[some (jC.mk iU [x0])]
end
def bBJ(ds:Γ aS)(us:Γ (Option jC))(K:gU)(q:Nat->Value):∀n,(∀ {x0 x1},bIY n x0 x1 ds us->St bBI (x0,x1,()) ds us K q)/\(∀ {v6 h2 x0 x1},RY n v6 h2 x0 x1 ds us->Cu bBI 3 ([eP 0 0 0 iU,eO 3 1 0 [],eW 5 2,eI 6 v6],[QW x0 3 4 5 6 7 8 9 10,some (iJ.mk eC [x1] true none (some false)),cN .str h2,cN fQ x0.1,cN dX x0.2.2.1,cN dX x0.2.2.2.1,cN eC x0.2.2.2.2.2.2.1,cN fQ x0.2.2.2.2.2.2.2.2.1,cN dX x0.2.2.2.2.2.2.2.2.2.1,cN eC x0.2.2.2.2.2.2.2.2.2.2.1,cN eC x0.2.2.2.2.2.2.2.2.2.2.2.1]) ds us K q):=nI ⟨aH,aH⟩ λn ⟨i,i3⟩=>⟨cX i3,
  bU (eE<|aO<|aO<|cX i3)<|bS<|bU (eE<|aO<|aO<|eE<|aO Kv) Kv⟩
def NR(x0:DT5)(x1:b6):DT5:=(x0.1,x0.2.1,x0.2.2.1,x0.2.2.2.1,x0.2.2.2.2.1,x0.2.2.2.2.2.1,x0.2.2.2.2.2.2.1,x0.2.2.2.2.2.2.2.1,x0.2.2.2.2.2.2.2.2.1,x0.2.2.2.2.2.2.2.2.2.1,pL x0.2.2.2.2.2.2.2.2.2.2.1 x1 10,x0.2.2.2.2.2.2.2.2.2.2.2)
def aBV(x0:DT5)(x1:b6):Int:=pC x0.2.2.2.2.2.2.2.2.2.2.1 x1 10
def bBK(x0:DT5)(x1:b6):Prop:=x0.2.2.2.2.2.2.2.2.2.2.1.Pairwise (λa b=>Kl a.1 b.1)/\(x0.2.2.2.2.2.2.2.2.2.2.1.length:Int)<=10
def bBL(x0:DT5)(x1:b6)(h:bBK x0 x1):∀(k i:Nat) (h2:Γ Δ),i+k=x0.2.2.2.2.2.2.2.2.2.2.1.length->h2=(x0.2.2.2.2.2.2.2.2.2.2.1.take i).map dB->RY (k+1) (i:Int) h2 x0 x1 [⟨.int .i64,aBV x0 x1⟩] [some ⟨iU,[NR x0 x1]⟩]:=by
 obtain⟨hs,hl⟩:=h;intro k
 induction k with
 | zero =>
  intro i h2 hi hh;obtain⟨e1,e2⟩:=Je hs x1 hl;have hk:=(FE hs x1).le;have hn:h2=x0.2.2.2.2.2.2.2.2.2.2.1.map dB:=by rw[hh,cW (by omega)]
  rw[RY,ν (by simp only[ε];omega),hn];by_cases c:pC x0.2.2.2.2.2.2.2.2.2.2.1 x1 10=0
  ·have e2:=e2 c;have ei:=XX hs x1 e2;have eu:pL x0.2.2.2.2.2.2.2.2.2.2.1 x1 10=pR x0.2.2.2.2.2.2.2.2.2.2.1 x1:=π c;have lk:((x0.2.2.2.2.2.2.2.2.2.2.1.take (0+aE (fT (x0.2.2.2.2.2.2.2.2.2.2.1.map dB) x1.1 10))).drop 0).length<=12:=by
    rw[gP,bW];omega
   have l2:((x0.2.2.2.2.2.2.2.2.2.2.1.take (0+aE ((x0.2.2.2.2.2.2.2.2.2.2.1.length-0:Nat):Int))).drop (0+aE (fT (x0.2.2.2.2.2.2.2.2.2.2.1.map dB) x1.1 10))).length<=12:=by
    rw[gQ,bW];omega
   refine(π (by rw[e1,c]<;>rfl)).mpr ⟨by omega,by omega,by omega,by rw[dL];omega,by omega,by omega,?_,?_,?_⟩
   ·rw[dL,aU,bP];omega
   ·rw[e1]<;>rfl
   ·show [some (jC.mk iU [NR x0 x1])]=_;unfold NR;rw[eu, <- ei]
  ·refine(ν (by rw[e1,beq_iff_eq];exact c)).mpr ⟨by rw[e1]<;>rfl,?_⟩;have eu:pL x0.2.2.2.2.2.2.2.2.2.2.1 x1 10=x0.2.2.2.2.2.2.2.2.2.2.1:=ν c;show [some (jC.mk iU [NR x0 x1])]=_;unfold NR;rw[eu]
 | succ k ih =>
  intro i h2 hi hh;have hlt:i<x0.2.2.2.2.2.2.2.2.2.2.1.length:=by omega
  have e3:(i:Int)+1=((i+1:Nat):Int):=by omega
  have hz:h2.length<=12:=by rw[hh,cM,bW];omega
  rw[RY,π (by simp only[ε];omega),e3,aI];refine⟨by omega,by omega,by omega,by rw[aK];omega,ih (i+1) _ (by omega) ?_⟩;rw[hh,eG,aX hlt,jX x0.2.2.2.2.2.2.2.2.2.2.1 i _ hlt,iQ]<;>rfl
def bIZ:KK:=mN bBI (DO aEb) bBK (λx=>[some ⟨iU,[NR x.1 x.2.1]⟩]) (aBV,()) (λ⟨x0,x1,_⟩ h hwf K q =>
 (bBJ _ _ K q ((x0.2.2.2.2.2.2.2.2.2.2.1.length+2))).1 (by rw[bIY];exact bBL x0 x1 h x0.2.2.2.2.2.2.2.2.2.2.1.length 0 [] (bX _) rfl))
def bJa:KK:=mB Tryz.func112 [.v (.str)] [.cons .str YA7,.bool] [aWX,aWE] aQW (Jh,EO,()) λ_=>aO<|vD (j0 pr)<|bS<|vD pr pr
def bBM:jB:=D0 aEc [.po iU,.v eC] [.int .i64] [aQN]
mutual
def bJb:Nat->bV->Δ×Int×Int×Unit->Γ aS->Γ (Option jC)->Prop
 | 0,_,_,_,_=>False
 | n+1,x0,x1,ds,us=>RZ n 0 ([]) x0 x1 ds us
def RZ:Nat->Int->Γ Δ->bV->Δ×Int×Int×Unit->Γ aS->Γ (Option jC)->Prop
 | 0,_,_,_,_,_,_=>False
 | n+1,v6,h2,x0,x1,ds,us=>if decide (v6<(x0.2.2.2.2.2.2.2.2.2.2.2.1.length:Int))then 0<=v6/\v6<(x0.2.2.2.2.2.2.2.2.2.2.2.1.length:Int)/\(aF h2+1)*16<=140737488355328/\bA .i64 (v6+1)/\RZ n (v6+1) (h2++[(aD x0.2.2.2.2.2.2.2.2.2.2.2.1 (aE v6) (aC,0,0,())).1]) x0 x1 ds us else if yM h2 x1.1 8==0 then 0<=fT h2 x1.1 8/\fT h2 x1.1 8<=(↑(aF x0.2.2.2.2.2.2.2.2.2.2.2.1-0):Int)/\(0+aF (aY 0 (aZ (0+aE (fT h2 x1.1 8)) x0.2.2.2.2.2.2.2.2.2.2.2.1)))*32<=140737488355328/\(aF ([]++aY 0 (aZ (0+aE (fT h2 x1.1 8)) x0.2.2.2.2.2.2.2.2.2.2.2.1))+1)*32<=140737488355328/\0<=fT h2 x1.1 8/\fT h2 x1.1 8<=(↑(aF x0.2.2.2.2.2.2.2.2.2.2.2.1-0):Int)/\(aF ([]++aY 0 (aZ (0+aE (fT h2 x1.1 8)) x0.2.2.2.2.2.2.2.2.2.2.2.1)++[x1])+aF (aY (0+aE (fT h2 x1.1 8)) (aZ (0+aE (↑(aF x0.2.2.2.2.2.2.2.2.2.2.2.1-0):Int)) x0.2.2.2.2.2.2.2.2.2.2.2.1)))*32<=140737488355328/\ds=[aJ (.int .i64) (yM h2 x1.1 8)]/\us=[some (jC.mk iU [(x0.1,x0.2.1,x0.2.2.1,x0.2.2.2.1,x0.2.2.2.2.1,x0.2.2.2.2.2.1,x0.2.2.2.2.2.2.1,x0.2.2.2.2.2.2.2.1,x0.2.2.2.2.2.2.2.2.1,x0.2.2.2.2.2.2.2.2.2.1,x0.2.2.2.2.2.2.2.2.2.2.1,[]++aY 0 (aZ (0+aE (fT h2 x1.1 8)) x0.2.2.2.2.2.2.2.2.2.2.2.1)++[x1]++aY (0+aE (fT h2 x1.1 8)) (aZ (0+aE (↑(aF x0.2.2.2.2.2.2.2.2.2.2.2.1-0):Int)) x0.2.2.2.2.2.2.2.2.2.2.2.1),())])] else ds=[aJ (.int .i64) (yM h2 x1.1 8)]/\us=[some (jC.mk iU [x0])]
end
def bBN(ds:Γ aS)(us:Γ (Option jC))(K:gU)(q:Nat->Value):∀n,(∀ {x0 x1},bJb n x0 x1 ds us->St bBM (x0,x1,()) ds us K q)/\(∀ {v6 h2 x0 x1},RZ n v6 h2 x0 x1 ds us->Cu bBM 3 ([eP 0 0 0 iU,eO 3 1 0 [],eW 5 2,eI 6 v6],[QW x0 3 4 5 6 7 8 9 10,some (iJ.mk eC [x1] true none (some false)),cN .str h2,cN fQ x0.1,cN dX x0.2.2.1,cN dX x0.2.2.2.1,cN eC x0.2.2.2.2.2.2.1,cN fQ x0.2.2.2.2.2.2.2.2.1,cN dX x0.2.2.2.2.2.2.2.2.2.1,cN eC x0.2.2.2.2.2.2.2.2.2.2.1,cN eC x0.2.2.2.2.2.2.2.2.2.2.2.1]) ds us K q):=nI ⟨aH,aH⟩ λn ⟨i,i3⟩=>⟨cX i3,
  bU (eE<|aO<|aO<|cX i3)<|bS<|bU (eE<|aO<|aO<|eE<|aO Kv) Kv⟩
def NS(x0:DT5)(x1:b6):DT5:=(x0.1,x0.2.1,x0.2.2.1,x0.2.2.2.1,x0.2.2.2.2.1,x0.2.2.2.2.2.1,x0.2.2.2.2.2.2.1,x0.2.2.2.2.2.2.2.1,x0.2.2.2.2.2.2.2.2.1,x0.2.2.2.2.2.2.2.2.2.1,x0.2.2.2.2.2.2.2.2.2.2.1,pL x0.2.2.2.2.2.2.2.2.2.2.2.1 x1 8,x0.2.2.2.2.2.2.2.2.2.2.2.2)
def aBW(x0:DT5)(x1:b6):Int:=pC x0.2.2.2.2.2.2.2.2.2.2.2.1 x1 8
def bBO(x0:DT5)(x1:b6):Prop:=x0.2.2.2.2.2.2.2.2.2.2.2.1.Pairwise (λa b=>Kl a.1 b.1)/\(x0.2.2.2.2.2.2.2.2.2.2.2.1.length:Int)<=8
def bBP(x0:DT5)(x1:b6)(h:bBO x0 x1):∀(k i:Nat) (h2:Γ Δ),i+k=x0.2.2.2.2.2.2.2.2.2.2.2.1.length->h2=(x0.2.2.2.2.2.2.2.2.2.2.2.1.take i).map dB->RZ (k+1) (i:Int) h2 x0 x1 [⟨.int .i64,aBW x0 x1⟩] [some ⟨iU,[NS x0 x1]⟩]:=by
 obtain⟨hs,hl⟩:=h;intro k
 induction k with
 | zero =>
  intro i h2 hi hh;obtain⟨e1,e2⟩:=Je hs x1 hl;have hk:=(FE hs x1).le;have hn:h2=x0.2.2.2.2.2.2.2.2.2.2.2.1.map dB:=by rw[hh,cW (by omega)]
  rw[RZ,ν (by simp only[ε];omega),hn];by_cases c:pC x0.2.2.2.2.2.2.2.2.2.2.2.1 x1 8=0
  ·have e2:=e2 c;have ei:=XX hs x1 e2;have eu:pL x0.2.2.2.2.2.2.2.2.2.2.2.1 x1 8=pR x0.2.2.2.2.2.2.2.2.2.2.2.1 x1:=π c;have lk:((x0.2.2.2.2.2.2.2.2.2.2.2.1.take (0+aE (fT (x0.2.2.2.2.2.2.2.2.2.2.2.1.map dB) x1.1 8))).drop 0).length<=12:=by
    rw[gP,bW];omega
   have l2:((x0.2.2.2.2.2.2.2.2.2.2.2.1.take (0+aE ((x0.2.2.2.2.2.2.2.2.2.2.2.1.length-0:Nat):Int))).drop (0+aE (fT (x0.2.2.2.2.2.2.2.2.2.2.2.1.map dB) x1.1 8))).length<=12:=by
    rw[gQ,bW];omega
   refine(π (by rw[e1,c]<;>rfl)).mpr ⟨by omega,by omega,by omega,by rw[dL];omega,by omega,by omega,?_,?_,?_⟩
   ·rw[dL,aU,bP];omega
   ·rw[e1]<;>rfl
   ·show [some (jC.mk iU [NS x0 x1])]=_;unfold NS;rw[eu, <- ei]
  ·refine(ν (by rw[e1,beq_iff_eq];exact c)).mpr ⟨by rw[e1]<;>rfl,?_⟩;have eu:pL x0.2.2.2.2.2.2.2.2.2.2.2.1 x1 8=x0.2.2.2.2.2.2.2.2.2.2.2.1:=ν c;show [some (jC.mk iU [NS x0 x1])]=_;unfold NS;rw[eu]
 | succ k ih =>
  intro i h2 hi hh;have hlt:i<x0.2.2.2.2.2.2.2.2.2.2.2.1.length:=by omega
  have e3:(i:Int)+1=((i+1:Nat):Int):=by omega
  have hz:h2.length<=12:=by rw[hh,cM,bW];omega
  rw[RZ,π (by simp only[ε];omega),e3,aI];refine⟨by omega,by omega,by omega,by rw[aK];omega,ih (i+1) _ (by omega) ?_⟩;rw[hh,eG,aX hlt,jX x0.2.2.2.2.2.2.2.2.2.2.2.1 i _ hlt,iQ]<;>rfl
def bJc:KK:=mN bBM (DO aEc) bBO (λx=>[some ⟨iU,[NS x.1 x.2.1]⟩]) (aBW,()) (λ⟨x0,x1,_⟩ h hwf K q =>
 (bBN _ _ K q ((x0.2.2.2.2.2.2.2.2.2.2.2.1.length+2))).1 (by rw[bJb];exact bBP x0 x1 h x0.2.2.2.2.2.2.2.2.2.2.2.1.length 0 [] (bX _) rfl))
def P40(x0:bV)(x1:Δ)(x2:Δ):Prop:=if aB x1==aB (aA #[102,97,114,101])then P31 x2/\if !EN x2 then True else bB8 x0 (NN x2)/\P32 (aBR x0 (NN x2))/\True else if aB x1==aB (aA #[116,101,115,116])then aNz x2/\if !C0 x2 then True else aUm x0.2.2.2.2.2.2.2.2.2.1 (vW x2)/\if zT x0.2.2.2.2.2.2.2.2.2.1 (vW x2)==0 then P32 (zT x0.2.2.2.2.2.2.2.2.2.1 (vW x2))/\True else P32 (zT x0.2.2.2.2.2.2.2.2.2.1 (vW x2))/\True else if aB x1==aB (aA #[104,101,108,112,101,114])then aQW x2/\if !EO x2 then True else bBK x0 (Jh x2)/\P32 (aBV x0 (Jh x2))/\True else if aB x1==aB (aA #[116,97,115,107])then aQW x2/\if !EO x2 then True else bBO x0 (Jh x2)/\P32 (aBW x0 (Jh x2))/\True else True
def X0(x0:bV)(x1:Δ)(x2:Δ):Γ Δ:=if aB x1==aB (aA #[102,97,114,101])then(if !EN x2 then [] else AR (aBR x0 (NN x2)))else if aB x1==aB (aA #[116,101,115,116])then(if !C0 x2 then [] else if zT x0.2.2.2.2.2.2.2.2.2.1 (vW x2)==0 then AR (zT x0.2.2.2.2.2.2.2.2.2.1 (vW x2))else AR (zT x0.2.2.2.2.2.2.2.2.2.1 (vW x2)))else if aB x1==aB (aA #[104,101,108,112,101,114])then(if !EO x2 then [] else AR (aBV x0 (Jh x2)))else if aB x1==aB (aA #[116,97,115,107])then(if !EO x2 then [] else AR (aBW x0 (Jh x2)))else []
def X1(x0:bV)(x1:Δ)(x2:Δ):Bool:=if aB x1==aB (aA #[102,97,114,101])then(if !EN x2 then false else true)else if aB x1==aB (aA #[116,101,115,116])then(if !C0 x2 then false else if zT x0.2.2.2.2.2.2.2.2.2.1 (vW x2)==0 then true else true)else if aB x1==aB (aA #[104,101,108,112,101,114])then(if !EO x2 then false else true)else if aB x1==aB (aA #[116,97,115,107])then(if !EO x2 then false else true)else false
def X2(x0:bV)(x1:Δ)(x2:Δ):bV:=if aB x1==aB (aA #[102,97,114,101])then(if !EN x2 then x0 else NO x0 (NN x2))else if aB x1==aB (aA #[116,101,115,116])then(if !C0 x2 then x0 else if zT x0.2.2.2.2.2.2.2.2.2.1 (vW x2)==0 then(x0.1,x0.2.1,x0.2.2.1,x0.2.2.2.1,x0.2.2.2.2.1,x0.2.2.2.2.2.1,x0.2.2.2.2.2.2.1,x0.2.2.2.2.2.2.2.1,x0.2.2.2.2.2.2.2.2.1,aBS x0.2.2.2.2.2.2.2.2.2.1 (vW x2),x0.2.2.2.2.2.2.2.2.2.2.1,x0.2.2.2.2.2.2.2.2.2.2.2.1,())else x0)else if aB x1==aB (aA #[104,101,108,112,101,114])then(if !EO x2 then x0 else NR x0 (Jh x2))else if aB x1==aB (aA #[116,97,115,107])then(if !EO x2 then x0 else NS x0 (Jh x2))else x0
def bMX:KK:=mV Tryz.func40 [.po iU,.v (.str),.v (.str)] [.sl .str,.bool] [bIN,bIP,aTZ,bIR,bIS,bIX,bIZ,bJa,bJc] P40 (λx=>[some ⟨.cons (.sl fQ) YA1,[X2 x.1 x.2.1 x.2.2.1]⟩]) (X0,X1,()) λ_=>rQ (aO<|rQ pr<|aO<|aO pr)<|rQ (aO<|rQ pr<|aO<|rQ (aO pr)<|aO pr)<|rQ (aO<|rQ pr<|aO<|aO pr)<|rQ (aO<|rQ pr<|aO<|aO pr) pr
def d15:jB:=D0 aHB [.po iU,.v (.str),.v (.str)] [.sl .str,.bool] [bMK,bMO,aTZ,bMP,bMQ,bMR,bMS,bMV,bMW,bMX]
def P15(x0:bV)(x1:Δ)(x2:Δ):Prop:=if aB x1==aB (aA #[98,101,110,100])then P31 x2/\if !LV x2 then True else P33 x0 (XR x2)/\P32 (aLd x0 (XR x2))/\True else if aB x1==aB (aA #[114,111,112,101])then P34 x2/\True else if aB x1==aB (aA #[104,111,117,114])then P35 x2/\if !uU x2 then True else if(x0.2.2.1.length:Int)==48 then P32 5/\True else(0+aF x0.2.2.1)*24<=140737488355328/\(aF ([]++x0.2.2.1)+1)*24<=140737488355328/\P32 0/\True else if aB x1==aB (aA #[109,111,116,111,114])then P35 x2/\True else if aB x1==aB (aA #[119,111,114,107,101,114])then P37 x2/\if !LY x2 then True else P38 x0 (Sx x2)/\P32 (aLg x0 (Sx x2))/\True else if aB x1==aB (aA #[98,97,115,105,110])then P34 x2/\True else P40 x0 x1 x2/\True
def DX(x0:bV)(x1:Δ)(x2:Δ):Γ Δ:=if aB x1==aB (aA #[98,101,110,100])then(if !LV x2 then [] else AR (aLd x0 (XR x2)))else if aB x1==aB (aA #[114,111,112,101])then(if LW x2 then [aA #[111,107]] else [aA #[111,107]])else if aB x1==aB (aA #[104,111,117,114])then(if !uU x2 then [] else if(x0.2.2.1.length:Int)==48 then AR 5 else AR 0)else if aB x1==aB (aA #[109,111,116,111,114])then(if LX x2 then [aA #[111,107]] else [aA #[111,107]])else if aB x1==aB (aA #[119,111,114,107,101,114])then(if !LY x2 then [] else AR (aLg x0 (Sx x2)))else if aB x1==aB (aA #[98,97,115,105,110])then(if LZ x2 then [aA #[111,107]] else [aA #[111,107]])else X0 x0 x1 x2
def yO(x0:bV)(x1:Δ)(x2:Δ):Bool:=if aB x1==aB (aA #[98,101,110,100])then(if !LV x2 then false else true)else if aB x1==aB (aA #[114,111,112,101])then(if LW x2 then LW x2 else LW x2)else if aB x1==aB (aA #[104,111,117,114])then(if !uU x2 then false else if(x0.2.2.1.length:Int)==48 then true else true)else if aB x1==aB (aA #[109,111,116,111,114])then(if LX x2 then LX x2 else LX x2)else if aB x1==aB (aA #[119,111,114,107,101,114])then(if !LY x2 then false else true)else if aB x1==aB (aA #[98,97,115,105,110])then(if LZ x2 then LZ x2 else LZ x2)else X1 x0 x1 x2
def xV(x0:bV)(x1:Δ)(x2:Δ):bV:=if aB x1==aB (aA #[98,101,110,100])then(if !LV x2 then x0 else XY x0 (XR x2))else if aB x1==aB (aA #[114,111,112,101])then(if LW x2 then(x0.1,(aLe x2),x0.2.2.1,x0.2.2.2.1,x0.2.2.2.2.1,x0.2.2.2.2.2.1,x0.2.2.2.2.2.2.1,x0.2.2.2.2.2.2.2.1,x0.2.2.2.2.2.2.2.2.1,x0.2.2.2.2.2.2.2.2.2.1,x0.2.2.2.2.2.2.2.2.2.2.1,x0.2.2.2.2.2.2.2.2.2.2.2.1,())else x0)else if aB x1==aB (aA #[104,111,117,114])then(if !uU x2 then x0 else if(x0.2.2.1.length:Int)==48 then x0 else(x0.1,x0.2.1,[]++x0.2.2.1++[yN x2],x0.2.2.2.1,x0.2.2.2.2.1,x0.2.2.2.2.2.1,x0.2.2.2.2.2.2.1,x0.2.2.2.2.2.2.2.1,x0.2.2.2.2.2.2.2.2.1,x0.2.2.2.2.2.2.2.2.2.1,x0.2.2.2.2.2.2.2.2.2.2.1,x0.2.2.2.2.2.2.2.2.2.2.2.1,()))else if aB x1==aB (aA #[109,111,116,111,114])then(if LX x2 then(x0.1,x0.2.1,x0.2.2.1,x0.2.2.2.1,(aLf x2),x0.2.2.2.2.2.1,x0.2.2.2.2.2.2.1,x0.2.2.2.2.2.2.2.1,x0.2.2.2.2.2.2.2.2.1,x0.2.2.2.2.2.2.2.2.2.1,x0.2.2.2.2.2.2.2.2.2.2.1,x0.2.2.2.2.2.2.2.2.2.2.2.1,())else x0)else if aB x1==aB (aA #[119,111,114,107,101,114])then(if !LY x2 then x0 else XZ x0 (Sx x2))else if aB x1==aB (aA #[98,97,115,105,110])then(if LZ x2 then(x0.1,x0.2.1,x0.2.2.1,x0.2.2.2.1,x0.2.2.2.2.1,x0.2.2.2.2.2.1,x0.2.2.2.2.2.2.1,(aLh x2),x0.2.2.2.2.2.2.2.2.1,x0.2.2.2.2.2.2.2.2.2.1,x0.2.2.2.2.2.2.2.2.2.2.1,x0.2.2.2.2.2.2.2.2.2.2.2.1,())else x0)else X2 x0 x1 x2
def bMY:KK:=mN d15 (DO aHB) P15 (λx=>[some ⟨.cons (.sl fQ) YA1,[xV x.1 x.2.1 x.2.2.1]⟩]) (DX,yO,()) λ⟨x0,x1,x2,_⟩ h _ K q=>have sq1:=bFl [eP 0 8 0 iU,eS 1 x1,eS 2 x2,(6,.a (.val (.slice none 0 0))),eB 7 false,eO 12 9 0 [],eB 13 (uU x2),eS 20 x1,eB 21 (aB x1==aB (aA #[98,101,110,100])),eB 22 (aB x1==aB (aA #[98,101,110,100])),eB 34 (aB x1==aB (aA #[114,111,112,101])),eB 35 (aB x1==aB (aA #[114,111,112,101])),eB 48 (aB x1==aB (aA #[104,111,117,114])),eB 49 (aB x1==aB (aA #[104,111,117,114])),(50,PV.tup [dE.st dX (yN x2),Nl (uU x2)]),eS 51 x2,(52,PV.tup [dE.st dX (yN x2),Nl (uU x2)]),eT 53 dX (yN x2),eB 54 (uU x2),eB 55 (uU x2),eB 56 (!uU x2),eP 57 8 0 iU,eP 58 8 0 iU,eP 59 8 5 (.sl dX),eW 60 1,eI 61 (x0.2.2.1.length:Int),eB 62 ((x0.2.2.1.length:Int)==48),eP 64 8 0 iU,eP 66 8 0 iU,eP 67 8 0 iU,eP 68 8 5 (.sl dX),eW 69 1,eT 71 dX (yN x2),eW 72 11,eW 73 10,eP 74 8 0 iU,eP 75 8 5 (.sl dX)] [cN fQ x0.1,cN dX x0.2.2.1,cN dX x0.2.2.2.1,cN eC x0.2.2.2.2.2.2.1,cN fQ x0.2.2.2.2.2.2.2.2.1,cN dX x0.2.2.2.2.2.2.2.2.2.1,cN eC x0.2.2.2.2.2.2.2.2.2.2.1,cN eC x0.2.2.2.2.2.2.2.2.2.2.2.1,QW x0 0 10 2 3 4 5 6 7,some (iJ.mk dX [yN x2] true none (some false)),cN dX ([]++x0.2.2.1++[yN x2]),cN dX [yN x2]];Yj h (λh=>c1 h λh=>Yj h (λh=>rt) λh=>c1 h λh=>c1 h λh=>rt) λh=>Yj h (λh=>c1 h λh=>e2u (rt) (rt)) λh=>Yj h (λh=>c1 h λh=>Yj h (λh=>rt) λh=>Yj h (λh=>c1 h λh=>rt) λh=>cS h λs1 h=>cS h λs2 h=>tP s1<|tP s2<|tP s1<|tP s2<|tP sq1<|tP sq1<|tP s1<|tP s2<|tP s1<|tP s2<|tP sq1<|tP s1<|tP s2<|tP sq1<|tP sq1<|tP s1<|tP s2<|tP s1<|tP s2<|tP s1<|tP s2<|tP sq1<|tP sq1<|tP s1<|tP s2<|tP s1<|tP s2<|tP sq1<|tP s1<|tP s2<|tP sq1<|tP sq1<|tP sq1<|tP s1<|tP s2<|tP s1<|tP s2<|tP sq1<|tP s1<|tP s2<|tP sq1<|tP s1<|tP s2<|tP s1<|tP s2<|tP sq1<|tP s1<|tP s2<|tP sq1<|tP sq1<|tP s1<|tP s2<|tP s1<|tP s2<|tP (bFl [eP 0 8 0 iU,eS 1 x1,eS 2 x2,(6,.a (.val (.slice none 0 0))),eB 7 false,eO 12 9 0 [],eB 13 (uU x2),eS 20 x1,eB 21 (aB x1==aB (aA #[98,101,110,100])),eB 22 (aB x1==aB (aA #[98,101,110,100])),eB 34 (aB x1==aB (aA #[114,111,112,101])),eB 35 (aB x1==aB (aA #[114,111,112,101])),eB 48 (aB x1==aB (aA #[104,111,117,114])),eB 49 (aB x1==aB (aA #[104,111,117,114])),(50,PV.tup [dE.st dX (yN x2),Nl (uU x2)]),eS 51 x2,(52,PV.tup [dE.st dX (yN x2),Nl (uU x2)]),eT 53 dX (yN x2),eB 54 (uU x2),eB 55 (uU x2),eB 56 (!uU x2),eP 57 8 0 iU,eP 58 8 0 iU,eP 59 8 5 (.sl dX),eW 60 1,eI 61 (x0.2.2.1.length:Int),eB 62 ((x0.2.2.1.length:Int)==48),eP 64 8 0 iU,eP 66 8 0 iU,eP 67 8 0 iU,eP 68 8 5 (.sl dX),eW 69 1,eT 71 dX (yN x2),eW 72 10,eW 73 11,eP 74 8 0 iU,eP 75 8 5 (.sl dX)] [cN fQ x0.1,cN dX x0.2.2.1,cN dX x0.2.2.2.1,cN eC x0.2.2.2.2.2.2.1,cN fQ x0.2.2.2.2.2.2.2.2.1,cN dX x0.2.2.2.2.2.2.2.2.2.1,cN eC x0.2.2.2.2.2.2.2.2.2.2.1,cN eC x0.2.2.2.2.2.2.2.2.2.2.2.1,QW x0 0 11 2 3 4 5 6 7,some (iJ.mk dX [yN x2] true none (some false)),cN dX [yN x2],cN dX ([]++x0.2.2.1++[yN x2])])<|tP sq1<|tP sq1<|c1 h λh=>rt) λh=>Yj h (λh=>c1 h λh=>e2u (rt) (rt)) λh=>Yj h (λh=>c1 h λh=>Yj h (λh=>rt) λh=>c1 h λh=>c1 h λh=>rt) λh=>Yj h (λh=>c1 h λh=>e2u (rt) (rt)) λh=>c1 h λh=>rt
def bBR:jB:=D0 aEd [.v (.sl Jy)] [.bool] [lT]
mutual
def bBS:Nat->Γ Int->Γ aS->Prop
 | 0,_,_=>False
 | n+1,x0,ds=>NT n 0 x0 ds
def NT:Nat->Int->Γ Int->Γ aS->Prop
 | 0,_,_,_=>False
 | n+1,v3,x0,ds=>if decide (v3<(x0.length:Int))then 0<=v3/\v3<(x0.length:Int)/\if !cJ (aD x0 (aE v3) 0) (-1000000000) 1000000000 then ds=[aJ .bool false] else bA .i64 (v3+1)/\NT n (v3+1) x0 ds else ds=[aJ .bool (decide ((x0.length:Int)<=32))]
end
def bBT(ds:Γ aS)(K:gU)(q:Nat->Value):∀n,(∀ {x0},bBS n x0 ds->St bBR (x0,()) ds [] K q)/\(∀ {v3 x0},NT n v3 x0 ds->Cu bBR 2 ([eL 0 (.int .i64) x0,eI 3 v3],[]) ds [] K q):=nI ⟨aH,aH⟩ λn ⟨i,i2⟩=>⟨cX i2,
  bU (eE<|bS<|bU dR<|aO<|cX i2) dR⟩
def aQY(v:Int):Bool:=cJ v (-1000000000) 1000000000
def bBU(n:Int):Bool:=decide (n<=32)
def X3(x0:Γ Int):Bool:=x0.all aQY&&bBU (x0.length:Int)
def bBV(x0:Γ Int)(hw:x0.length<=maxLen):bBS (x0.length+1+1) x0 [⟨.bool,X3 x0⟩]:=by
 rw[bBS];have key:=tG x0 (0:Int) aQY [(⟨.bool,false⟩:aS)] [⟨.bool,bBU (x0.length:Int)⟩] (λn i ds=>NT n i x0 ds) (λn=>?_) (λn i hi hok ds hr=>?_) (λn i hi hok=>?_)
 ·unfold X3;cases h:x0.all aQY <;> rw[h]at key <;> simpa using key
 ·rw[NT,ν (by simp)];rfl
 ·rw[NT,π (by simp;omega)];simp only[aI];refine⟨by omega,by omega,?_⟩;rw[ν (by rw[show cJ (x0.getD i 0) (-1000000000) 1000000000=true from hok];simp)];exact⟨jZ hw hi,hr⟩
 ·rw[NT,π (by simp;omega)];simp only[aI];refine⟨by omega,by omega,?_⟩;rw[π (by rw[show cJ (x0.getD i 0) (-1000000000) 1000000000=false from hok];simp)] <;> trivial
def bJe:KK:=mL bBR (DO aEd) nP (X3,()) (λ⟨x0,_⟩ h hwf K q =>
 (bBT _ K q _).1 (bBV x0 hwf.1.1))
def aBX(x0:Γ Int)(x1:Int):Bool:=if X3 x0 then(if decide ((x0.length:Int)>=3)then cJ x1 0 1000000 else false)else false
def bJf:KK:=mB Tryz.func116 [.v (.sl Jy),.v (.int .i64)] [.bool] [bJe,lT] nP (aBX,()) λ_=>bS<|fP (fP (bS pr) pr)<|dN pr
def aUn(x0:Int)(x1:Int)(x2:Int):Prop:=((bA .i64 (x0-x1))/\(if decide (x0-x1<=x2)=true then((bA .i64 (x1-x0))/\True)else True))
def aBY(x0:Int)(x1:Int)(x2:Int):Bool:=if decide (x0-x1<=x2)then decide (x1-x0<=x2)else false
def bJg:KK:=mB Tryz.func117 [.v (.int .i64),.v (.int .i64),.v (.int .i64)] [.bool] [] aUn (aBY,()) λ_=>aO<|tH (aO pr) pr
end
theorem aGu:∀(l:Γ Int) (s m:Int),s<=m->(∀y∈l,y<=m)->(s=m\/m∈l)->l.foldl (λs y=>if s<y then y else s) s=m
 | [],s,m,_,_,h=>h.resolve_right (by simp)
 | y::l,s,m,h1,h2,h3=>by
  rw[fR];have hy:=h2 y (aR ..);refine aGu l _ m (by split <;> omega) (λz hz=>h2 z (aM _ hz)) ?_;rcases h3 with h3 | h3
  ·split <;> omega
  ·rcases aW.1 h3 with h3 | h3
   ·split <;> omega
   ·exact .inr h3
structure Yp (cs:Γ Int) (i:Nat) (b m:Int):Prop where
 no:i=0->b=0/\m=0
 ex:0<i->∃e:Nat,b=(e:Int)/\e<i/\cs.getD e 0=m/\(∀j,j<i->cs.getD j 0<=m)/\∀j,j<e->cs.getD j 0<m
theorem Yp.step{cs:Γ Int}{i:Nat}{b m:Int}(h:Yp cs i b m)(h1:1<=cs.getD i 0):Yp cs (i+1) (if m<cs.getD i 0 then(i:Int)else b) (if m<cs.getD i 0 then cs.getD i 0 else m):=by
 refine⟨λe=>by lia,λ_=>?_⟩;by_cases e0:i=0
 ·obtain⟨h2,h3⟩:=h.no e0
  grind
 ·obtain⟨e,h2,h3,h4,h5,h6⟩:=h.ex (by lia)
  grind
theorem Yp.max{cs:Γ Int}{b m:Int}(h:Yp cs cs.length b m)(h0:0<cs.length):(cs.drop 1).foldl (λs y=>if s<y then y else s) (cs.getD 0 0)=m:=by
 obtain⟨e,h2,h3,h4,h5,h6⟩:=h.ex h0;refine aGu _ _ _ (h5 0 h0) (λy hy=>?_) ?_
 ·obtain⟨j,hj,rfl⟩:=pG (List.mem_of_mem_drop hy)
  grind
 ·cases e with
  | zero=>lia
  | succ e =>
   have:(cs.drop 1)[e]'(by grind)=m:=by
    grind
   grind
theorem Yp.idx{cs:Γ Int}{b m:Int}(h:Yp cs cs.length b m)(h0:0<cs.length):∃e:Nat,b=(e:Int)/\e<cs.length/\cs.findIdx? (λy=>m==y)=some e:=by
 obtain⟨e,h2,h3,h4,h5,h6⟩:=h.ex h0;refine⟨e,h2,h3,List.findIdx?_eq_some_iff_getElem.2 ⟨h3,?_,λj hj=>?_⟩⟩
 all_goals grind
def aUo(l:Γ Int)(n:Int):aBX l n=(JD l 3&&bH n 0 1000000):=by
 have e:∀x,aQY x = !JC x:=λx=>(aEe _).symm;have ea:l.all aQY = !l.any JC:=by
  grind
 unfold aBX X3 JD GD bBU;rw[Vs];show _=((if decide ((l.length:Int)>=3)=true then(if decide ((l.length:Int)<=32)=true then(!l.any JC)else false)else false)&&cJ n 0 1000000)
 lia
def aQZ{a b n:Int}(ha : -1000000000<=a/\a<=1000000000)(hb : -1000000000<=b/\b<=1000000000):aUn a b n/\aBY a b n=decide (mX (a-b)<=n):=by
 unfold aUn aBY mX;refine⟨⟨by grind [aK],?_⟩,?_⟩
 ·split
  ·exact⟨by grind [aK],trivial⟩
  lia
 lia
noncomputable section
def d43:jB:=D0 aHC [.v (.sl Jy),.v (.int .i64)] [.int .i64,.int .i64] [bJf,bJg]
mutual
def R43:Nat->Γ Int->Int->Γ aS->Prop
 | 0,_,_,_=>False
 | n+1,x0,x1,ds=>if !aBX x0 x1 then ds=[aJ (.int .i64) 0,aJ (.int .i64) 2] else Sz n 0 0 0 x0 x1 ds
def Sz:Nat->Int->Int->Int->Γ Int->Int->Γ aS->Prop
 | 0,_,_,_,_,_,_=>False
 | n+1,v6,v7,v8,x0,x1,ds=>if decide (v8<(x0.length:Int))then Jj n 0 0 x0 x1 v6 v7 v8 ds else bA .i64 (2*v7)/\if decide (2*v7<=(x0.length:Int))then ds=[aJ (.int .i64) 0,aJ (.int .i64) 3] else 0<=v6/\v6<(x0.length:Int)/\ds=[aJ (.int .i64) (aD x0 (aE v6) 0),aJ (.int .i64) 0]
def Jj:Nat->Int->Int->Γ Int->Int->Int->Int->Int->Γ aS->Prop
 | 0,_,_,_,_,_,_,_,_=>False
 | n+1,v9,v10,x0,x1,v6,v7,v8,ds=>if decide (v10<(x0.length:Int))then 0<=v8/\v8<(x0.length:Int)/\0<=v10/\v10<(x0.length:Int)/\aUn (aD x0 (aE v8) 0) (aD x0 (aE v10) 0) x1/\if aBY (aD x0 (aE v8) 0) (aD x0 (aE v10) 0) x1 then bA .i64 (v9+1)/\bA .i64 (v10+1)/\Jj n (v9+1) (v10+1) x0 x1 v6 v7 v8 ds else bA .i64 (v10+1)/\Jj n v9 (v10+1) x0 x1 v6 v7 v8 ds else if decide (v9>v7)then bA .i64 (v8+1)/\Sz n v8 v9 (v8+1) x0 x1 ds else bA .i64 (v8+1)/\Sz n v6 v7 (v8+1) x0 x1 ds
end
def bJi(ds:Γ aS)(K:gU)(q:Nat->Value):∀n,(∀ {x0 x1},R43 n x0 x1 ds->St d43 (x0,x1,()) ds [] K q)/\(∀ {v6 v7 v8 x0 x1},Sz n v6 v7 v8 x0 x1 ds->Cu d43 6 ([eL 0 (.int .i64) x0,eI 1 x1,eI 6 v6,eI 7 v7,eI 8 v8],[]) ds [] K q)/\(∀ {v9 v10 x0 x1 v6 v7 v8},Jj n v9 v10 x0 x1 v6 v7 v8 ds->Cu d43 10 ([eL 0 (.int .i64) x0,eI 1 x1,eI 6 v6,eI 7 v7,eI 8 v8,eI 9 v9,eI 10 v10],[]) ds [] K q):=nI ⟨aH,aH,aH⟩ λn ⟨i,i6,i10⟩=>⟨bS<|bU dR<|cX i6,
  bU (cX i10)<|aO<|bU dR<|eE dR,
  bU (eE<|eE<|aO<|bU (aO<|aO<|cX i10)<|aO<|cX i10)<|bU (aO<|cX i6)<|aO<|cX i6⟩
def Ou(x0:Γ Int)(x1:Int):Int:=GF x0 x1
def Ov(x0:Γ Int)(x1:Int):Int:=JE x0 x1
abbrev c43(x0:Γ Int)(x1:Int):Γ Int:=kE x0 x1
theorem aJ4(x0:Γ Int)(x1:Int)(i:Nat)(h:i<x0.length):(c43 x0 x1).getD i 0=(Ae (x0.getD i 0) x1 x0:Int):=by
 show (x0.map _).getD i 0=_;rw[jX _ _ _ (by rw[cM];exact h),List.getElem_map,jX x0 i 0 h]
def aUp(x0:Γ Int)(x1:Int)(hb:∀x∈x0, -1000000000<=x/\x<=1000000000)(hl:x0.length<=32)(i:Nat)(hi:i<x0.length)(b m:Int)(ds:Γ aS)(n:Nat):∀(k j c:Nat),j+k=x0.length->c<=j ->
  (∀t:Int,t=((c+Ae (x0.getD i 0) x1 (x0.drop j):Nat):Int)->Sz n (if m<t then(i:Int)else b) (if m<t then t else m) ((i:Int)+1) x0 x1 ds)->Jj (n+k+1) (c:Int) (j:Int) x0 x1 b m (i:Int) ds:=by
 intro k
 induction k with
 | zero =>
  intro j c hj hc hr;have hr:=hr c (by rw[bT (by omega)];rfl);rw[iX,Jj,ν (by simp only[ε];omega)];by_cases d:m<(c:Int)
  ·rw[π d,π d]at hr;rw[π (decide_eq_true d)];exact⟨by rw[aK];omega,hr⟩
  ·rw[ν d,ν d]at hr;rw[ν (by simpa using d)];exact⟨by rw[aK];omega,hr⟩
 | succ k ih =>
  intro j c hj hc hr;have hlt:j<x0.length:=by omega
  obtain⟨p,e⟩:=aQZ (n:=x1) (hb _ (bY x0 i 0 hi)) (hb _ (bY x0 j 0 hlt));have e3:(j:Int)+1=((j+1:Nat):Int):=by omega
  have e4:(c:Int)+1=((c+1:Nat):Int):=by omega
  rw[eD x0 j 0 hlt]at hr;unfold Ae at hr ih;rw[List.filter_cons]at hr;show Jj (n+k+1+1) _ _ _ _ _ _ _ _;rw[Jj,π (by simp only[ε];omega),e3,e4,aI,aI,e];refine⟨by omega,by omega,by omega,by omega,p,?_⟩;by_cases d:decide (mX (x0.getD i 0-x0.getD j 0)<=x1)=true
  ·rw[π d,cL]at hr;exact(π d).mpr ⟨by rw[aK];omega,by rw[aK];omega,ih (j+1) (c+1) (by omega) (by omega) λt ht=>hr t (by omega)⟩
  ·rw[ν d]at hr;exact(ν d).mpr ⟨by rw[aK];omega,ih (j+1) c (by omega) (by omega) hr⟩
def aUq(x0:Γ Int)(x1:Int)(hb:∀x∈x0, -1000000000<=x/\x<=1000000000)(hl:3<=x0.length/\x0.length<=32)(h1:0<=x1)(hg:∀b m:Int,Yp (c43 x0 x1) x0.length b m->Ou x0 x1=(if 2*m<=(x0.length:Int)then 0 else x0.getD b.toNat 0)/\Ov x0 x1=(if 2*m<=(x0.length:Int)then 3 else 0)) :
  ∀(k i:Nat) (b m:Int),i+k=x0.length->Yp (c43 x0 x1) i b m->∃n,Sz n b m (i:Int) x0 x1 [⟨.int .i64,Ou x0 x1⟩,⟨.int .i64,Ov x0 x1⟩]:=by
 have hc:∀(a:Int) (l:Γ Int),(Ae a x1 l)<=l.length:=λa l=>List.length_filter_le ..;intro k
 induction k with
 | zero =>
  intro i b m hi hv;obtain rfl:i=x0.length:=by omega
  obtain⟨e0,e1⟩:=hg b m hv;obtain⟨e,hb',he,hm,_⟩:=hv.ex (by omega);rw[aJ4 x0 x1 e (by omega)]at hm;have:=hc (x0.getD e 0) x0;refine⟨1,?_⟩;rw[Sz,ν (by simp only[ε];omega),e0,e1];refine⟨by rw[aK];omega,?_⟩;by_cases d:2*m<=(x0.length:Int)
  ·rw[π (decide_eq_true d),π d,π d]
  ·rw[ν (by simpa using d),ν d,ν d];exact⟨by omega,by omega,rfl⟩
 | succ k ih =>
  intro i b m hi hv;have hlt:i<x0.length:=by omega
  have hx:=hb _ (bY x0 i 0 hlt);have h1c:1<=(c43 x0 x1).getD i 0:=by
   rw[aJ4 x0 x1 i hlt];have:0<Ae (x0.getD i 0) x1 x0:=List.length_pos_of_mem (List.mem_filter.2 ⟨bY x0 i 0 hlt,decide_eq_true (by rw[Int.sub_self];exact h1)⟩);omega
  obtain⟨n,hn⟩:=ih (i+1) _ _ (by omega) (hv.step h1c);rw[aJ4 x0 x1 i hlt]at hn;refine⟨n+x0.length+1+1,?_⟩;rw[Sz,π (by simp only[ε];omega)];refine aUp x0 x1 hb hl.2 i hlt b m _ n x0.length 0 0 (by omega) (aT _) λt ht=>?_;rw[gP,bX]at ht;rw[<- ht]at hn;exact hn
def bJj(x0:Γ Int)(x1:Int):∃n,R43 n x0 x1 [⟨.int .i64,Ou x0 x1⟩,⟨.int .i64,Ov x0 x1⟩]:=by
 have hv:=aUo x0 x1;by_cases c1:JD x0 3=true
 ·by_cases c2:bH x1 0 1000000=true
  ·obtain⟨h1,h2,h3⟩:=J2 c1;have w:=wi c2;rw[c1,c2]at hv;obtain⟨n,hn⟩:=aUq x0 x1 h3 ⟨by omega,h2⟩ w.1 (λb m hV=>by
    have hV:Yp (c43 x0 x1) (c43 x0 x1).length b m:=by
     rw[show (c43 x0 x1).length=x0.length from cM ..];exact hV
    have hl:0<(c43 x0 x1).length:=by rw[show (c43 x0 x1).length=x0.length from cM ..];omega
    have em:vN (c43 x0 x1)=m:=hV.max hl;obtain⟨e,e1,e2,e3⟩:=hV.idx hl;have ei:GE (c43 x0 x1) m=(e:Int):=by
     show idx ((c43 x0 x1).findIdx? λy=>m==y)=_;rw[e3]<;>rfl
    unfold Ou Ov GF JE;rw[c1,c2,em,ei,e1];by_cases d:2*m<=(x0.length:Int)
    ·rw[π d,π d,decide_eq_true d];exact⟨rfl,rfl⟩
    ·rw[ν d,ν d,decide_eq_false d];exact⟨rfl,rfl⟩) x0.length 0 0 0 (bX _) ⟨λ_=>⟨rfl,rfl⟩,λh=>by omega⟩
   refine⟨n+1,?_⟩;rw[R43,hv];exact hn
  ·rw[c1,Dm c2]at hv;refine⟨1,?_⟩;unfold Ou Ov GF JE;rw[R43,hv,c1,Dm c2]<;>rfl
 ·rw[Dm c1]at hv;refine⟨1,?_⟩;unfold Ou Ov GF JE;rw[R43,hv,Dm c1]<;>rfl
def bMZ:KK:=mL d43 (DO aHC) nP (Ou,Ov,()) (λ⟨x0,x1,_⟩ h hwf K q =>
 let ⟨n,hn⟩:=bJj x0 x1
 (bJi _ K q n).1 hn)
def P44(x0:Int)(x1:Int):Prop:=((P28 [kI x0] x1)/\True)
def X4(x0:Int)(x1:Int):Γ Δ:=FA [kI x0] x1
def bJk:KK:=mB Tryz.func44 [.v (.int .i64),.v (.int .i64)] [.sl .str] [aJz,aQ9] P44 (X4,()) λ_=>bS<|aO pr
def bBX:jB:=D0 aEf [.v (.sl fQ),.v (.sl Jy)] [.int .i64] []
mutual
def bJl:Nat->Γ eR->Γ Int->Γ aS->Prop
 | 0,_,_,_=>False
 | n+1,x0,x1,ds=>Ap n (-1) 0 x0 x1 ds
def Ap:Nat->Int->Int->Γ eR->Γ Int->Γ aS->Prop
 | 0,_,_,_,_,_=>False
 | n+1,v5,v6,x0,x1,ds=>if decide (v6<(x0.length:Int))then 0<=v6/\v6<(x0.length:Int)/\if decide ((x1.length:Int)<=(aD x0 (aE v6) (aC,0,0,0,())).2.2.1)then bA .i64 ((x1.length:Int)-1)/\0<=(x1.length:Int)-1/\(x1.length:Int)-1<(x1.length:Int)/\0<(x1.length:Int)/\bA .i64 (aD x1 (aE ((x1.length:Int)-1)) 0-aD x1 0 0)/\0<=v6/\v6<(x0.length:Int)/\if decide (aD x1 (aE ((x1.length:Int)-1)) 0-aD x1 0 0<(aD x0 (aE v6) (aC,0,0,0,())).2.2.2.1)then(if decide (v5<0)then bA .i64 (v6+1)/\Ap n v6 (v6+1) x0 x1 ds else 0<=v6/\v6<(x0.length:Int)/\0<=v5/\v5<(x0.length:Int)/\if decide ((aD x0 (aE v6) (aC,0,0,0,())).2.1<(aD x0 (aE v5) (aC,0,0,0,())).2.1)then bA .i64 (v6+1)/\Ap n v6 (v6+1) x0 x1 ds else bA .i64 (v6+1)/\Ap n v5 (v6+1) x0 x1 ds)else bA .i64 (v6+1)/\Ap n v5 (v6+1) x0 x1 ds else bA .i64 (v6+1)/\Ap n v5 (v6+1) x0 x1 ds else ds=[aJ (.int .i64) v5]
end
def bBY(ds:Γ aS)(K:gU)(q:Nat->Value):∀n,(∀ {x0 x1},bJl n x0 x1 ds->St bBX (x0,x1,()) ds [] K q)/\(∀ {v5 v6 x0 x1},Ap n v5 v6 x0 x1 ds->Cu bBX 3 ([eL 0 fQ x0,eL 1 (.int .i64) x1,eI 5 v5,eI 6 v6],[]) ds [] K q):=nI ⟨aH,aH⟩ λn ⟨i,i3⟩=>⟨cX i3,
  bU (eE<|bU (aO<|eE<|pq 0<|aO<|aO<|eE<|bU (bU (j0<|aO<|cX i3)<|eE<|eE<|bU (aO<|cX i3)<|aO<|cX i3)<|dN<|aO<|cX i3)<|dN<|dN<|aO<|cX i3) dR⟩
abbrev tX(x0:Γ O7)(i:Int):O7:=x0.getD i.toNat (aC,0,0,0,())
def lU(x0:Γ O7)(x1:Γ Int):Nat->Int
 | 0 => -1
 | i+1=>if DP x1 (tX x0 (i:Int))=true/\(lU x0 x1 i<0\/(tX x0 (i:Int)).2.1<(tX x0 (lU x0 x1 i)).2.1)then(i:Int)else lU x0 x1 i
def jI(x0:Γ O7)(x1:Γ Int):Int:=lU x0 x1 x0.length
def aUr(x0:Γ O7)(x1:Γ Int):Prop:=aMU x0 x1
theorem Ox(x0:Γ O7)(x1:Γ Int):∀i, -1<=lU x0 x1 i/\lU x0 x1 i<(i:Int)
 | 0=>by unfold lU;omega
 | i+1=>by
  have:=Ox x0 x1 i;unfold lU;split <;> omega
theorem X5(x0:Γ O7)(x1:Γ Int):∀i,i<=x0.length->(x0.take i).foldl (pZ x1) (false,(aC,0,0,0,()))=if lU x0 x1 i<0 then(false,(aC,0,0,0,()))else(true,tX x0 (lU x0 x1 i))
 | 0,_=>rfl
 | i+1,h=>by
  have ih:=X5 x0 x1 i (by omega);have hi:=Ox x0 x1 i;have eg:x0[i]'(by omega)=tX x0 (i:Int):=by show _=x0.getD (aE (i:Int)) _;rw[aI,jX x0 i _ (by omega)]
  rw[eG,aX (show i<x0.length by omega),List.foldl_append,ih];show pZ x1 _ (x0[i]'(by omega))=_;rw[eg];unfold pZ;by_cases c1:DP x1 (tX x0 (i:Int))=true
  ·rw[π c1];by_cases c2:lU x0 x1 i<0
   ·have e:lU x0 x1 (i+1)=(i:Int):=by unfold lU;exact π ⟨c1,.inl c2⟩
    rw[π c2,e,ν (show ¬(i:Int)<0 by omega)]<;>rfl
   ·rw[ν c2];by_cases c3:(tX x0 (i:Int)).2.1<(tX x0 (lU x0 x1 i)).2.1
    ·have e:lU x0 x1 (i+1)=(i:Int):=by unfold lU;exact π ⟨c1,.inr c3⟩
     rw[e,ν (show ¬(i:Int)<0 by omega),ν (show ¬(!true)=true by decide)];exact π (decide_eq_true c3)
    ·have e:lU x0 x1 (i+1)=lU x0 x1 i:=by rw[lU];exact ν (λh=>h.2.elim c2 c3)
     rw[e,ν c2,ν (show ¬(!true)=true by decide)];exact ν (λh=>c3 (of_decide_eq_true h))
  ·have e:lU x0 x1 (i+1)=lU x0 x1 i:=by rw[lU];exact ν (λh=>c1 h.1)
   rw[ν c1,e]
def aLj(x0:Γ O7)(x1:Γ Int):(jI x0 x1<0/\rM x0 x1=false)\/(0<=jI x0 x1/\jI x0 x1<(x0.length:Int)/\rM x0 x1=true/\iV x0 x1=tX x0 (jI x0 x1)):=by
 have hf:=X5 x0 x1 x0.length (aT _);have hi:=Ox x0 x1 x0.length;rw[List.take_length]at hf;unfold jI iV rM Mk;rw[hf];by_cases c:lU x0 x1 x0.length<0
 ·rw[π c];exact .inl ⟨c,rfl⟩
 ·rw[ν c];exact .inr ⟨by omega,hi.2,rfl,rfl⟩
def bBZ(x0:Γ O7)(x1:Γ Int)(hm:x0.length<=maxLen)(hm1:x1.length<=maxLen)(h:aUr x0 x1):∀(k i:Nat),i+k=x0.length->Ap (k+1) (lU x0 x1 i) (i:Int) x0 x1 [⟨.int .i64,jI x0 x1⟩]:=by
 have hmx:maxLen<=9223372036854775807:=by decide
 obtain⟨h1,h2⟩:=h;intro k
 induction k with
 | zero =>
  intro i hi;obtain rfl:i=x0.length:=by omega
  rw[Ap,ν (by simp only[ε];omega)]<;>rfl
 | succ k ih =>
  intro i hi;have hlt:i<x0.length:=by omega
  have hu:=jZ hm hlt;have e3:(i:Int)+1=((i+1:Nat):Int):=by omega
  have e4:aE ((x1.length:Int)-1)=x1.length-1:=by omega
  have b1:=h2 _ (bY x1 (x1.length-1) 0 (by omega));have b2:=h2 _ (bY x1 0 0 (by omega));have hx:=Ox x0 x1 i;have ih:=ih (i+1) (by omega);rw[e3]at hu;have ef:x0.getD i (aC,0,0,0,())=tX x0 (i:Int):=by show _=x0.getD (aE (i:Int)) _;rw[aI]
  have eg:DP x1 (tX x0 (i:Int))=(decide ((tX x0 (i:Int)).2.2.1>=(x1.length:Int))&&decide (x1.getD (x1.length-1) 0-x1.getD 0 0<(tX x0 (i:Int)).2.2.2.1)):=rfl;have ei:lU x0 x1 (i+1)=if DP x1 (tX x0 (i:Int))=true/\(lU x0 x1 i<0\/(tX x0 (i:Int)).2.1<(tX x0 (lU x0 x1 i)).2.1)then(i:Int)else lU x0 x1 i:=rfl
  rw[Ap,π (by simp only[ε];omega),e3,e4,aI,ef];refine⟨by omega,by omega,?_⟩;have no:lU x0 x1 (i+1)=lU x0 x1 i->bA .i64 ((i+1:Nat):Int)/\Ap (k+1) (lU x0 x1 i) ((i+1:Nat):Int) x0 x1 [⟨.int .i64,jI x0 x1⟩]:=λe=>by
   rw[e]at ih;exact⟨hu,ih⟩
  have yes:lU x0 x1 (i+1)=(i:Int)->bA .i64 ((i+1:Nat):Int)/\Ap (k+1) (i:Int) ((i+1:Nat):Int) x0 x1 [⟨.int .i64,jI x0 x1⟩]:=λe=>by
   rw[e]at ih;exact⟨hu,ih⟩
  by_cases c1:(x1.length:Int)<=(tX x0 (i:Int)).2.2.1
  ·refine(π (decide_eq_true c1)).mpr ⟨by rw[aK];omega,by omega,by omega,by omega,by rw[aK];omega,by omega,by omega,?_⟩;by_cases c2:x1.getD (x1.length-1) 0-x1.getD 0 0<(tX x0 (i:Int)).2.2.2.1
   ·have hg:DP x1 (tX x0 (i:Int))=true:=by rw[eg,decide_eq_true c1,decide_eq_true c2]<;>rfl
    refine(π (decide_eq_true c2)).mpr ?_;by_cases c3:lU x0 x1 i<0
    ·exact(π (decide_eq_true c3)).mpr (yes (by rw[ei,π ⟨hg,.inl c3⟩]))
    ·refine(ν (by simpa using c3)).mpr ⟨by omega,by omega,by omega,by omega,?_⟩;by_cases c4:(tX x0 (i:Int)).2.1<(tX x0 (lU x0 x1 i)).2.1
     ·exact(π (decide_eq_true c4)).mpr (yes (by rw[ei,π ⟨hg,.inr c4⟩]))
     ·exact(ν (λh=>c4 (of_decide_eq_true h))).mpr (no (by rw[ei,ν (λh=>h.2.elim c3 c4)]))
   ·exact(ν (λh=>c2 (of_decide_eq_true h))).mpr (no (by rw[ei,ν (λh=>c2 (by rw[eg,aV]at h;exact of_decide_eq_true h.1.2))]))
  ·exact(ν (λh=>c1 (of_decide_eq_true h))).mpr (no (by rw[ei,ν (λh=>c1 (by rw[eg,aV]at h;exact of_decide_eq_true h.1.1))]))
def bJm:KK:=mL bBX (DO aEf) aUr (jI,()) (λ⟨x0,x1,_⟩ h hwf K q =>
 (bBY _ K q ((x0.length+2))).1 (by rw[bJl];exact bBZ x0 x1 hwf.1.1 hwf.2.1.1 h x0.length 0 (by omega)))
end
def upB(f:Nat->Int)(ok:Nat->Bool)(a:Nat):Nat->Nat->Int×Int->Int×Int
 | 0,_,s=>s
 | k+1,b,s=>upB f ok a k (b+1) (if ok b=true/\(b=a+1\/f b<=s.1)then(f b,(b:Int))else s)
def dnB(f:Nat->Int)(ok:Nat->Bool)(a:Nat):Nat->Int×Int->Int×Int
 | 0,s=>s
 | k+1,s=>dnB f ok a k (if ok (a+1+k)=true/\(s.1<0\/f (a+1+k)<s.1)then(f (a+1+k),((a+1+k:Nat):Int))else s)
structure IsB (f:Nat->Int) (ok:Nat->Bool) (lo hi:Nat) (s:Int×Int):Prop where
 ex:∃e:Nat,s.2=(e:Int)/\lo<=e/\e<hi/\ok e=true/\s.1=f e/\∀b,lo<=b->b<hi->ok b=true->f e<=f b/\(e<b->f e<f b)
theorem IsB.one{f:Nat->Int}{ok:Nat->Bool}{lo hi:Nat}{s t:Int×Int}(h:IsB f ok lo hi s)(k:IsB f ok lo hi t):s=t:=by
 obtain⟨e,h1,h2,h3,h4,h5,h6⟩:=h.ex;obtain⟨d,k1,k2,k3,k4,k5,k6⟩:=k.ex
 grind
theorem aBZ{f:Nat->Int}{ok:Nat->Bool}{a:Nat}(h1:ok (a+1)=true):∀(k b:Nat) (s:Int×Int),a<b->(b=a+1\/IsB f ok (a+1) b s)->(0<k\/b≠a+1)->IsB f ok (a+1) (b+k) (upB f ok a k b s)
 | 0,b,s,h,hs,hk=>hs.resolve_left (by lia)
 | k+1,b,s,h,hs,hk=>by
  rw[show b+(k+1)=b+1+k by lia];refine aBZ h1 k (b+1) _ (by lia) (.inr ?_) (.inr (by lia));by_cases c:ok b=true/\(b=a+1\/f b<=s.1)
  ·rw[π c];refine⟨b,rfl,h,by lia,c.1,rfl,λj hj hj2 ho=>?_⟩;by_cases e:j=b
   ·lia
   ·rcases hs with hs | hs
    ·lia
    ·obtain⟨d,d1,d2,d3,d4,d5,d6⟩:=hs.ex
     grind
  ·rw[ν c];rcases hs with rfl | hs
   ·lia
   ·obtain⟨d,d1,d2,d3,d4,d5,d6⟩:=hs.ex;refine⟨d,d1,d2,by lia,d4,d5,λj hj hj2 ho=>?_⟩
    grind
theorem aRa{f:Nat->Int}{ok:Nat->Bool}{a:Nat}(h1:ok (a+1)=true)(n:Nat)(h0:∀b,a<b->b<n->ok b=true->0<=f b):∀(k:Nat) (s:Int×Int),a+1+k<=n->((s.1<0/\∀b,a+1+k<=b->b<n->ok b=false)\/IsB f ok (a+1+k) n s)->(0<k\/0<=s.1)->IsB f ok (a+1) n (dnB f ok a k s)
 | 0,s,h,hs,hk=>hs.resolve_left (by lia)
 | k+1,s,h,hs,hk=>by
  rw[dnB];have hs':(((if ok (a+1+k)=true/\(s.1<0\/f (a+1+k)<s.1)then(f (a+1+k),((a+1+k:Nat):Int))else s).1<0/\∀b,a+1+k<=b->b<n->ok b=false)\/IsB f ok (a+1+k) n (if ok (a+1+k)=true/\(s.1<0\/f (a+1+k)<s.1)then(f (a+1+k),((a+1+k:Nat):Int))else s)):=by
   by_cases c:ok (a+1+k)=true/\(s.1<0\/f (a+1+k)<s.1)
   ·rw[π c];refine .inr ⟨a+1+k,rfl,aT _,by lia,c.1,rfl,λj hj hj2 ho=>?_⟩;by_cases e:j=a+1+k
    ·lia
    ·rcases hs with hs | hs
     ·grind
     ·obtain⟨d,d1,d2,d3,d4,d5,d6⟩:=hs.ex
      grind
   ·rw[ν c];rcases hs with hs | hs
    ·grind
    ·obtain⟨d,d1,d2,d3,d4,d5,d6⟩:=hs.ex;refine .inr ⟨d,d1,by lia,d3,d4,d5,λj hj hj2 ho=>?_⟩
     grind
  generalize (if ok (a+1+k)=true/\(s.1<0\/f (a+1+k)<s.1)then(f (a+1+k),((a+1+k:Nat):Int))else s)=t at *;refine aRa h1 n h0 k t (by lia) hs' ?_;by_cases e:0<k
  ·lia
  ·rcases hs' with q | q
   ·grind
   ·obtain⟨d,d1,d2,d3,d4,d5,d6⟩:=q.ex
    grind
theorem bJn{f:Nat->Int}{ok:Nat->Bool}{a n:Nat}(hn:a<n)(h1:ok (a+1)=true)(h0:∀b,a<b->b<n+1->ok b=true->0<=f b)(s t:Int×Int)(ht:t.1<0):upB f ok a (n-a) (a+1) s=dnB f ok a (n-a) t:=by
 have e:a+1+(n-a)=n+1:=by lia
 have u:=aBZ (f:=f) h1 (n-a) (a+1) s (by lia) (.inl rfl) (.inl (by lia));rw[e]at u;exact u.one (aRa h1 (n+1) h0 (n-a) t (by lia) (.inl ⟨ht,λb _ _=>by lia⟩) (.inl (by lia)))
noncomputable section
def d45:jB:=D0 aHD [.v (.sl fQ),.v (.sl Jy)] [.int .i64,.sl .str,.int .i64] [aW8,aPT,bJm]
mutual
def R45:Nat->Γ eR->Γ Int->Γ aS->Prop
 | 0,_,_,_=>False
 | n+1,x0,x1,ds=>if !Wg x0 then ds=[aJ (.int .i64) 0,aJ (.sl .str) [],aJ (.int .i64) 1] else H9 n 0 x0 x1 ds
def H9:Nat->Int->Γ eR->Γ Int->Γ aS->Prop
 | 0,_,_,_,_=>False
 | n+1,v8,x0,x1,ds=>if decide (v8<(x1.length:Int))then(if decide ((x1.length:Int)>40)then ds=[aJ (.int .i64) 0,aJ (.sl .str) [],aJ (.int .i64) 2] else 0<=v8/\v8<(x1.length:Int)/\if !My (aD x1 (aE v8) 0)then ds=[aJ (.int .i64) 0,aJ (.sl .str) [],aJ (.int .i64) 2] else if decide (v8>0)then bA .i64 (v8-1)/\0<=v8-1/\v8-1<(x1.length:Int)/\0<=v8/\v8<(x1.length:Int)/\if decide (aD x1 (aE (v8-1)) 0>aD x1 (aE v8) 0)then ds=[aJ (.int .i64) 0,aJ (.sl .str) [],aJ (.int .i64) 2] else bA .i64 (v8+1)/\H9 n (v8+1) x0 x1 ds else bA .i64 (v8+1)/\H9 n (v8+1) x0 x1 ds)else if decide ((x1.length:Int)>0)then(if(x0.length:Int)==0 then ds=[aJ (.int .i64) 0,aJ (.sl .str) [],aJ (.int .i64) 3] else bA .i64 ((x1.length:Int)+1)/\0<=(x1.length:Int)+1/\(x1.length:Int)+1<=(x1.length:Int)+1/\8*((x1.length:Int)+1)<=281474976710656/\bA .i64 ((x1.length:Int)+1)/\0<=(x1.length:Int)+1/\(x1.length:Int)+1<=(x1.length:Int)+1/\8*((x1.length:Int)+1)<=281474976710656/\bA .i64 ((x1.length:Int)-1)/\C3 n ((x1.length:Int)-1) (aQ (aE ((x1.length:Int)+1)) 0) (aQ (aE ((x1.length:Int)+1)) 0) x0 x1 ds)else bA .i64 ((x1.length:Int)+1)/\0<=(x1.length:Int)+1/\(x1.length:Int)+1<=(x1.length:Int)+1/\8*((x1.length:Int)+1)<=281474976710656/\bA .i64 ((x1.length:Int)+1)/\0<=(x1.length:Int)+1/\(x1.length:Int)+1<=(x1.length:Int)+1/\8*((x1.length:Int)+1)<=281474976710656/\bA .i64 ((x1.length:Int)-1)/\C3 n ((x1.length:Int)-1) (aQ (aE ((x1.length:Int)+1)) 0) (aQ (aE ((x1.length:Int)+1)) 0) x0 x1 ds
def C3:Nat->Int->Γ Int->Γ Int->Γ eR->Γ Int->Γ aS->Prop
 | 0,_,_,_,_,_,_=>False
 | n+1,v11,h0,h1,x0,x1,ds=>if decide (v11>=0)then 0<=v11/\v11<(h0.length:Int)/\Aq n ((x1.length:Int)) (fF h0 (aE v11) (-1)) h1 x0 x1 v11 ds else R7 n 0 ([]) x0 x1 h0 h1 ds
def Aq:Nat->Int->Γ Int->Γ Int->Γ eR->Γ Int->Int->Γ aS->Prop
 | 0,_,_,_,_,_,_,_=>False
 | n+1,v12,h0,h1,x0,x1,v11,ds=>if decide (v12>v11)then 0<=v11/\v11<=v12/\v12<=(x1.length:Int)/\aUr x0 (aY (aE v11) (aZ (aE v12) x1))/\if decide (jI x0 (aY (aE v11) (aZ (aE v12) x1))>=0)then 0<=v11/\v11<(h0.length:Int)/\if decide (aD h0 (aE v11) 0<0)then 0<=jI x0 (aY (aE v11) (aZ (aE v12) x1))/\jI x0 (aY (aE v11) (aZ (aE v12) x1))<(x0.length:Int)/\0<=v12/\v12<(h0.length:Int)/\bA .i64 ((aD x0 (aE (jI x0 (aY (aE v11) (aZ (aE v12) x1)))) (aC,0,0,0,())).2.1+aD h0 (aE v12) 0)/\0<=v11/\v11<(h0.length:Int)/\0<=v11/\v11<(h1.length:Int)/\bA .i64 (v12-1)/\Aq n (v12-1) (fF h0 (aE v11) ((aD x0 (aE (jI x0 (aY (aE v11) (aZ (aE v12) x1)))) (aC,0,0,0,())).2.1+aD h0 (aE v12) 0)) (fF h1 (aE v11) v12) x0 x1 v11 ds else 0<=jI x0 (aY (aE v11) (aZ (aE v12) x1))/\jI x0 (aY (aE v11) (aZ (aE v12) x1))<(x0.length:Int)/\0<=v12/\v12<(h0.length:Int)/\bA .i64 ((aD x0 (aE (jI x0 (aY (aE v11) (aZ (aE v12) x1)))) (aC,0,0,0,())).2.1+aD h0 (aE v12) 0)/\0<=v11/\v11<(h0.length:Int)/\if decide ((aD x0 (aE (jI x0 (aY (aE v11) (aZ (aE v12) x1)))) (aC,0,0,0,())).2.1+aD h0 (aE v12) 0<aD h0 (aE v11) 0)then 0<=jI x0 (aY (aE v11) (aZ (aE v12) x1))/\jI x0 (aY (aE v11) (aZ (aE v12) x1))<(x0.length:Int)/\0<=v12/\v12<(h0.length:Int)/\bA .i64 ((aD x0 (aE (jI x0 (aY (aE v11) (aZ (aE v12) x1)))) (aC,0,0,0,())).2.1+aD h0 (aE v12) 0)/\0<=v11/\v11<(h0.length:Int)/\0<=v11/\v11<(h1.length:Int)/\bA .i64 (v12-1)/\Aq n (v12-1) (fF h0 (aE v11) ((aD x0 (aE (jI x0 (aY (aE v11) (aZ (aE v12) x1)))) (aC,0,0,0,())).2.1+aD h0 (aE v12) 0)) (fF h1 (aE v11) v12) x0 x1 v11 ds else bA .i64 (v12-1)/\Aq n (v12-1) h0 h1 x0 x1 v11 ds else bA .i64 (v12-1)/\Aq n (v12-1) h0 h1 x0 x1 v11 ds else bA .i64 (v11-1)/\C3 n (v11-1) h0 h1 x0 x1 ds
def R7:Nat->Int->Γ Δ->Γ eR->Γ Int->Γ Int->Γ Int->Γ aS->Prop
 | 0,_,_,_,_,_,_,_=>False
 | n+1,v15,h2,x0,x1,h0,h1,ds=>if decide (v15<(x1.length:Int))then 0<=v15/\v15<(h1.length:Int)/\0<=v15/\v15<=aD h1 (aE v15) 0/\aD h1 (aE v15) 0<=(x1.length:Int)/\aUr x0 (aY (aE v15) (aZ (aE (aD h1 (aE v15) 0)) x1))/\0<=jI x0 (aY (aE v15) (aZ (aE (aD h1 (aE v15) 0)) x1))/\jI x0 (aY (aE v15) (aZ (aE (aD h1 (aE v15) 0)) x1))<(x0.length:Int)/\(aF h2+1)*16<=140737488355328/\0<=v15/\v15<(h1.length:Int)/\R7 n (aD h1 (aE v15) 0) (h2++[(aD x0 (aE (jI x0 (aY (aE v15) (aZ (aE (aD h1 (aE v15) 0)) x1)))) (aC,0,0,0,())).1]) x0 x1 h0 h1 ds else 0<(h0.length:Int)/\ds=[aJ (.int .i64) (aD h0 0 0),aJ (.sl .str) h2,aJ (.int .i64) 0]
end
def bJo(ds:Γ aS)(K:gU)(q:Nat->Value):∀n,(∀ {x0 x1},R45 n x0 x1 ds->St d45 (x0,x1,()) ds [] K q)/\(∀ {v8 x0 x1},H9 n v8 x0 x1 ds->Cu d45 5 ([eL 0 fQ x0,eL 1 (.int .i64) x1,eI 7 (x1.length:Int),eI 8 v8],[]) ds [] K q)/\(∀ {v11 h0 h1 x0 x1},C3 n v11 h0 h1 x0 x1 ds->Cu d45 14 ([eL 0 fQ x0,eL 1 (.int .i64) x1,eI 7 (x1.length:Int),eW 9 0,eW 10 1,eI 11 v11],[cN (.int .i64) h0,cN (.int .i64) h1]) ds [] K q)/\(∀ {v12 h0 h1 x0 x1 v11},Aq n v12 h0 h1 x0 x1 v11 ds->Cu d45 18 ([eL 0 fQ x0,eL 1 (.int .i64) x1,eI 7 (x1.length:Int),eW 9 0,eW 10 1,eI 11 v11,eI 12 v12],[cN (.int .i64) h0,cN (.int .i64) h1]) ds [] K q)/\(∀ {v15 h2 x0 x1 h0 h1},R7 n v15 h2 x0 x1 h0 h1 ds->Cu d45 26 ([eL 0 fQ x0,eL 1 (.int .i64) x1,eI 7 (x1.length:Int),eW 9 0,eW 10 1,eW 14 2,eI 15 v15],[cN (.int .i64) h0,cN (.int .i64) h1,cN .str h2]) ds [] K q):=nI ⟨aH,aH,aH,aH,aH⟩ λn ⟨i,i5,i14,i18,i26⟩=>⟨bS<|bU dR<|cX i5,
  bU (bU (j0<|j0 dR)<|eE<|bS<|bU (j0 dR)<|bU (aO<|eE<|eE<|bU dR<|aO<|cX i5)<|dN<|aO<|cX i5)<|bU (bU dR<|aO<|pc3<|aO<|pc3<|aO<|cX i14)<|dN<|aO<|pc3<|aO<|pc3<|aO<|cX i14,
  bU (eE<|cX i18)<|cX i26,
  bU (pc3<|aO<|bU (eE<|bU (j0<|eE<|eE<|aO<|eE<|eE<|aO<|cX i18)<|eE<|eE<|aO<|eE<|bU (eE<|eE<|aO<|eE<|eE<|aO<|cX i18)<|aO<|cX i18)<|dN<|aO<|cX i18)<|aO<|cX i14,
  bU (eE<|pc3<|aO<|eE<|aO<|eE<|cX i26)<|pq 0<|aO dR⟩
def aRb(x0:Γ O7)(x1:Γ Int):Int:=WH x0 x1
def aGv(x0:Γ O7)(x1:Γ Int):Γ Δ:=Aj x0 x1
def aGw(x0:Γ O7)(x1:Γ Int):Int:=JM x0 x1
def P45(x0:Γ O7)(x1:Γ Int):Prop:=x1.length<=1000000
def f45(x0:Γ O7)(x1:Γ Int)(s:Γ Int)(a b:Nat):Int:=Et x0 x1 a b+s.getD b 0
def aRc(x0:Γ O7)(x1:Γ Int)(a b:Nat):(jI x0 (uS x1 a b)<0/\sR x0 x1 a b=false)\/(0<=jI x0 (uS x1 a b)/\jI x0 (uS x1 a b)<(x0.length:Int)/\sR x0 x1 a b=true/\iV x0 (uS x1 a b)=x0.getD (jI x0 (uS x1 a b)).toNat (aC,0,0,0,())):=aLj x0 (uS x1 a b)
theorem aGx(x0:Γ O7)(x1:Γ Int)(a:Nat)(f:Nat->Int):∀(k b:Nat) (s:Γ Int×Γ Int),a<b->a<s.1.length->a<s.2.length->(∀j,b<=j->Et x0 x1 a j+s.1.getD j 0=f j) ->
  CL x0 x1 a k b s=(s.1.set a (upB f (sR x0 x1 a) a k b (s.1.getD a 0,s.2.getD a 0)).1,s.2.set a (upB f (sR x0 x1 a) a k b (s.1.getD a 0,s.2.getD a 0)).2)
 | 0,b,s,h,h1,h2,hf=>by
  have e:∀(l:Γ Int),a<l.length->l.set a (l.getD a 0)=l:=λl hl=>by
   simp_all
  show s=(s.1.set a (s.1.getD a 0),s.2.set a (s.2.getD a 0))
  grind
 | k+1,b,s,h,h1,h2,hf=>by
  rw[CL,upB];unfold aAe;rw[hf b (aT _)];by_cases c1:sR x0 x1 a b=true
  ·rw[π c1];by_cases c2:b=a+1\/f b<=s.1.getD a 0
   ·have:=aGx x0 x1 a f k (b+1) (s.1.set a (f b),s.2.set a (b:Int)) (by lia) (by grind) (by grind) (λj hj=>by
     grind)
    simp_all
   ·rw[ν c2,ν (λq=>c2 q.2)];exact aGx x0 x1 a f k (b+1) s (by omega) h1 h2 (λj hj=>hf j (by omega))
  ·rw[ν c1,ν (λq=>c1 q.1)];exact aGx x0 x1 a f k (b+1) s (by omega) h1 h2 (λj hj=>hf j (by omega))
def bJp{x0:Γ O7}{x1:Γ Int}(h:Eu x0 x1)(a:Nat)(ha:a<x1.length)(s:Γ Int×Γ Int)(hi:uT x1 (a+1) s)(ds:Γ aS)(n:Nat):∀(k:Nat) (h0 h1:Γ Int),a+k<=x1.length->h0.length=x1.length+1->h1.length=x1.length+1->(∀j,a<j->h0.getD j 0=s.1.getD j 0) ->
  C3 n ((a:Int)-1) (h0.set a (dnB (f45 x0 x1 s.1 a) (sR x0 x1 a) a k (h0.getD a 0,h1.getD a 0)).1) (h1.set a (dnB (f45 x0 x1 s.1 a) (sR x0 x1 a) a k (h0.getD a 0,h1.getD a 0)).2) x0 x1 ds->Aq (n+k+1) ((a+k:Nat):Int) h0 h1 x0 x1 (a:Int) ds:=by
 have hl:=h.1;intro k
 induction k with
 | zero =>
  intro h0 h1 hk l0 l1 hs hr;have e:∀(l:Γ Int),a<l.length->l.set a (l.getD a 0)=l:=λl hl=>by
   rw[jX l a 0 hl,List.set_getElem_self]
  rw[show (dnB (f45 x0 x1 s.1 a) (sR x0 x1 a) a 0 (h0.getD a 0,h1.getD a 0))=(h0.getD a 0,h1.getD a 0)from rfl,e _ (by omega),e _ (by omega)]at hr;rw[iX,iX,Aq,ν (by simp only[ε];omega)];exact⟨by rw[aK];omega,hr⟩
 | succ k ih =>
  intro h0 h1 hk l0 l1 hs hr;have eb:a+(k+1)=a+1+k:=by omega
  have e3:((a+1+k:Nat):Int)-1=((a+k:Nat):Int):=by omega
  obtain⟨c1,c2⟩:=O8 h a (a+1+k);obtain⟨d1,d2⟩:=hi.cost (a+1+k) (by omega) (by omega);have hcast:1000000*((x1.length-(a+1+k):Nat):Int)<=1000000*1000:=by omega
  have hp:=aB3 h (show a<a+1+k by omega) (show a+1+k<=x1.length by omega);have hv:bA .i64 (f45 x0 x1 s.1 a (a+1+k)):=by unfold f45;rw[aK];omega
  have ii:bA .i64 ((a+k:Nat):Int):=by rw[aK];omega
  have no:C3 n ((a:Int)-1) (h0.set a (dnB (f45 x0 x1 s.1 a) (sR x0 x1 a) a k (h0.getD a 0,h1.getD a 0)).1) (h1.set a (dnB (f45 x0 x1 s.1 a) (sR x0 x1 a) a k (h0.getD a 0,h1.getD a 0)).2) x0 x1 ds->Aq (n+k+1) ((a+k:Nat):Int) h0 h1 x0 x1 (a:Int) ds:=ih h0 h1 (by omega) l0 l1 hs;have yes:C3 n ((a:Int)-1) (h0.set a (dnB (f45 x0 x1 s.1 a) (sR x0 x1 a) a k (f45 x0 x1 s.1 a (a+1+k),((a+1+k:Nat):Int))).1) (h1.set a (dnB (f45 x0 x1 s.1 a) (sR x0 x1 a) a k (f45 x0 x1 s.1 a (a+1+k),((a+1+k:Nat):Int))).2) x0 x1 ds->Aq (n+k+1) ((a+k:Nat):Int) (h0.set a (f45 x0 x1 s.1 a (a+1+k))) (h1.set a ((a+1+k:Nat):Int)) x0 x1 (a:Int) ds:=λhr=>by
   refine ih _ _ (by omega) (by rw[iR];exact l0) (by rw[iR];exact l1) (λj hj=>?_) ?_
   ·rw[qS _ _ _ _ (by omega),ν (by omega)];exact hs j hj
   ·rw[qS _ _ _ _ (by omega),π rfl,qS _ _ _ _ (by omega),π rfl,Pi,Pi];exact hr
  have e6:h0.getD (a+1+k) 0=s.1.getD (a+1+k) 0:=hs _ (by omega);rw[dnB]at hr;show Aq (n+k+1+1) _ _ _ _ _ _ _;rw[eb,Aq,π (by simp only[ε];omega),e3,aI,aI,e6];refine⟨by omega,by omega,by omega,hp,?_⟩;rcases aRc x0 x1 a (a+1+k)with ⟨q1,q2⟩ | ⟨q1,q2,q3,q4⟩
  ·rw[ν (λq=>by rw[q2]at q;exact absurd q.1 (by decide))]at hr;have q1':¬jI x0 (uS x1 a (a+1+k))>=0:=by omega
   exact(ν (λh=>q1' (of_decide_eq_true h))).mpr ⟨ii,no hr⟩
  ·have ef:(x0.getD (jI x0 (uS x1 a (a+1+k))).toNat (aC,0,0,0,())).2.1+s.1.getD (a+1+k) 0=f45 x0 x1 s.1 a (a+1+k):=by rw[<- q4]<;>rfl
   refine(π (decide_eq_true q1)).mpr ⟨by omega,by omega,?_⟩;rw[ef];by_cases r1:h0.getD a 0<0
   ·rw[π ⟨q3,.inl r1⟩]at hr;exact(π (decide_eq_true r1)).mpr ⟨q1,q2,by omega,by omega,hv,by omega,by omega,by omega,by omega,ii,yes hr⟩
   ·refine(ν (by simpa using r1)).mpr ⟨q1,q2,by omega,by omega,hv,by omega,by omega,?_⟩;by_cases r2:f45 x0 x1 s.1 a (a+1+k)<h0.getD a 0
    ·rw[π ⟨q3,.inr r2⟩]at hr;exact(π (decide_eq_true r2)).mpr ⟨q1,q2,by omega,by omega,hv,by omega,by omega,by omega,by omega,ii,yes hr⟩
    ·rw[ν (λq=>q.2.elim r1 r2)]at hr;exact(ν (by simpa using r2)).mpr ⟨ii,no hr⟩
def bCb{x0:Γ O7}{x1:Γ Int}(h:Eu x0 x1)(hne:x0≠[]\/x1.length=0)(ds:Γ aS):∀(k:Nat) (s:Γ Int×Γ Int),k<=x1.length->uT x1 k s->(∀j,k<=j->j<x1.length->sR x0 x1 j (s.2.getD j 0).toNat=true) ->
  (uT x1 0 (sS x0 x1 k s)->(∀j,j<x1.length->sR x0 x1 j ((sS x0 x1 k s).2.getD j 0).toNat=true)->∃n,R7 n 0 [] x0 x1 (sS x0 x1 k s).1 (sS x0 x1 k s).2 ds)->∃n,C3 n ((k:Int)-1) s.1 s.2 x0 x1 ds:=by
 have hl:=h.1;intro k
 induction k with
 | zero =>
  intro s hk hi ho hr;obtain⟨n,hn⟩:=hr hi (λj hj=>ho j (bG _) hj);refine⟨n+1,?_⟩;rw[C3,ν (by lia)];exact hn
 | succ k ih =>
  intro s hk hi ho hr;have hx:x0≠[]:=hne.resolve_right (by lia);rw[sS]at hr;have e1:((k+1:Nat):Int)-1=(k:Int):=by lia
  have l0:=hi.l1;have l1:=hi.l2;have hq:=aB4 h hx k (by lia) (x1.length-k) (k+1) s (by lia) (by lia) hi (λhh=>absurd rfl hh);have ei:=aGx x0 x1 k (f45 x0 x1 s.1 k) (x1.length-k) (k+1) s (by lia) (by lia) (by lia) (λj _=>rfl);have hf:=O9 h hx (show k<x1.length by lia);obtain⟨e,e2,_,_,e5,_⟩:=(aBZ (f:=f45 x0 x1 s.1 k) hf (x1.length-k) (k+1) (s.1.getD k 0,s.2.getD k 0) (by lia) (.inl rfl) (.inl (by lia))).ex;obtain⟨n,hn⟩:=ih _ (by lia) hq (λj hj hj2=>by
   rw[ei];rw[qS _ _ _ _ (by lia)];by_cases c:k=j
   ·simp_all
   grind) hr
  rw[ei,bJn (f:=f45 x0 x1 s.1 k) (ok:=sR x0 x1 k) (a:=k) (n:=x1.length) (by lia) hf (λb hb1 hb2 _=>by
   have:=(O8 h k b).1;have:=(hi.cost b (by lia) (by lia)).1
   grind [f45]) _ (-1,s.2.getD k 0) (show (-1:Int)<0 by lia)]at hn
  have:=bJp h k (by lia) s hi ds n (x1.length-k) (s.1.set k (-1)) s.2 (by lia) (by grind) l1 (λj hj=>by rw[qS _ _ _ _ (by lia),ν (by lia)]) (by
   rw[qS _ _ _ _ (by lia),π rfl,Pi]
   lia)
  refine⟨n+(x1.length-k)+1+1,?_⟩;rw[e1,C3,π (by lia),aI]
  grind
def bCc{x0:Γ O7}{x1:Γ Int}(h:Eu x0 x1)(hne:x0≠[]\/x1.length=0){s:Γ Int×Γ Int}(hi:uT x1 0 s)(hok:∀a,a<x1.length->sR x0 x1 a (s.2.getD a 0).toNat=true):∀(k a:Nat) (h2:Γ Δ),x1.length-a<k->a<=x1.length->h2.length<=a->R7 k (a:Int) h2 x0 x1 s.1 s.2 [⟨.int .i64,s.1.getD 0 0⟩,⟨.sl .str,h2++vQ x0 x1 s.2 k a⟩,⟨.int .i64,0⟩]:=by
 have hl:=h.1;have hl1:=hi.l1;have hl2:=hi.l2;intro k
 induction k with
 | zero=>lia
 | succ k ih =>
  intro a h2 hk ha hh;rw[vQ,R7];by_cases c:a<x1.length
  ·obtain⟨n1,n2⟩:=hi.next a (bG _) c;have hok:=hok a c;obtain⟨e,he⟩:∃e:Nat,s.2.getD a 0=(e:Int):=⟨(s.2.getD a 0).toNat,by lia⟩;rw[he,aI]at hok;rw[π (by lia),π c,aI,he,aI];rcases aRc x0 x1 a e with ⟨_,q⟩ | ⟨q1,q2,_,q4⟩
   ·lia
   ·rw[<- q4];have:=ih e (h2++[(iV x0 (uS x1 a e)).1]) (by lia) (by lia) (by grind);rw[bZ]at this;exact⟨by lia,by lia,by lia,by lia,by lia,aB3 h (by lia) (by lia),q1,q2,by lia,by lia,by lia,this⟩
  grind
def aRd(x0:Γ O7)(x1:Γ Int)(hl:x1.length<=40)(ds:Γ aS)(N:Nat):∀(k i:Nat),i+k=x1.length->(nL (CK x1) i (x1.drop i)=true->H9 (N+1) (x1.length:Int) x0 x1 ds)->(nL (CK x1) i (x1.drop i)=false->ds=[⟨.int .i64,(0:Int)⟩,⟨.sl .str,([]:Γ Δ)⟩,⟨.int .i64,(2:Int)⟩])->H9 (N+k+1) (i:Int) x0 x1 ds:=by
 intro k
 induction k with
 | zero =>
  intro i hi yes _;obtain rfl:i=x1.length:=by lia
  exact yes (by rw[List.drop_length]<;>rfl)
 | succ k ih =>
  intro i hi yes no;have hlt:i<x1.length:=by lia
  have e3:(i:Int)+1=((i+1:Nat):Int):=by lia
  have ii:bA .i64 ((i+1:Nat):Int):=by grind [aK]
  rw[eD x1 i 0 hlt]at yes no;have ea:nL (CK x1) i (x1.getD i 0::x1.drop (i+1))=(CK x1 i (x1.getD i 0)&&nL (CK x1) (i+1) (x1.drop (i+1))):=rfl;have go:CK x1 i (x1.getD i 0)=true->H9 (N+k+1) ((i+1:Nat):Int) x0 x1 ds:=λe=>by
   grind
  have bad:CK x1 i (x1.getD i 0)=false->ds=[⟨.int .i64,(0:Int)⟩,⟨.sl .str,([]:Γ Δ)⟩,⟨.int .i64,(2:Int)⟩]:=λe=>by
   lia
  have ed:∀n,My n=pK n:=λ_=>rfl;unfold CK at go bad;rw[H9,π (by lia),ν (by lia),aI,ed];refine⟨by lia,by lia,?_⟩;by_cases c1:pK (x1.getD i 0)=true
  ·rw[ν (by lia)];by_cases c2:i=0
   ·lia
   ·have e4:aE ((i:Int)-1)=i-1:=by lia
    rw[π (by lia)];refine⟨by grind [aK],by lia,by lia,by lia,by lia,?_⟩
    lia
  lia
def bJq(x0:Γ O7)(x1:Γ Int)(hl:x1.length<=1000000):∃n,R45 n x0 x1 [⟨.int .i64,aRb x0 x1⟩,⟨.sl .str,aGv x0 x1⟩,⟨.int .i64,aGw x0 x1⟩]:=by
 unfold aRb aGv aGw WH Aj JM;have hc:BO x0 x1=if rB x0=true then(if jE x1=true then(if x0.length=0/\0<x1.length then 3 else 0)else 2)else 1:=by
  unfold BO lL;cases rB x0
  ·rfl
  ·cases jE x1 <;> rfl
 by_cases c1:rB x0=true
 ·rw[π c1]at hc;have he:jE x1=(nL (CK x1) 0 x1&&decide ((x1.length:Int)<=40)):=rfl;by_cases c2:jE x1=true
  ·rw[π c2]at hc;have hl:=(XD c2).1;rw[he,aV]at c2;have hg:=RP x0 x1;have hok:lL x0 (jE x1) []=0:=by
    unfold lL;rw[c1,he,c2.1,c2.2]<;>rfl
   have hok:=hg.2 hok;have fin:∀(ds:Γ aS) (n:Nat),H9 (n+1) (x1.length:Int) x0 x1 ds->∃n,R45 n x0 x1 ds:=λds n hn=>⟨n+x1.length+1+1,by
    rw[R45, <- Ew,c1,ν (by decide)];exact aRd x0 x1 hl _ n x1.length 0 (bX _) (λ_=>hn) (λq=>by rw[gP,c2.1]at q;exact absurd q (by decide))⟩
   by_cases d:x0.length=0/\0<x1.length
   ·rw[π d]at hc;rw[hc,ν (by decide),ν (by decide)];refine fin _ 0 ?_;rw[H9,ν (by simp only[ε];omega),π (by simp only[ε];omega),π (by rw[beq_iff_eq];omega)]
   ·rw[ν d]at hc;have hne:x0≠[]\/x1.length=0:=by
     cases x0 with
     | nil=>exact .inr (by simp at d;rw[d]<;>rfl)
     | cons f l=>exact .inl (by simp)
    have h0:uT x1 x1.length (aQ (x1.length+1) 0,aQ (x1.length+1) 0):=by
     refine⟨by simp,by simp,λj h1 h2=>?_,λj h1 h2=>by omega⟩;have:(aQ (x1.length+1) (0:Int)).getD j 0=0:=by
      rw[List.getD_eq_getElem?_getD,List.getElem?_replicate];split <;> rfl
     rw[this];omega
    obtain⟨n,hn⟩:=bCb hok hne [⟨.int .i64,(vP x0 x1).1.getD 0 0⟩,⟨.sl .str,vQ x0 x1 (vP x0 x1).2 (x1.length+1) 0⟩,⟨.int .i64,0⟩] x1.length _ (aT _) h0 (λj h1 h2=>by omega) (λhi ho=>⟨x1.length+1,bCc hok hne hi ho (x1.length+1) 0 [] (by omega) (bG _) (aT _)⟩);have e:aE ((x1.length:Int)+1)=x1.length+1:=by omega
    have stuff:bA .i64 ((x1.length:Int)+1)/\(0<=(x1.length:Int)+1)/\((x1.length:Int)+1<=(x1.length:Int)+1)/\(8*((x1.length:Int)+1)<=281474976710656)/\bA .i64 ((x1.length:Int)+1)/\(0<=(x1.length:Int)+1)/\((x1.length:Int)+1<=(x1.length:Int)+1)/\(8*((x1.length:Int)+1)<=281474976710656)/\bA .i64 ((x1.length:Int)-1)/\C3 n ((x1.length:Int)-1) (aQ (aE ((x1.length:Int)+1)) 0) (aQ (aE ((x1.length:Int)+1)) 0) x0 x1 [⟨.int .i64,(vP x0 x1).1.getD 0 0⟩,⟨.sl .str,vQ x0 x1 (vP x0 x1).2 (x1.length+1) 0⟩,⟨.int .i64,0⟩]:=by
     rw[e];exact⟨by rw[aK];omega,by omega,by omega,by omega,by rw[aK];omega,by omega,by omega,by omega,by rw[aK];omega,hn⟩
    rw[hc,π rfl,π rfl];refine fin _ n ?_;rw[H9,ν (by simp only[ε];omega)];by_cases e0:x1.length=0
    ·exact(ν (by simp only[ε];omega)).mpr stuff
    ·refine(π (by simp only[ε];omega)).mpr ((ν ?_).mpr stuff);rw[beq_iff_eq];intro q;exact d ⟨by omega,by omega⟩
  ·rw[ν c2]at hc;rw[hc,ν (by decide),ν (by decide)];by_cases d:x1.length<=40
   ·rw[he,decide_eq_true (show (x1.length:Int)<=40 by omega),Bool.and_true]at c2;refine⟨0+x1.length+1+1,?_⟩;rw[R45, <- Ew,c1,ν (by decide)];exact aRd x0 x1 d _ 0 x1.length 0 (bX _) (λq=>absurd q c2) (λ_=>rfl)
   ·refine⟨1+1,?_⟩;rw[R45, <- Ew,c1,ν (by decide),H9,π (by simp only[ε];omega),π (by simp only[ε];omega)]
 ·rw[ν c1]at hc;rw[hc,ν (by decide),ν (by decide)];exact⟨1,by rw[R45, <- Ew,Dm c1]<;>rfl⟩
def bNa:KK:=mL d45 (DO aHD) P45 (aRb,aGv,aGw,()) (λ⟨x0,x1,_⟩ h hwf K q =>
 let ⟨n,hn⟩:=bJq x0 x1 h
 (bJo _ K q n).1 hn)
def bCd:jB:=D0 aEg [.v (.sl Jy)] [.bool] [lT]
mutual
def bCe:Nat->Γ Int->Γ aS->Prop
 | 0,_,_=>False
 | n+1,x0,ds=>NU n 0 x0 ds
def NU:Nat->Int->Γ Int->Γ aS->Prop
 | 0,_,_,_=>False
 | n+1,v3,x0,ds=>if decide (v3<(x0.length:Int))then 0<=v3/\v3<(x0.length:Int)/\if !cJ (aD x0 (aE v3) 0) 0 1000 then ds=[aJ .bool false] else bA .i64 (v3+1)/\NU n (v3+1) x0 ds else if decide ((x0.length:Int)>=1)then ds=[aJ .bool (decide ((x0.length:Int)<=60))] else ds=[aJ .bool false]
end
def bCf(ds:Γ aS)(K:gU)(q:Nat->Value):∀n,(∀ {x0},bCe n x0 ds->St bCd (x0,()) ds [] K q)/\(∀ {v3 x0},NU n v3 x0 ds->Cu bCd 2 ([eL 0 (.int .i64) x0,eI 3 v3],[]) ds [] K q):=nI ⟨aH,aH⟩ λn ⟨i,i2⟩=>⟨cX i2,
  bU (eE<|bS<|bU dR<|aO<|cX i2)<|bU dR dR⟩
def aUs(v:Int):Bool:=cJ v 0 1000
def aUt(n:Int):Bool:=if decide (n>=1)=true then decide (n<=60)else false
def EQ(x0:Γ Int):Bool:=x0.all aUs&&aUt (x0.length:Int)
def bCg(x0:Γ Int)(hw:x0.length<=maxLen):bCe (x0.length+1+1) x0 [⟨.bool,EQ x0⟩]:=by
 rw[bCe];have key:=tG x0 (0:Int) aUs [(⟨.bool,false⟩:aS)] [⟨.bool,aUt (x0.length:Int)⟩] (λn i ds=>NU n i x0 ds) (λn=>?_) (λn i hi hok ds hr=>?_) (λn i hi hok=>?_)
 ·unfold EQ;cases h:x0.all aUs <;> rw[h]at key <;> simpa using key
 ·rw[NU,ν (by simp)];unfold aUt;by_cases c:decide ((x0.length:Int)>=1)=true
  ·rw[π c,π c]
  ·rw[ν c,ν c]
 ·rw[NU,π (by simp;omega)];simp only[aI];refine⟨by omega,by omega,?_⟩;rw[ν (by rw[show cJ (x0.getD i 0) 0 1000=true from hok];simp)];exact⟨jZ hw hi,hr⟩
 ·rw[NU,π (by simp;omega)];simp only[aI];refine⟨by omega,by omega,?_⟩;rw[π (by rw[show cJ (x0.getD i 0) 0 1000=false from hok];simp)] <;> trivial
def aWZ:KK:=mL bCd (DO aEg) nP (EQ,()) (λ⟨x0,_⟩ h hwf K q =>
 (bCf _ K q _).1 (bCg x0 hwf.1.1))
end
def aN0{k:UInt8}(h1:¬CW k)(h2:k≠45)(x:Δ):[k].intercalate ((bss (cH k x.data.toList)).map λw=>(l5 (jR w)).data.toList)=x.data.toList↔∀w∈bss (cH k x.data.toList),jS w=true:=by
 have key:∀w,l5 (jR w)=w↔jS w=true:=λw=>by
  obtain⟨n,hn,e0,e1⟩:=aBJ w
  lia
 have hl:=aAt (cH k x.data.toList);have hne:bss (cH k x.data.toList)≠[]:=λh=>wD k x.data.toList (by grind);constructor
 ·intro h w hw;have hd:=congrArg (cH k) h;rw[NE k _ (λe=>hne (List.map_eq_nil_iff.1 e)) (λp hp=>by
   grind [Wz])]at hd
  conv at hd=>rhs;rw[<- hl]
  obtain⟨i,hi,rfl⟩:=pG hw;have:=congrArg (λl=>l[i]?) hd;simp only[List.getElem?_map,aX hi,Option.map_some,Option.some.injEq]at this;exact(key _).1 (zQ this)
 ·intro h;have:((bss (cH k x.data.toList)).map λw=>(l5 (jR w)).data.toList)=cH k x.data.toList:=by
   grind [List.map_congr_left]
  grind [AI]
theorem aRe(l:Γ Int):EQ l=pM l:=by
 have ea:l.all aUs = !l.any Q0:=by
  rw[List.not_any_eq_all_not]
  congr 1
  funext x
  exact(aEe _).symm
 unfold EQ pM Fs aUt
 grind [VU]
def bCh(x:Δ):OT x=if((bss (cH 43 x.data.toList)).all jS&&EQ ((bss (cH 43 x.data.toList)).map jR))=true then some ((bss (cH 43 x.data.toList)).map jR)else none:=by
 have ew:Ab x=(bss (cH 43 x.data.toList)).map jR:=by
  simp[bJ,vC,Ab,Q2]
 have hj:=aN0 (k:=43) (by simp[CW]) (by lia) x;unfold OT;rw[aRe];by_cases c:pM ((bss (cH 43 x.data.toList)).map jR)=true
 ·have e:Ib ((bss (cH 43 x.data.toList)).map jR)=x↔(bss (cH 43 x.data.toList)).all jS=true:=by
   unfold Ib;have e2:(qM ((bss (cH 43 x.data.toList)).map (dF ∘ jR)) (aA #[43])).data.toList=[43].intercalate ((bss (cH 43 x.data.toList)).map λw=>(l5 (jR w)).data.toList):=by
    show [43].intercalate (((bss (cH 43 x.data.toList)).map (dF ∘ jR)).map λx=>x.data.toList)=_;rw[oM];rfl
   grind [zQ]
  lia
 lia
noncomputable section
def d46:jB:=D0 aHE [.v (.str)] [.sl Jy,.bool] [kx6,aQw,aWZ]
mutual
def R46:Nat->Δ->Γ aS->Prop
 | 0,_,_=>False
 | n+1,x0,ds=>P6 x0 43/\X6 n 0 ([]) x0 ds
def X6:Nat->Int->Γ Int->Δ->Γ aS->Prop
 | 0,_,_,_,_=>False
 | n+1,v6,h1,x0,ds=>if decide (v6<(↑(aF (cD x0 43)):Int))then 0<=v6/\v6<(↑(aF (cD x0 43)):Int)/\if !wG (aD (cD x0 43) (aE v6) aC)then ds=[aJ (.sl Jy) [],aJ .bool false] else(aF h1+1)*8<=140737488355328/\bA .i64 (v6+1)/\X6 n (v6+1) (h1++[nK (aD (cD x0 43) (aE v6) aC)]) x0 ds else if !EQ h1 then ds=[aJ (.sl Jy) [],aJ .bool false] else ds=[aJ (.sl Jy) h1,aJ .bool true]
end
def bJr(ds:Γ aS)(K:gU)(q:Nat->Value):∀n,(∀ {x0},R46 n x0 ds->St d46 (x0,()) ds [] K q)/\(∀ {v6 h1 x0},X6 n v6 h1 x0 ds->Cu d46 4 ([eW 4 0,eW 5 1,eI 6 v6],[cN .str (cD x0 43),cN (.int .i64) h1]) ds [] K q):=nI ⟨aH,aH⟩ λn ⟨i,i4⟩=>⟨aO<|cX i4,
  bU (eE<|bS<|bU dR<|aO<|aO<|cX i4)<|bS<|bU dR dR⟩
def w46(x0:Δ):Γ Δ:=cD x0 43
def TA(x0:Δ):Γ Int:=yL x0
def aLk(x0:Δ):Bool:=xM x0
def aXa(c:Option (Γ Int)):Γ aS:=[⟨.sl Jy,c.getD []⟩,⟨.bool,c.isSome⟩]
def bJs(x0:Δ)(hl:(w46 x0).length<=1048577):∀(k i:Nat) (h1:Γ Int),i+k=(w46 x0).length->h1.length<=i->X6 (k+1) (i:Int) h1 x0 (aXa (if(((w46 x0).drop i).all jS&&EQ (h1++((w46 x0).drop i).map jR))=true then some (h1++((w46 x0).drop i).map jR)else none)):=by
 have ew:cD x0 43=w46 x0:=rfl;intro k
 induction k with
 | zero =>
  intro i h1 hi hh;rw[X6,ew,ν (by simp only[ε];omega),bT (by omega),List.map_nil,cK,List.all_nil,rI];cases EQ h1 <;> rfl
 | succ k ih =>
  intro i h1 hi hh;have hlt:i<(w46 x0).length:=by omega
  have e3:(i:Int)+1=((i+1:Nat):Int):=by omega
  have ih:=ih (i+1) (h1++[jR ((w46 x0).getD i aC)]) (by omega) (by rw[aU,bP];omega);rw[bZ,List.singleton_append]at ih;obtain⟨e0,e1⟩:=AQ ((w46 x0).getD i aC);rw[X6,ew,π (by simp only[ε];omega),e3,aI,e0,e1,eD (w46 x0) i aC hlt,dG,List.all_cons];refine⟨by omega,by omega,?_⟩;cases jS ((w46 x0).getD i aC)with
  | false=>rfl
  | true =>
   rw[rI];exact⟨by omega,by rw[aK];omega,ih⟩
def bJt(x0:Δ)(h:P67 x0):R46 ((w46 x0).length+2) x0 [⟨.sl Jy,TA x0⟩,⟨.bool,aLk x0⟩]:=by
 have h:x0.size<=1048576:=h;have hw:(w46 x0).length<=1048577:=by
  show ((cH 43 x0.data.toList).map _).length<=_;rw[cM,nJ];have:=List.count_le_length (a:=(43:UInt8)) (l:=x0.data.toList);have:x0.data.toList.length=x0.size:=rfl;omega
 rw[R46];refine⟨⟨by omega,by omega,by omega⟩,?_⟩;have:=bJs x0 hw (w46 x0).length 0 [] (bX _) (bG _);rw[gP,dL]at this;have e:OT x0=_:=bCh x0;show X6 _ _ _ _ (aXa (OT x0));rw[e];exact this
def bNe:KK:=mL d46 (DO aHE) P67 (TA,aLk,()) (λ⟨x0,_⟩ h hwf K q =>
 (bJr _ K q (((w46 x0).length+2))).1 (bJt x0 h))
def aJ6(x0:Int):Bool:=cJ x0 1 60
def bJu:KK:=mB Tryz.func214 [.v (.int .i64)] [.bool] [lT] nP (aJ6,()) λ_=>bS pr
def aJ7(x0:Int):Bool:=cJ x0 1 1000
def bJv:KK:=mB Tryz.func215 [.v (.int .i64)] [.bool] [lT] nP (aJ7,()) λ_=>bS pr
def R8(x0:Γ Int)(x1:Int)(x2:Int):Int:=if !EQ x0 then 1 else if !aJ6 x1 then 2 else if !aJ7 x2 then 2 else 0
def bJw:KK:=mB Tryz.func122 [.v (.sl Jy),.v (.int .i64),.v (.int .i64)] [.int .i64] [aWZ,bJu,bJv] nP (R8,()) λ_=>bS<|fP pr<|bS<|fP (j0 pr)<|bS<|fP pr pr
def Ar(x0:Int)(x1:Int):Int:=if decide (x0>x1)then x0 else x1
def bJx:KK:=mB Tryz.func216 [.v (.int .i64),.v (.int .i64)] [.int .i64] [] nP (Ar,()) λ_=>fP pr pr
def bCi:jB:=D0 aEh [.v (.sl Jy),.v (.int .i64),.v (.int .i64),.v (.int .i64)] [.sl Jy] [bJx]
mutual
def bJy:Nat->Γ Int->Int->Int->Int->Γ aS->Prop
 | 0,_,_,_,_,_=>False
 | n+1,x0,x1,x2,x3,ds=>ER n 0 1 ([]) x0 x1 x2 x3 ds
def ER:Nat->Int->Int->Γ Int->Γ Int->Int->Int->Int->Γ aS->Prop
 | 0,_,_,_,_,_,_,_,_=>False
 | n+1,v10,v11,h0,x0,x1,x2,x3,ds=>if decide (v11<=(x0.length:Int))then bA .i64 (v11-1)/\0<=v11-1/\v11-1<(x0.length:Int)/\bA .i64 (v10+aD x0 (aE (v11-1)) 0)/\x1≠0/\bA .i64 (cP v11 x1)/\if cP v11 x1==0 then bA .i64 (v10+aD x0 (aE (v11-1)) 0-x2)/\if v11==x3 then bA .i64 (Ar 0 (v10+aD x0 (aE (v11-1)) 0-x2)-x2)/\(aF h0+1)*8<=140737488355328/\bA .i64 (v11+1)/\ER n (Ar 0 (Ar 0 (v10+aD x0 (aE (v11-1)) 0-x2)-x2)) (v11+1) (h0++[Ar 0 (Ar 0 (v10+aD x0 (aE (v11-1)) 0-x2)-x2)]) x0 x1 x2 x3 ds else(aF h0+1)*8<=140737488355328/\bA .i64 (v11+1)/\ER n (Ar 0 (v10+aD x0 (aE (v11-1)) 0-x2)) (v11+1) (h0++[Ar 0 (v10+aD x0 (aE (v11-1)) 0-x2)]) x0 x1 x2 x3 ds else if v11==x3 then bA .i64 (v10+aD x0 (aE (v11-1)) 0-x2)/\(aF h0+1)*8<=140737488355328/\bA .i64 (v11+1)/\ER n (Ar 0 (v10+aD x0 (aE (v11-1)) 0-x2)) (v11+1) (h0++[Ar 0 (v10+aD x0 (aE (v11-1)) 0-x2)]) x0 x1 x2 x3 ds else(aF h0+1)*8<=140737488355328/\bA .i64 (v11+1)/\ER n (v10+aD x0 (aE (v11-1)) 0) (v11+1) (h0++[v10+aD x0 (aE (v11-1)) 0]) x0 x1 x2 x3 ds else ds=[aJ (.sl Jy) h0]
end
def bCj(ds:Γ aS)(K:gU)(q:Nat->Value):∀n,(∀ {x0 x1 x2 x3},bJy n x0 x1 x2 x3 ds->St bCi (x0,x1,x2,x3,()) ds [] K q)/\(∀ {v10 v11 h0 x0 x1 x2 x3},ER n v10 v11 h0 x0 x1 x2 x3 ds->Cu bCi 4 ([eL 0 (.int .i64) x0,eI 1 x1,eI 2 x2,eI 3 x3,eW 9 0,eI 10 v10,eI 11 v11],[cN (.int .i64) h0]) ds [] K q):=nI ⟨aH,aH⟩ λn ⟨i,i4⟩=>⟨cX i4,
  bU (aO<|eE<|aO<|eE<|bU (aO<|bS<|bU (aO<|bS<|aO<|aO<|cX i4)<|aO<|aO<|cX i4)<|bU (aO<|bS<|aO<|aO<|cX i4)<|aO<|aO<|cX i4) dR⟩
def aRf(x0:Γ Int)(x1 x2 x3:Int):Γ Int:=Ql x0 x1 x2 x3
def bCk(x0:Γ Int)(x1 x2 x3:Int):Prop:=aMQ x0 x1 x2 x3/\x2<=1000000
def aXb(x2 w:Int)(hw:0<=w):Ar 0 (w-x2)=tW x2 w:=by
 unfold Ar tW
 lia
def bCl(x0:Γ Int)(x1 x2 x3:Int)(h:bCk x0 x1 x2 x3):∀(k i:Nat) (w:Int) (h0:Γ Int),i+k=x0.length->0<=w->w<=1000*(i:Int)->h0.length<=i->ER (k+1) w ((i:Int)+1) h0 x0 x1 x2 x3 [⟨.sl Jy,h0++xT x1 x2 x3 (x0.drop i) i w⟩]:=by
 obtain⟨⟨⟨p1,p1'⟩,p2,p3,p4⟩,p5⟩:=h;intro k
 induction k with
 | zero =>
  intro i w h0 hi h1 h2 hl;rw[ER,ν (by lia),bT (by lia),xT,cK]
 | succ k ih =>
  intro i w h0 hi h1 h2 hl;have hlt:i<x0.length:=by lia
  have hx:=p4 _ (bY x0 i 0 hlt);have t2:=Int.tmod_lt_of_pos ((i:Int)+1) (show 0<x1 by lia);rw[eD x0 i 0 hlt,xT,ER,π (by lia),show (i:Int)+1-1=(i:Int)by lia,aI];generalize x0.getD i 0=x at *;obtain⟨d1,d2⟩:=JJ p2 (show 0<=w+x by lia);obtain⟨d3,d4⟩:=JJ p2 d1;have step:∀w',DN x1 x2 x3 i w x=w'->0<=w'->w'<=w+x->(h0.length+1)*8<=140737488355328/\bA .i64 ((i:Int)+1+1)/\ER (k+1) w' ((i:Int)+1+1) (h0++[w']) x0 x1 x2 x3 [⟨.sl Jy,h0++DN x1 x2 x3 i w x::xT x1 x2 x3 (x0.drop (i+1)) (i+1) (DN x1 x2 x3 i w x)⟩]:=λw' e a b=>by
   have:=ih (i+1) w' (h0++[w']) (by lia) a (by lia) (by grind)
   grind [bZ,Int.natCast_succ,aK]
  have hn:DN x1 x2 x3 i w x=if(cP ((i:Int)+1) x1==0)=true then(if((i:Int)+1==x3)=true then tW x2 (tW x2 (w+x))else tW x2 (w+x))else if((i:Int)+1==x3)=true then tW x2 (w+x)else w+x:=rfl
  have m1:=aXb x2 (w+x) (by lia);have m2:=aXb x2 (tW x2 (w+x)) d1;refine⟨by grind [aK],by lia,by lia,by grind [aK],by lia,by grind [aK],?_⟩;by_cases c:(cP ((i:Int)+1) x1==0)=true
  ·rw[π c]at hn;refine(π c).mpr ⟨by grind [aK],?_⟩;rw[m1];by_cases d:((i:Int)+1==x3)=true
   ·rw[π d]at hn;rw[m2];exact(π d).mpr ⟨by grind [aK],step _ hn d3 (by lia)⟩
   lia
  ·rw[ν c]at hn;refine(ν c).mpr ?_;rw[m1];by_cases d:((i:Int)+1==x3)=true
   ·rw[π d]at hn;exact(π d).mpr ⟨by grind [aK],step _ hn d1 d2⟩
   lia
def bJz:KK:=mL bCi (DO aEh) bCk (aRf,()) (λ⟨x0,x1,x2,x3,_⟩ h hwf K q =>
 (bCj _ K q ((x0.length+2))).1 (by rw[bJy];exact bCl x0 x1 x2 x3 h x0.length 0 0 [] (by omega) (dO _) (by omega) (bG _)))
def P47(x0:Γ Int)(x1:Int)(x2:Int):Prop:=if R8 x0 x1 x2 != 0 then True else bCk x0 x1 x2 0/\True
def aGy(x0:Γ Int)(x1:Int)(x2:Int):Γ Int:=if R8 x0 x1 x2 != 0 then [] else aRf x0 x1 x2 0
def aGz(x0:Γ Int)(x1:Int)(x2:Int):Int:=if R8 x0 x1 x2 != 0 then R8 x0 x1 x2 else 0
def bNf:KK:=mB Tryz.func47 [.v (.sl Jy),.v (.int .i64),.v (.int .i64)] [.sl Jy,.int .i64] [bJw,bJz] P47 (aGy,aGz,()) λ_=>bS<|dP pr<|aO pr
def aJ8(x0:Int):Bool:=cJ x0 0 5000
def bJ0:KK:=mB Tryz.func217 [.v (.int .i64)] [.bool] [lT] nP (aJ8,()) λ_=>bS pr
def aCa(x0:Int)(x1:Int):Prop:=if decide (x1<0)then bA .i64 (0-x0)/\bA .i64 (0-x1)/\if decide (0-x0<0)then bA .i64 (2*(0-x0))/\bA .i64 (0-x1-2*(0-x0))/\bA .i64 (2*(0-x1))/\2*(0-x1)≠0/\bA .i64 (aP (0-x1-2*(0-x0)) (2*(0-x1)))/\bA .i64 (0-aP (0-x1-2*(0-x0)) (2*(0-x1)))/\True else bA .i64 (2*(0-x0))/\bA .i64 (2*(0-x0)+(0-x1))/\bA .i64 (2*(0-x1))/\2*(0-x1)≠0/\bA .i64 (aP (2*(0-x0)+(0-x1)) (2*(0-x1)))/\True else if decide (x0<0)then bA .i64 (2*x0)/\bA .i64 (x1-2*x0)/\bA .i64 (2*x1)/\2*x1≠0/\bA .i64 (aP (x1-2*x0) (2*x1))/\bA .i64 (0-aP (x1-2*x0) (2*x1))/\True else bA .i64 (2*x0)/\bA .i64 (2*x0+x1)/\bA .i64 (2*x1)/\2*x1≠0/\bA .i64 (aP (2*x0+x1) (2*x1))/\True
def ES(x0:Int)(x1:Int):Int:=if decide (x1<0)then(if decide (0-x0<0)then 0-aP (0-x1-2*(0-x0)) (2*(0-x1))else aP (2*(0-x0)+(0-x1)) (2*(0-x1)))else if decide (x0<0)then 0-aP (x1-2*x0) (2*x1)else aP (2*x0+x1) (2*x1)
def aRg:KK:=mB Tryz.func391 [.v (.int .i64),.v (.int .i64)] [.int .i64] [] aCa (ES,()) λ_=>tH (aO<|aO<|tH (aO<|aO<|aO<|eE<|aO pr)<|aO<|aO<|aO<|eE pr)<|tH (aO<|aO<|aO<|eE<|aO pr)<|aO<|aO<|aO<|eE pr
def aRh(x0:Int)(x1:Int)(x2:Int):Prop:=((bA .i64 (x2*x2))/\((aCa (x2*x2) x0)/\((bA .i64 (981*x1))/\((aCa (981*x1) 100)/\((bA .i64 (ES (x2*x2) x0-ES (981*x1) 100))/\True)))))
def Ra(x0:Int)(x1:Int)(x2:Int):Int:=ES (x2*x2) x0-ES (981*x1) 100
def bJ1:KK:=mB Tryz.func319 [.v (.int .i64),.v (.int .i64),.v (.int .i64)] [.int .i64] [aRg] aRh (Ra,()) λ_=>aO<|aO<|aO<|aO<|aO pr
def bCm:jB:=D0 aEi [.p fQ,.v (.int .i64)] [.int .i64] [bJ1]
mutual
def bCn:Nat->Δ×Int×Int×Int×Unit->Int->Γ aS->Prop
 | 0,_,_,_=>False
 | n+1,x0,x1,ds=>NV n 0 20001 x0 x1 ds
def NV:Nat->Int->Int->Δ×Int×Int×Int×Unit->Int->Γ aS->Prop
 | 0,_,_,_,_,_=>False
 | n+1,v5,v6,x0,x1,ds=>bA .i64 (v6-v5)/\if decide (v6-v5>1)then bA .i64 (v5+v6)/\bA .i64 (aP (v5+v6) 2)/\aRh x0.2.1 x0.2.2.2.1 (aP (v5+v6) 2)/\if decide (Ra x0.2.1 x0.2.2.2.1 (aP (v5+v6) 2)<=x1)then NV n (aP (v5+v6) 2) v6 x0 x1 ds else NV n v5 (aP (v5+v6) 2) x0 x1 ds else ds=[aJ (.int .i64) v5]
end
def bCo(ds:Γ aS)(K:gU)(q:Nat->Value):∀n,(∀ {x0 x1},bCn n x0 x1 ds->St bCm (x0,x1,()) ds [] K q)/\(∀ {v5 v6 x0 x1},NV n v5 v6 x0 x1 ds->Cu bCm 3 ([(0,.a (.ptr fQ x0)),eI 1 x1,eI 5 v5,eI 6 v6],[]) ds [] K q):=nI ⟨aH,aH⟩ λn ⟨i,i3⟩=>⟨cX i3,
  aO<|bU (aO<|pw 2<|aO<|aO<|bU (cX i3)<|cX i3) dR⟩
def DY(x0:eR)(x1 m:Int):Bool:=decide (Ra x0.2.1 x0.2.2.2.1 m<=x1)
def DZ(p:Int->Bool):Nat->Int->Int->Int
 | 0,lo,_=>lo
 | k+1,lo,hi=>if decide (hi-lo>1)=true then(if p (aP (lo+hi) 2)=true then DZ p k (aP (lo+hi) 2) hi else DZ p k lo (aP (lo+hi) 2))else lo
def Rb(x0:eR)(x1:Int):Int:=DZ (DY x0 x1) 20001 0 20001
def aRi(x0:eR)(x1:Int):Prop:=∀m,0<=m->m<=20001->aRh x0.2.1 x0.2.2.2.1 m
def bCp(x0:eR)(x1:Int)(hp:aRi x0 x1):∀(k:Nat) (lo hi:Int),0<=lo->lo<hi->hi<=20001->hi-lo<=(k:Int)+1->NV (k+1) lo hi x0 x1 [⟨.int .i64,DZ (DY x0 x1) k lo hi⟩]:=by
 intro k
 induction k with
 | zero =>
  intro lo hi h0 h1 h2 h3;rw[NV];refine⟨by rw[aK];omega,?_⟩;rw[ν (by simp only[ε];omega)];rfl
 | succ k ih =>
  intro lo hi h0 h1 h2 h3;have e:aP (lo+hi) 2=(lo+hi)/2:=eJ (by omega);rw[NV,DZ];refine⟨by rw[aK];omega,?_⟩;by_cases c:decide (hi-lo>1)=true
  ·have c':hi-lo>1:=by simpa using c
   refine(π c).mpr ⟨by rw[aK];omega,by rw[aK];omega,hp _ (by omega) (by omega),?_⟩;rw[π c];by_cases d:DY x0 x1 (aP (lo+hi) 2)=true
   ·refine(π d).mpr ?_;rw[π d];exact ih _ _ (by omega) (by omega) h2 (by omega)
   ·refine(ν d).mpr ?_;rw[ν d];exact ih _ _ h0 (by omega) (by omega) (by omega)
  ·refine(ν c).mpr ?_;rw[ν c]
def bCq(x0:eR)(x1:Int)(h:aRi x0 x1):bCn (20001+1+1) x0 x1 [⟨.int .i64,Rb x0 x1⟩]:=by
 rw[bCn];exact bCp x0 x1 h 20001 0 20001 (dO _) (by decide) (dO _) (by decide)
def bJ2:KK:=mL bCm (DO aEi) aRi (Rb,()) (λ⟨x0,x1,_⟩ h hwf K q =>
 (bCo _ K q _).1 (bCq x0 x1 h))
end
def X7{a b:Int}(ha:0<=a)(hb:0<b):aP (2*a+b) (2*b)=aP a b+(if b-cP a b<=cP a b then 1 else 0)/\0<=aP a b/\0<=cP a b/\cP a b<b:=by
 have h1:=Int.emod_add_mul_ediv a b;have h2:=Int.emod_nonneg a (show b≠0 by lia);have h3:=Int.emod_lt_of_pos a hb;rw[eJ (by lia),eJ ha,Int.tmod_eq_emod_of_nonneg ha];refine⟨?_,Int.ediv_nonneg ha (by lia),h2,h3⟩;have e:2*a+b=(2*(a%b)+b)+2*b*(a/b):=by
  lia
 rw[e,Hv _ _ (show 2*b≠0 by lia)];by_cases c:b-a%b<=a%b
 ·rw[show 2*(a%b)+b=(2*(a%b)-b)+2*b*1 by lia,Hv _ _ (show 2*b≠0 by lia),yC (by lia) (by lia)]
  lia
 ·rw[yC (by lia) (by lia)]
  lia
def nrD(a b:Int):Int:=if a<0 then 0-aP (b-2*a) (2*b)else aP (2*a+b) (2*b)
def aLl{a b:Int}(ha:a<0)(hb:0<b):nrD a b=aP a b-(if b+cP a b<=0-cP a b then 1 else 0)/\aP a b<=0/\cP a b<=0 /\ -b<cP a b:=by
 obtain⟨h,h0,h1,h2⟩:=X7 (a := -a) (by lia) hb;rw[Pg,Pf]at h;rw[Pg]at h0;rw[Pf]at h1 h2;unfold nrD
 lia
def aG0{a a' b:Int}(hb:0<b)(h:a<=a'):nrD a b<=nrD a' b:=by
 by_cases c:a'<0
 ·unfold nrD;have:=SA (c:=2*b) (by lia) (show b-2*a'<=b-2*a by lia)
  lia
 ·by_cases d:a<0
  ·obtain⟨h1,h2,h3,h4⟩:=aLl d hb;obtain⟨k1,k2,k3,k4⟩:=X7 (a:=a') (by lia) hb;have e:nrD a' b=aP (2*a'+b) (2*b):=ν c
   lia
  ·unfold nrD;rw[ν c,ν d,eJ (by lia),eJ (by lia)];exact SA (by lia) (by lia)
def bsW(C:Int->Bool):Nat->Int->Int->Int
 | 0,_,e=>e
 | n+1,lo,e=>if e-lo>1 then(if C (aP (lo+e) 2)=true then bsW C n lo (aP (lo+e) 2)else bsW C n (aP (lo+e) 2) e)else e
def aRj{lo e:Int}(h0 : -1<=lo)(h:e-lo>1):lo<aP (lo+e) 2/\aP (lo+e) 2<e:=by
 lia
theorem aJA(C:Int->Bool)(e0:Int):∀(n:Nat) (lo e:Int), -1<=lo->lo<e->e-lo<=(n:Int)+1->(e=e0\/C e=true)->(lo = -1\/C lo=false)->e<=e0 ->
  0<=bsW C n lo e/\bsW C n lo e<=e0/\(bsW C n lo e=e0\/C (bsW C n lo e)=true)/\(bsW C n lo e=0\/C (bsW C n lo e-1)=false)
 | 0,lo,e,h0,h1,h2,h3,h4,h6=>by
  obtain rfl:e=lo+1:=by lia
  refine⟨by show 0<=lo+1;lia,h6,h3,?_⟩;rcases h4 with h | h
  ·left;show lo+1=0;lia
  ·right;show C (lo+1-1)=false;lia
 | n+1,lo,e,h0,h1,h2,h3,h4,h6=>by
  unfold bsW;by_cases h:e-lo>1
  ·obtain⟨m1,m2⟩:=aRj h0 h;rw[π h];by_cases hc:C (aP (lo+e) 2)=true
   ·rw[π hc];exact aJA C e0 n lo _ h0 m1 (by lia) (.inr hc) h4 (by lia)
   ·rw[ν hc];exact aJA C e0 n _ e (by lia) m2 (by lia) h3 (.inr (cG.2 hc)) h6
  grind
def bCr(C:Int->Bool)(e:Int)(n m:Nat)(he:0<=e)(hn:e<=(n:Int))(hm:e<=(m:Int))(mono:∀v v',0<=v->v<=v'->v'<e->C v=true->C v'=true):Nm C n 0 e=bsW C m (-1) e:=by
 obtain⟨a1,a2,a3,a4⟩:=aBx C 0 e n 0 e (dO _) he (by lia) (.inl rfl) (.inl rfl) (dO _) (dO _);obtain⟨b1,b2,b3,b4⟩:=aJA C e m (-1) e (dO _) (by lia) (by lia) (.inl rfl) (.inl rfl) (dO _)
 grind
def aLm{a b:Int}(hb:0<b):ES a b=nrD a b:=by
 unfold ES nrD
 lia
def bJ3{a b:Int}(ha : -1000000000000000<=a/\a<=1000000000000000)(hb:0<b)(hb2:b<=1000000000000000):o6 a b=nrD a b:=by
 obtain⟨_,_,_,q⟩:=Tt (x:=b) (by lia);obtain⟨_,m0,_,m⟩:=Tt (x:=cP a b) (tmb b ha);unfold o6;by_cases c:a<0
 ·obtain⟨h1,h2,h3,h4⟩:=aLl c hb
  lia
 ·obtain⟨h1,h2,h3,h4⟩:=X7 (a:=a) (by lia) hb;have e:nrD a b=aP (2*a+b) (2*b):=ν c
  lia
def bCs{a b:Int}(ha : -1000000000000000<=a/\a<=1000000000000000)(hb:0<b)(hb2:b<=1000000000000000):aCa a b:=by
 unfold aCa;rw[ν (by lia)];have t1:=tdb (2*b) (a:=b-2*a) (A:=3000000000000000);have t2:=tdb (2*b) (a:=2*a+b) (A:=3000000000000000);by_cases c:a<0
 ·rw[π (decide_eq_true c)];exact⟨by grind [aK],by grind [aK],by grind [aK],by lia,by grind [aK],by grind [aK],trivial⟩
 ·rw[ν (by lia)];exact⟨by grind [aK],by grind [aK],by grind [aK],by lia,by grind [aK],trivial⟩
def aCb{a b:Int}(ha : -1000000000000000<=a/\a<=1000000000000000)(hb:0<b)(hb2:b<=1000000000000000):aCa a b/\ES a b=o6 a b :=
 ⟨bCs ha hb hb2,(aLm hb).trans (bJ3 ha hb hb2).symm⟩
theorem aRk(p:Int->Bool)(e0:Int):∀(n:Nat) (lo hi:Int),0<=lo->lo<hi->hi-lo<=(n:Int)+1->(lo=0\/p lo=true)->(hi=e0\/p hi=false)->hi<=e0 ->
  0<=DZ p n lo hi/\DZ p n lo hi<e0/\(DZ p n lo hi=0\/p (DZ p n lo hi)=true)/\(DZ p n lo hi+1=e0\/p (DZ p n lo hi+1)=false)
 | 0,lo,hi,h0,h1,h2,h3,h4,h5=>by
  obtain rfl:hi=lo+1:=by lia
  exact⟨h0,by show lo<e0;lia,h3,h4⟩
 | n+1,lo,hi,h0,h1,h2,h3,h4,h5=>by
  unfold DZ;by_cases h:hi-lo>1
  ·rw[π (decide_eq_true h)];by_cases hc:p (aP (lo+hi) 2)=true
   ·rw[π hc];exact aRk p e0 n _ hi (by lia) (by lia) (by lia) (.inr hc) h4 h5
   ·rw[ν hc];exact aRk p e0 n lo _ h0 (by lia) (by lia) h3 (.inr (cG.2 hc)) (by lia)
  grind
def bJ4{b:eR}(h:oV b=true){n:Int}(hn:0<=n):aRi b n/\Rb b n=CI b n:=by
 obtain⟨_,b1,_,b4⟩:=aKN h;have nv:∀v:Int,0<=v->v<=20001->0<=v*v/\v*v<=400040001:=λv h0 h1=>⟨Int.mul_nonneg h0 h0,(KL h1 h1 h0 (by lia))⟩;have sp:∀v:Int,0<=v->v<=20001->aRh b.2.1 b.2.2.2.1 v/\Ra b.2.1 b.2.2.2.1 v=Vk b.2.1 b.2.2.2.1 v/\Ra b.2.1 b.2.2.2.1 v=nrD (v*v) b.2.1-nrD (981*b.2.2.2.1) 100:=λv h0 h1=>by
  have m:=nv v h0 h1;obtain⟨p1,e1⟩:=aCb (a:=v*v) (b:=b.2.1) (by lia) (by lia) (by lia);obtain⟨p2,e2⟩:=aCb (a:=981*b.2.2.2.1) (b:=100) (by lia) (by lia) (by lia);obtain⟨_,q1,q2⟩:=J0 (x:=v*v) (y:=b.2.1) (by lia) (by lia) (by lia);obtain⟨_,r1,r2⟩:=J0 (x:=981*b.2.2.2.1) (y:=100) (by lia) (by lia) (by lia);have f1:=aLm (a:=v*v) (b:=b.2.1) (by lia);have f2:=aLm (a:=981*b.2.2.2.1) (b:=100) (by lia);unfold aRh Ra Vk;refine⟨⟨by grind [aK],p1,by grind [aK],p2,by rw[e1,e2,aK];lia,trivial⟩,by lia,by lia⟩
 refine⟨λm h0 h1=>(sp m h0 h1).1,?_⟩;have ec:∀v:Int,0<=v->v<=20001->xS v b n = !DY b n v:=λv h0 h1=>by
  grind [xS,DY,Vk,decide_eq_true,decide_eq_false]
 have z:DY b n 0=true:=by
  unfold DY;rw[(sp 0 (by lia) (by lia)).2.2,ε];have e0:nrD (0*0) b.2.1=0:=by
   unfold nrD;rw[ν (by lia),show (2:Int)*(0*0)+b.2.1=b.2.1 by lia,eJ (by lia),yC (by lia) (by lia)]
  have e1:0<=nrD (981*b.2.2.2.1) 100:=by
   unfold nrD
   lia
  lia
 have mono:∀v v':Int,0<=v->v<=v'->v'<=20001->DY b n v'=true->DY b n v=true:=λv v' h0 h1 h2 h3=>by
  unfold DY at h3 ⊢;rw[ε]at h3 ⊢;rw[(sp v h0 (by lia)).2.2];rw[(sp v' (by lia) h2).2.2]at h3;have:=aG0 (a:=v*v) (a':=v'*v') (b:=b.2.1) (by lia) (KL h1 h1 h0 (by lia))
  lia
 obtain⟨a1,a2,a3,a4⟩:=aRk (DY b n) 20001 20001 0 20001 (by lia) (by lia) (by lia) (.inl rfl) (.inl rfl) (by lia);obtain⟨c1,c2,c3,c4⟩:=aBx (λx=>xS x b n) 0 20001 (20000+1-0:Int).toNat 0 20001 (by lia) (by lia) (by lia) (.inl rfl) (.inl rfl) (by lia) (by lia);show DZ (DY b n) 20001 0 20001=Nm (λx=>xS x b n) (20000+1-0:Int).toNat 0 20001-1;generalize DZ (DY b n) 20001 0 20001=r at *;generalize Nm (λx=>xS x b n) (20000+1-0:Int).toNat 0 20001=s at *;have hr:DY b n r=true:=by
  lia
 grind
noncomputable section
def bCt:jB:=D0 aEj [.v (.sl fQ),.v (.int .i64)] [.int .i64,.int .i64,.int .i64] [aW1,bJ0,bJ2]
mutual
def aN1:Nat->Γ eR->Int->Γ aS->Prop
 | 0,_,_,_=>False
 | n+1,x0,x1,ds=>if !Wd x0 then ds=[aJ (.int .i64) 0,aJ (.int .i64) 0,aJ (.int .i64) 1] else if !aJ8 x1 then ds=[aJ (.int .i64) 0,aJ (.int .i64) 0,aJ (.int .i64) 2] else Gd n (-1) 0 0 x0 x1 ds
def Gd:Nat->Int->Int->Int->Γ eR->Int->Γ aS->Prop
 | 0,_,_,_,_,_,_=>False
 | n+1,v7,v8,v9,x0,x1,ds=>if decide (v9<(x0.length:Int))then 0<=v9/\v9<(x0.length:Int)/\aRi (aD x0 (aE v9) (aC,0,0,0,())) x1/\if decide (v7<0)then bA .i64 (v9+1)/\Gd n v9 (Rb (aD x0 (aE v9) (aC,0,0,0,())) x1) (v9+1) x0 x1 ds else if decide (Rb (aD x0 (aE v9) (aC,0,0,0,())) x1<v8)then bA .i64 (v9+1)/\Gd n v9 (Rb (aD x0 (aE v9) (aC,0,0,0,())) x1) (v9+1) x0 x1 ds else bA .i64 (v9+1)/\Gd n v7 v8 (v9+1) x0 x1 ds else if decide (v7<0)then ds=[aJ (.int .i64) 0,aJ (.int .i64) 0,aJ (.int .i64) 3] else ds=[aJ (.int .i64) v7,aJ (.int .i64) v8,aJ (.int .i64) 0]
end
def bCu(ds:Γ aS)(K:gU)(q:Nat->Value):∀n,(∀ {x0 x1},aN1 n x0 x1 ds->St bCt (x0,x1,()) ds [] K q)/\(∀ {v7 v8 v9 x0 x1},Gd n v7 v8 v9 x0 x1 ds->Cu bCt 8 ([eL 0 fQ x0,eI 1 x1,eI 7 v7,eI 8 v8,eI 9 v9],[]) ds [] K q):=nI ⟨aH,aH⟩ λn ⟨i,i8⟩=>⟨bS<|bU dR<|bS<|bU dR<|cX i8,
  bU (eE<|aO<|bU (j0<|aO<|cX i8)<|bU (aO<|cX i8)<|aO<|cX i8)<|bU dR dR⟩
def aJB(x0:Γ O7)(x1:Int):Int:=Vo x0 x1
def X8(x0:Γ O7)(x1:Int):Int:=GC x0 x1
def X9(x0:Γ O7)(x1:Int):Int:=M1 x0 x1
def bCv(x0:Γ O7)(x1:Int)(hm:x0.length<=100)(hp:∀b∈x0,oV b=true)(h1:0<=x1):∀(k i:Nat) (s v7 v8:Int),i+k=x0.length->0<=s->s<(x0.length:Int)->((i=0/\s=0/\v7 = -1)\/(v7=s/\v8=DL x0 x1 s))->1<=x0.length->Gd (k+1) v7 v8 (i:Int) x0 x1 [⟨.int .i64,u4 x0 x1 k i s⟩,⟨.int .i64,DL x0 x1 (u4 x0 x1 k i s)⟩,⟨.int .i64,0⟩]:=by
 intro k
 induction k with
 | zero =>
  intro i s v7 v8 hi h0 h2 hs h3;obtain⟨rfl,rfl⟩:=hs.resolve_left (λh=>by lia);rw[Gd,ν (by lia),ν (by lia)]<;>rfl
 | succ k ih =>
  intro i s v7 v8 hi h0 h2 hs h3;have hlt:i<x0.length:=by lia
  obtain⟨p,e⟩:=bJ4 (hp _ (bY x0 i (aC,0,0,0,()) hlt)) h1;have e3:(i:Int)+1=((i+1:Nat):Int):=by lia
  have es:CI (x0.getD i (aC,0,0,0,())) x1=DL x0 x1 (i:Int):=by rfl
  have ii:bA .i64 ((i+1:Nat):Int):=by grind [aK]
  rw[Gd,π (by lia),u4,aI,e,es];refine⟨by lia,by lia,p,?_⟩;rcases hs with ⟨a,b,c⟩ | ⟨b,c⟩
  ·rw[π (by lia)];have hz:¬decide (DL x0 x1 (i:Int)<DL x0 x1 s)=true:=by
    grind
   rw[ν hz];exact⟨ii,ih (i+1) s _ _ (by lia) h0 h2 (.inr ⟨by lia,by grind⟩) h3⟩
  ·subst b;rw[ν (by lia),c];by_cases d:decide (DL x0 x1 (i:Int)<DL x0 x1 v7)=true
   ·rw[π d,π d];exact⟨ii,ih (i+1) i _ _ (by lia) (by lia) (by lia) (.inr ⟨rfl,rfl⟩) h3⟩
   ·rw[ν d,ν d];exact⟨ii,ih (i+1) v7 _ _ (by lia) h0 h2 (.inr ⟨rfl,rfl⟩) h3⟩
def bCw(x0:Γ O7)(x1:Int):∃n,aN1 n x0 x1 [⟨.int .i64,aJB x0 x1⟩,⟨.int .i64,X8 x0 x1⟩,⟨.int .i64,X9 x0 x1⟩]:=by
 have em:aJ8 x1=Qd x1:=rfl;unfold aJB X8 X9 Vo GC M1;by_cases c1:uP x0=true
 ·by_cases c2:Qd x1=true
  ·by_cases c3:x0.length=0
   ·have hc:rR x0 x1=3:=by
     unfold rR;rw[c1,c2,c3]<;>rfl
    refine⟨1+1,?_⟩;rw[aN1, <- Ev,c1,em,c2,hc,ν (by decide),ν (by decide),ν (by decide),ν (by decide),Gd,ν (by simp only[ε];omega),π (by decide)]
   ·have hc:rR x0 x1=0:=by
     unfold rR;rw[c1,c2,ν (by decide),ν (by decide),ν (by rw[beq_iff_eq];omega)]
    have w:=wi (show bH x1 0 5000=true from c2);have:=bCv x0 x1 (aQ4 c1) (XC c1) w.1 x0.length 0 0 (-1) 0 (by omega) (dO _) (by omega) (.inl ⟨rfl,rfl,rfl⟩) (by omega);refine⟨x0.length+1+1,?_⟩;rw[aN1, <- Ev,c1,em,c2,hc,ν (by decide),ν (by decide),π rfl,π rfl];exact this
  ·have hc:rR x0 x1=2:=by
    unfold rR;rw[c1,Dm c2]<;>rfl
   refine⟨1,?_⟩;rw[aN1, <- Ev,c1,em,Dm c2,hc]<;>rfl
 ·have hc:rR x0 x1=1:=by
   unfold rR;rw[Dm c1]<;>rfl
  refine⟨1,?_⟩;rw[aN1, <- Ev,Dm c1,hc]<;>rfl
def bJ5:KK:=mL bCt (DO aEj) nP (aJB,X8,X9,()) (λ⟨x0,x1,_⟩ h hwf K q =>
 let ⟨n,hn⟩:=bCw x0 x1
 (bCu _ K q n).1 hn)
def Xa(x0:Int):Bool:=cJ x0 1 10000000
def bJ6:KK:=mB Tryz.func219 [.v (.int .i64)] [.bool] [lT] nP (Xa,()) λ_=>bS pr
def aUu(x0:Int×Int×Int×Int×Unit)(x1:Int):Prop:=if !EF x0 then True else if !Xa x1 then True else bA .i64 (1000*x0.2.2.2.1)/\x1≠0/\bA .i64 (aP (1000*x0.2.2.2.1) x1)/\True
def Xb(x0:Int×Int×Int×Int×Unit)(x1:Int):Int:=if !EF x0 then 0 else if !Xa x1 then 0 else aP (1000*x0.2.2.2.1) x1
def Xc(x0:Int×Int×Int×Int×Unit)(x1:Int):Int:=if !EF x0 then 1 else if !Xa x1 then 2 else 0
def bJ7:KK:=mB Tryz.func125 [.v YA3,.v (.int .i64)] [.int .i64,.int .i64] [aPM,bJ6] aUu (Xb,Xc,()) λ_=>bS<|dP pr<|bS<|dP pr<|aO<|eE pr
def bNg:jB:=D0 aEk [.po iU,.v (.sl Jy)] [.int .i64] [bA7]
def bJ8(x0:bV)(x1:Γ Int):Prop:=((0<(x1.length:Int))/\((1<(x1.length:Int))/\((2<(x1.length:Int))/\(if(!CP [(aD x1 0 0,aD x1 1 0,aD x1 2 0,())])=true then True else(if((x0.2.2.2.1.length:Int)==8)=true then True else(((0+aF x0.2.2.2.1)*24<=140737488355328)/\((aF ([]++x0.2.2.2.1)+1)*24<=140737488355328)/\True))))))
def Xd(x0:bV)(x1:Γ Int):Int:=if !CP [(aD x1 0 0,aD x1 1 0,aD x1 2 0,())] then 2 else if(x0.2.2.2.1.length:Int)==8 then 5 else 0
def aCc(x0:bV)(x1:Γ Int):bV:=if !CP [(aD x1 0 0,aD x1 1 0,aD x1 2 0,())] then x0 else if(x0.2.2.2.1.length:Int)==8 then x0 else(x0.1,x0.2.1,x0.2.2.1,[]++x0.2.2.2.1++[(aD x1 0 0,aD x1 1 0,aD x1 2 0,())],x0.2.2.2.2.1,x0.2.2.2.2.2.1,x0.2.2.2.2.2.2.1,x0.2.2.2.2.2.2.2.1,x0.2.2.2.2.2.2.2.2.1,x0.2.2.2.2.2.2.2.2.2.1,x0.2.2.2.2.2.2.2.2.2.2.1,x0.2.2.2.2.2.2.2.2.2.2.2.1,())
def bJ9:KK:=mN bNg (DO aEk) bJ8 (λx=>[some ⟨.cons (.sl fQ) YA1,[aCc x.1 x.2.1]⟩]) (Xd,()) λ⟨x0,x1,_⟩ h _ K q=>have sq1:=bFl [eP 0 8 0 iU,eL 1 (.int .i64) x1,eI 4 0,eO 5 9 0 [],eL 6 (.int .i64) x1,(7,.a (.ptr (.int .i64) (aD x1 0 0))),eI 8 (aD x1 0 0),eL 9 (.int .i64) x1,(10,.a (.ptr (.int .i64) (aD x1 1 0))),eI 11 (aD x1 1 0),eL 12 (.int .i64) x1,(13,.a (.ptr (.int .i64) (aD x1 2 0))),eI 14 (aD x1 2 0),eT 15 dX (aD x1 0 0,aD x1 1 0,aD x1 2 0,()),eT 16 dX (aD x1 0 0,aD x1 1 0,aD x1 2 0,()),eW 17 10,eB 18 (CP [(aD x1 0 0,aD x1 1 0,aD x1 2 0,())]),eB 19 (!CP [(aD x1 0 0,aD x1 1 0,aD x1 2 0,())]),eP 20 8 0 iU,eP 21 8 0 iU,eP 22 8 6 (.sl dX),eW 23 2,eI 24 (x0.2.2.2.1.length:Int),eB 25 ((x0.2.2.2.1.length:Int)==8),eP 26 8 0 iU,eP 28 8 0 iU,eP 29 8 0 iU,eP 30 8 6 (.sl dX),eW 31 2,eT 33 dX (aD x1 0 0,aD x1 1 0,aD x1 2 0,()),eW 34 12,eW 35 11,eP 36 8 0 iU,eP 37 8 6 (.sl dX)] [cN fQ x0.1,cN dX x0.2.2.1,cN dX x0.2.2.2.1,cN eC x0.2.2.2.2.2.2.1,cN fQ x0.2.2.2.2.2.2.2.2.1,cN dX x0.2.2.2.2.2.2.2.2.2.1,cN eC x0.2.2.2.2.2.2.2.2.2.2.1,cN eC x0.2.2.2.2.2.2.2.2.2.2.2.1,QW x0 0 1 11 3 4 5 6 7,some (iJ.mk dX [(aD x1 0 0,aD x1 1 0,aD x1 2 0,())] true none (some false)),cN dX [(aD x1 0 0,aD x1 1 0,aD x1 2 0,())],cN dX ([]++x0.2.2.2.1++[(aD x1 0 0,aD x1 1 0,aD x1 2 0,())]),cN dX [(aD x1 0 0,aD x1 1 0,aD x1 2 0,())]];tP ((by decide):(0:Int)<=(0:Int))<|c1 h λh=>tP ((by decide):(0:Int)<=(1:Int))<|c1 h λh=>tP ((by decide):(0:Int)<=(2:Int))<|c1 h λh=>tv<|bDM h (λh=>rt) λh=>bDM h (λh=>rt) λh=>cS h λs3 h=>cS h λs4 h=>tP s3<|tP s4<|tP s3<|tP s4<|tP sq1<|tP sq1<|tP s3<|tP s4<|tP s3<|tP s4<|tP sq1<|tP s3<|tP s4<|tP sq1<|tP sq1<|tP s3<|tP s4<|tP s3<|tP s4<|tP s3<|tP s4<|tP sq1<|tP sq1<|tP s3<|tP s4<|tP s3<|tP s4<|tP sq1<|tP s3<|tP s4<|tP sq1<|tP sq1<|tP sq1<|tP s3<|tP s4<|tP s3<|tP s4<|tP sq1<|tP s3<|tP s4<|tP sq1<|tP s3<|tP s4<|tP s3<|tP s4<|tP sq1<|tP s3<|tP s4<|tP sq1<|tP sq1<|tP s3<|tP s4<|tP s3<|tP s4<|tP (bFl [eP 0 8 0 iU,eL 1 (.int .i64) x1,eI 4 0,eO 5 9 0 [],eL 6 (.int .i64) x1,(7,.a (.ptr (.int .i64) (aD x1 0 0))),eI 8 (aD x1 0 0),eL 9 (.int .i64) x1,(10,.a (.ptr (.int .i64) (aD x1 1 0))),eI 11 (aD x1 1 0),eL 12 (.int .i64) x1,(13,.a (.ptr (.int .i64) (aD x1 2 0))),eI 14 (aD x1 2 0),eT 15 dX (aD x1 0 0,aD x1 1 0,aD x1 2 0,()),eT 16 dX (aD x1 0 0,aD x1 1 0,aD x1 2 0,()),eW 17 10,eB 18 (CP [(aD x1 0 0,aD x1 1 0,aD x1 2 0,())]),eB 19 (!CP [(aD x1 0 0,aD x1 1 0,aD x1 2 0,())]),eP 20 8 0 iU,eP 21 8 0 iU,eP 22 8 6 (.sl dX),eW 23 2,eI 24 (x0.2.2.2.1.length:Int),eB 25 ((x0.2.2.2.1.length:Int)==8),eP 26 8 0 iU,eP 28 8 0 iU,eP 29 8 0 iU,eP 30 8 6 (.sl dX),eW 31 2,eT 33 dX (aD x1 0 0,aD x1 1 0,aD x1 2 0,()),eW 34 11,eW 35 12,eP 36 8 0 iU,eP 37 8 6 (.sl dX)] [cN fQ x0.1,cN dX x0.2.2.1,cN dX x0.2.2.2.1,cN eC x0.2.2.2.2.2.2.1,cN fQ x0.2.2.2.2.2.2.2.2.1,cN dX x0.2.2.2.2.2.2.2.2.2.1,cN eC x0.2.2.2.2.2.2.2.2.2.2.1,cN eC x0.2.2.2.2.2.2.2.2.2.2.2.1,QW x0 0 1 12 3 4 5 6 7,some (iJ.mk dX [(aD x1 0 0,aD x1 1 0,aD x1 2 0,())] true none (some false)),cN dX [(aD x1 0 0,aD x1 1 0,aD x1 2 0,())],cN dX [(aD x1 0 0,aD x1 1 0,aD x1 2 0,())],cN dX ([]++x0.2.2.2.1++[(aD x1 0 0,aD x1 1 0,aD x1 2 0,())])])<|tP sq1<|tP sq1<|rt
def Xe(x0:Int):Bool:=cJ x0 (-1000000) 1000000
def bJA:KK:=mB Tryz.func220 [.v (.int .i64)] [.bool] [lT] nP (Xe,()) λ_=>bS pr
def bJB:KK:=mB Tryz.func221 [.v (.int .i64)] [.bool] [lT] nP (W8,()) λ_=>bS pr
def aUv(x0:c7)(x1:Int)(x2:Int):Prop:=if decide (x1>x0.2.1)then True else bA .i64 (x1*x2)/\bA .i64 (aP (x1*x2) 1000)/\if decide (aP (x1*x2) 1000>0)then bA .i64 (1000*aP (x1*x2) 1000)/\bA .i64 (1000*aP (x1*x2) 1000+999)/\bA .i64 (1000*aP (x1*x2) 1000+999-x0.2.2.1)/\bA .i64 (1000-x0.2.2.1)/\1000-x0.2.2.1≠0/\bA .i64 (aP (1000*aP (x1*x2) 1000+999-x0.2.2.1) (1000-x0.2.2.1))/\True else bA .i64 (0-aP (x1*x2) 1000)/\bA .i64 (1000-x0.2.2.1)/\bA .i64 ((0-aP (x1*x2) 1000)*(1000-x0.2.2.1))/\bA .i64 (aP ((0-aP (x1*x2) 1000)*(1000-x0.2.2.1)) 1000)/\bA .i64 (0-aP ((0-aP (x1*x2) 1000)*(1000-x0.2.2.1)) 1000)/\True
def aCd(x0:c7)(x1:Int)(x2:Int):Int:=if decide (x1>x0.2.1)then 0 else if decide (aP (x1*x2) 1000>0)then aP (1000*aP (x1*x2) 1000+999-x0.2.2.1) (1000-x0.2.2.1)else 0-aP ((0-aP (x1*x2) 1000)*(1000-x0.2.2.1)) 1000
def Xg(x0:c7)(x1:Int)(x2:Int):Bool:=if decide (x1>x0.2.1)then false else if decide (aP (x1*x2) 1000>0)then decide (aP (1000*aP (x1*x2) 1000+999-x0.2.2.1) (1000-x0.2.2.1)<=x0.1)else true
def bJC:KK:=mB Tryz.func222 [.p dX,.v (.int .i64),.v (.int .i64)] [.int .i64,.bool] [] aUv (aCd,Xg,()) λ_=>dP pr<|aO<|pw 1000<|aO<|dP (aO<|aO<|aO<|aO<|eE pr)<|aO<|aO<|aO<|pw 1000<|aO<|aO pr
def aUw(x0:c7)(x1:Int)(x2:Int):Prop:=if !EG x0 then True else if !Xe x1 then True else if !W8 x2 then True else aUv x0 x1 x2/\True
def Xh(x0:c7)(x1:Int)(x2:Int):Int:=if !EG x0 then 0 else if !Xe x1 then 0 else if !W8 x2 then 0 else if !Xg x0 x1 x2 then 0 else aCd x0 x1 x2
def Xi(x0:c7)(x1:Int)(x2:Int):Int:=if !EG x0 then 1 else if !Xe x1 then 2 else if !W8 x2 then 2 else if !Xg x0 x1 x2 then 6 else 0
def bJD:KK:=mB Tryz.func127 [.v dX,.v (.int .i64),.v (.int .i64)] [.int .i64,.int .i64] [aPN,bJA,bJB,bJC] aUw (Xh,Xi,()) λ_=>bS<|dP pr<|bS<|dP (j0 pr)<|bS<|dP pr<|aO<|vD pr pr
def Xj(x0:Int):Bool:=cJ x0 1 4
def bJE:KK:=mB Tryz.func223 [.v (.int .i64)] [.bool] [lT] nP (Xj,()) λ_=>bS pr
def aUx(x0:c7)(x1:Int):Prop:=if x1==1 then True else if x1==2 then True else if x1==3 then(if x0.1 != 3 then True else if x0.2.2.1==3 then True else bA .i64 (x0.2.2.1+1)/\True)else if x0.1==0 then True else if x0.1==2 then True else bA .i64 (x0.2.1+1)/\True
def aCe(x0:c7)(x1:Int):c7:=if x1==1 then(if x0.1 != 0 then(if x0.1 != 3 then x0 else(1,0,0,()))else(1,0,0,()))else if x1==2 then(if x0.1 != 2 then x0 else(3,0,0,()))else if x1==3 then(if x0.1 != 3 then x0 else if x0.2.2.1==3 then x0 else(1,0,x0.2.2.1+1,()))else if x0.1==0 then x0 else if x0.1==2 then x0 else if decide (x0.2.1+1<3)then(x0.1,x0.2.1+1,x0.2.2)else if x0.1==3 then(0,0,0,())else if decide (x0.2.2.1>0)then(3,0,x0.2.2.1,())else(2,0,0,())
def Xk(x0:c7)(x1:Int):Bool:=if x1==1 then(if x0.1 != 0 then(if x0.1 != 3 then false else true)else true)else if x1==2 then(if x0.1 != 2 then false else true)else if x1==3 then(if x0.1 != 3 then false else if x0.2.2.1==3 then false else true)else if x0.1==0 then true else if x0.1==2 then true else if decide (x0.2.1+1<3)then true else if x0.1==3 then true else if decide (x0.2.2.1>0)then true else true
def bJF:KK:=mB Tryz.func224 [.v dX,.v (.int .i64)] [.cons Jy YA7,.bool] [] aUx (aCe,Xk,()) λ_=>dP (vD (vD pr pr)<|dN pr)<|dP (vD pr pr)<|dP (dP (j0 pr)<|dP pr<|aO pr)<|dP (j0 pr)<|dP pr<|aO<|vD pr<|vD pr<|vD pr pr
def aUy(x0:c7)(x1:Int):Prop:=if !An x0 then True else if !Xj x1 then True else aUx x0 x1/\True
def ET(x0:c7)(x1:Int):c7:=if !An x0 then(0,0,0,())else if !Xj x1 then(0,0,0,())else if !Xk x0 x1 then(0,0,0,())else aCe x0 x1
def Jk(x0:c7)(x1:Int):Int:=if !An x0 then 1 else if !Xj x1 then 2 else if !Xk x0 x1 then 6 else 0
def bJG:KK:=mB Tryz.func128 [.v dX,.v (.int .i64)] [.cons Jy YA7,.int .i64] [aPP,bJE,bJF] aUy (ET,Jk,()) λ_=>bS<|dP pr<|bS<|dP pr<|aO<|vD pr pr
def bCx(x0:Int):Prop:=if !cJ x0 0 3 then True else 0<=x0/\x0<4/\True
def NW(x0:Int):Δ:=if !cJ x0 0 3 then aA #[] else aD [aA #[115,104,117,116],aA #[111,112,101,110,105,110,103],aA #[111,112,101,110],aA #[115,104,117,116,116,105,110,103]] (aE x0) aC
def bJH:KK:=mB Tryz.func320 [.v (.int .i64)] [.str] [lT] bCx (NW,()) λ_=>bS<|tH pr<|eE pr
def bCy(x0:c7):Prop:=((bCx x0.1)/\((aG (NW x0.1)+1<=9223372036854775807)/\((aG (NW x0.1++aA #[47])+aG (kI x0.2.1)<=9223372036854775807)/\((aG (NW x0.1++aA #[47]++kI x0.2.1)+1<=9223372036854775807)/\((aG (NW x0.1++aA #[47]++kI x0.2.1++aA #[47])+aG (kI x0.2.2.1)<=9223372036854775807)/\True)))))
def aJC(x0:c7):Δ:=NW x0.1++aA #[47]++kI x0.2.1++aA #[47]++kI x0.2.2.1
def bJI:KK:=mB Tryz.func225 [.p dX] [.str] [bJH,aJz] bCy (aJC,()) λ_=>aO<|aO<|bS<|aO<|aO<|bS<|aO pr
def aJD(x0:c7):Prop:=if !An x0 then True else bCy x0/\True
def Ge(x0:c7):Δ:=if !An x0 then aA #[] else aJC x0
def bJJ:KK:=mB Tryz.func129 [.v dX] [.str] [aPP,bJI] aJD (Ge,()) λ_=>bS<|tH pr<|aO pr
def Xl(x0:Γ b6)(x1:Int)(x2:Int):Int:=if !We x0 then 1 else if !JU x1 then 2 else if !JU x2 then 2 else if decide (x2<x1)then 2 else 0
def bJK:KK:=mB Tryz.func226 [.v (.sl eC),.v (.int .i64),.v (.int .i64)] [.int .i64] [aW5,aW2] nP (Xl,()) λ_=>bS<|fP pr<|bS<|fP (j0<|j0 pr)<|bS<|fP (j0 pr)<|fP pr pr
def bCz:jB:=D0 aEl [.v (.sl eC),.v (.int .i64)] [.sl Jy] []
mutual
def bC0:Nat->Γ b6->Int->Γ aS->Prop
 | 0,_,_,_=>False
 | n+1,x0,x1,ds=>Jl n 0 ([]) x0 x1 ds
def Jl:Nat->Int->Γ Int->Γ b6->Int->Γ aS->Prop
 | 0,_,_,_,_,_=>False
 | n+1,v6,h0,x0,x1,ds=>if decide (v6<(x0.length:Int))then 0<=v6/\v6<(x0.length:Int)/\if decide ((aD x0 (aE v6) (aC,0,0,())).2.1<=x1)then 0<=v6/\v6<(x0.length:Int)/\if decide ((aD x0 (aE v6) (aC,0,0,())).2.2.1>x1)then(aF h0+1)*8<=140737488355328/\bA .i64 (v6+1)/\Jl n (v6+1) (h0++[v6]) x0 x1 ds else bA .i64 (v6+1)/\Jl n (v6+1) h0 x0 x1 ds else bA .i64 (v6+1)/\Jl n (v6+1) h0 x0 x1 ds else ds=[aJ (.sl Jy) h0]
end
def bC1(ds:Γ aS)(K:gU)(q:Nat->Value):∀n,(∀ {x0 x1},bC0 n x0 x1 ds->St bCz (x0,x1,()) ds [] K q)/\(∀ {v6 h0 x0 x1},Jl n v6 h0 x0 x1 ds->Cu bCz 3 ([eL 0 eC x0,eI 1 x1,eW 5 0,eI 6 v6],[cN (.int .i64) h0]) ds [] K q):=nI ⟨aH,aH⟩ λn ⟨i,i3⟩=>⟨cX i3,
  bU (eE<|bU (eE<|bU (aO<|aO<|cX i3)<|aO<|cX i3)<|dN<|aO<|cX i3) dR⟩
def aUz(x0:Γ b6)(x1:Int)(hl:x0.length<=1000):∀(k i:Nat) (h:Γ Int),i+k=x0.length->h.length<=i->Jl (k+1) (i:Int) h x0 x1 [⟨.sl Jy,h++wE x1 i (x0.drop i)⟩]:=by
 intro k
 induction k with
 | zero =>
  intro i h hi hh;rw[Jl,ν (by simp only[ε];omega),bT (by omega)];simp[wE]
 | succ k ih =>
  intro i h hi hh;have hlt:i<x0.length:=by omega
  have ii:bA .i64 ((i:Int)+1):=by rw[aK];omega
  have hn:((i:Int)+1)=((i+1:Nat):Int):=by omega
  rw[Jl,π (by simp only[ε];omega)];refine⟨by omega,by omega,?_⟩;simp only[aI,jX x0 i _ hlt];rw[List.drop_eq_getElem_cons hlt];unfold wE;by_cases h1:x0[i].2.1<=x1
  ·rw[π (by simpa using h1)];refine⟨by omega,by omega,?_⟩;by_cases h2:x1<x0[i].2.2.1
   ·rw[π (by simpa using h2),π ⟨h1,h2⟩];refine⟨by omega,ii,?_⟩;have:=ih (i+1) (h++[(i:Int)]) (by omega) (by simp;omega);rw[hn];simpa using this
   ·rw[ν (by simpa using h2),ν (λhh=>h2 hh.2)];refine⟨ii,?_⟩;rw[hn];exact ih (i+1) h (by omega) (by omega)
  ·rw[ν (by simpa using h1),ν (λhh=>h1 hh.1)];refine⟨ii,?_⟩;rw[hn];exact ih (i+1) h (by omega) (by omega)
def bC2(x0:Γ b6)(x1:Int)(hl:x0.length<=1000):bC0 (x0.length+1+1) x0 x1 [⟨.sl Jy,zJ x0 x1⟩]:=by
 rw[bC0];exact aUz x0 x1 hl x0.length 0 [] (by omega) (by simp)
def bJM:KK:=mL bCz (DO aEl) bG3 (zJ,()) (λ⟨x0,x1,_⟩ h hwf K q =>
 (bC1 _ K q _).1 (bC2 x0 x1 h))
def aU0:jB:=D0 aEm [.v (.sl eC),.v (.int .i64),.v (.int .i64)] [.sl Jy,.int .i64] [bJK,bJM]
mutual
def aU1:Nat->Γ b6->Int->Int->Γ aS->Prop
 | 0,_,_,_,_=>False
 | n+1,x0,x1,x2,ds=>if Xl x0 x1 x2 != 0 then ds=[aJ (.sl Jy) [],aJ (.int .i64) (Xl x0 x1 x2)] else Gf n ([]) x0 x1 x2 ds
def Gf:Nat->Γ Int->Γ b6->Int->Int->Γ aS->Prop
 | 0,_,_,_,_,_=>False
 | n+1,h0,x0,x1,x2,ds=>if decide (x1<x2)then bG3 x0 x1/\if(↑(aF (zJ x0 x1)):Int)==0 then ds=[aJ (.sl Jy) [],aJ (.int .i64) 3] else 0<(↑(aF (zJ x0 x1)):Int)/\BQ n (aD (zJ x0 x1) 0 0) 1 x0 x2 h0 x1 ds else ds=[aJ (.sl Jy) h0,aJ (.int .i64) 0]
def BQ:Nat->Int->Int->Γ b6->Int->Γ Int->Int->Γ aS->Prop
 | 0,_,_,_,_,_,_,_=>False
 | n+1,v11,v12,x0,x2,h0,x1,ds=>if decide (v12<(↑(aF (zJ x0 x1)):Int))then 0<=v12/\v12<(↑(aF (zJ x0 x1)):Int)/\0<=aD (zJ x0 x1) (aE v12) 0/\aD (zJ x0 x1) (aE v12) 0<(x0.length:Int)/\0<=v11/\v11<(x0.length:Int)/\if decide ((aD x0 (aE (aD (zJ x0 x1) (aE v12) 0)) (aC,0,0,())).2.2.1>(aD x0 (aE v11) (aC,0,0,())).2.2.1)then 0<=v12/\v12<(↑(aF (zJ x0 x1)):Int)/\bA .i64 (v12+1)/\BQ n (aD (zJ x0 x1) (aE v12) 0) (v12+1) x0 x2 h0 x1 ds else bA .i64 (v12+1)/\BQ n v11 (v12+1) x0 x2 h0 x1 ds else(aF h0+1)*8<=140737488355328/\0<=v11/\v11<(x0.length:Int)/\Gf n (h0++[v11]) x0 (aD x0 (aE v11) (aC,0,0,())).2.2.1 x2 ds
end
def bC3(ds:Γ aS)(K:gU)(q:Nat->Value):∀n,(∀ {x0 x1 x2},aU1 n x0 x1 x2 ds->St aU0 (x0,x1,x2,()) ds [] K q)/\(∀ {h0 x0 x1 x2},Gf n h0 x0 x1 x2 ds->Cu aU0 5 ([eL 0 eC x0,eI 1 x1,eI 2 x2,eW 9 0],[cN (.int .i64) h0]) ds [] K q)/\(∀ {v11 v12 x0 x2 h0 x1},BQ n v11 v12 x0 x2 h0 x1 ds->Cu aU0 11 ([eL 0 eC x0,eI 2 x2,eW 9 0,eW 10 1,eI 11 v11,eI 12 v12],[cN (.int .i64) h0,cN (.int .i64) (zJ x0 x1)]) ds [] K q):=nI ⟨aH,aH,aH⟩ λn ⟨i,i5,i11⟩=>⟨bS<|bU dR<|cX i5,
  bU (aO<|bU dR<|pq 0<|aO<|cX i11) dR,
  bU (eE<|eE<|eE<|bU (eE<|aO<|cX i11)<|aO<|cX i11)<|aO<|eE<|cX i5⟩
def Xn(x0:Γ Sg)(x1 x2:Int):Int:=Me x0 x1 x2
def Xo(x0:Γ Sg)(x1 x2:Int):Γ Int:=Dw x0 x1 x2
def bJN(x0:Γ Sg)(x1 x2:Int):Prop:=x0.length<=1000
theorem aCf(x0:Γ Sg)(a:Int)(l:Γ Int):kU x0 (-1) (a::l)=kU x0 a l:=by
 unfold kU;rw[fR,π (.inl (by decide))]
def aRl(x0:Γ Sg)(x2 x1:Int)(h0:Γ Int)(hl:x0.length<=1000)(hh:h0.length<=2000)(ds:Γ aS)(n:Nat)(hn:∀b:Nat,b<x0.length->(b:Int)=kU x0 (-1) (wE x1 0 x0)->Gf n (h0++[(b:Int)]) x0 (rL x0 b).2.2.1 x2 ds) :
  ∀(k i b:Nat),i+k=(wE x1 0 x0).length->b<x0.length->kU x0 (b:Int) ((wE x1 0 x0).drop i)=kU x0 (-1) (wE x1 0 x0)->BQ (n+k+1) (b:Int) (i:Int) x0 x2 h0 x1 ds:=by
 have hll:=aB0 x1 x0 0;intro k
 induction k with
 | zero =>
  intro i b hi hb he;rw[bT (by omega)]at he;have eg:zJ x0 x1=wE x1 0 x0:=rfl;rw[iX,BQ,eg,ν (by simp only[ε];omega),aI];exact⟨by omega,by omega,by omega,hn b hb he⟩
 | succ k ih =>
  intro i b hi hb he;have hlt:i<(wE x1 0 x0).length:=by omega
  have en:(i:Int)+1=((i+1:Nat):Int):=by omega
  have ii:bA .i64 ((i+1:Nat):Int):=by rw[aK];omega
  have eg:zJ x0 x1=wE x1 0 x0:=rfl;obtain⟨j,j1,j2,_⟩:=DM.1 (bY (wE x1 0 x0) i 0 hlt);rw[bX]at j2;rw[eD (wE x1 0 x0) i 0 hlt]at he;unfold kU at he;rw[fR]at he;show BQ (n+k+1+1) _ _ _ _ _ _ _;rw[BQ,eg,π (by simp only[ε];omega),en];simp only[aI,j2];rw[j2]at he;simp only[aI]at he;refine⟨by omega,by omega,by omega,by omega,by omega,by omega,?_⟩;by_cases c:(rL x0 b).2.2.1<(rL x0 j).2.2.1
  ·rw[π (.inr c)]at he;exact(π (show _=true from decide_eq_true c)).mpr ⟨by omega,by omega,ii,ih (i+1) j (by omega) j1 he⟩
  ·rw[ν (λh=>h.elim (λh=>by omega) c)]at he;exact(ν (λh=>c (of_decide_eq_true h))).mpr ⟨ii,ih (i+1) b (by omega) hb he⟩
def aRm(x0:Γ Sg)(x2:Int)(hl:x0.length<=1000):∀(k:Nat) (x1:Int) (h0:Γ Int),x2-x1<=(k:Int)->h0.length+k<=2000 ->
  ∃n,Gf n h0 x0 x1 x2 (Dx h0 (BN x0 x2 k x1)):=by
 intro k
 induction k with
 | zero =>
  intro x1 h0 hk hh;refine⟨1,?_⟩;rw[Gf,ν (by simp only[ε];omega)];show [(⟨.sl Jy,h0++([]:Γ Int)⟩:aS),⟨.int .i64,(0:Int)⟩]=_;rw[cK]
 | succ k ih =>
  intro x1 h0 hk hh;by_cases hm:x1<x2
  case neg =>
   refine⟨1,?_⟩;rw[Gf,ν (by simpa using hm)];unfold BN;rw[ν hm];show [(⟨.sl Jy,h0++([]:Γ Int)⟩:aS),⟨.int .i64,(0:Int)⟩]=_;rw[cK]
  case pos =>
   have eg:zJ x0 x1=wE x1 0 x0:=rfl;by_cases hb:kU x0 (-1) (wE x1 0 x0)<0
   ·have hz:wE x1 0 x0=[]:=by
     rcases WB x0 (wE x1 0 x0) (λq hq=>by obtain⟨j,_,rfl,_⟩:=DM.1 hq;omega)with ⟨h,_⟩ | ⟨h,_⟩
     ·exact h
     ·obtain⟨j,_,e,_⟩:=DM.1 h;omega
    refine⟨1,?_⟩;unfold BN;rw[Gf,π (by simpa using hm),π hm,π hb,eg,hz];exact⟨hl,rfl⟩
   ·obtain⟨b,h1,h2,h3,h4,h5⟩:=aB2 x0 x1 hb;obtain⟨n,hn⟩:=ih (rL x0 b).2.2.1 (h0++[(b:Int)]) (by omega) (by rw[aU,bP];omega);have e:Dx (h0++[(b:Int)]) (BN x0 x2 k (rL x0 b).2.2.1)=Dx h0 ((BN x0 x2 k (rL x0 b).2.2.1).map ((b:Int) :: ·)):=by
     cases BN x0 x2 k (rL x0 b).2.2.1 with
     | none=>rfl
     | some l=>simp[Dx]
    cases hz:wE x1 0 x0 with
    | nil=>rw[hz]at h1;exact absurd h1 (by show ¬(-1:Int)=_;omega)
    | cons a r =>
     have ha:a∈wE x1 0 x0:=by rw[hz];exact aR ..
     obtain⟨j,j1,j2,_⟩:=DM.1 ha;rw[bX]at j2;have key:=aRl x0 x2 x1 h0 hl (by omega) (Dx h0 (BN x0 x2 (k+1) x1)) n (λb' hb' e'=>by
      obtain rfl:b'=b:=by omega
      unfold BN;rw[π hm,ν hb,h1];simp only[aI];rw[<- e];exact hn) r.length 1 j (by rw[hz,cL];omega) j1 (by rw[hz,aCf,j2]<;>rfl)
     refine⟨n+r.length+1+1,?_⟩;rw[Gf,π (by simpa using hm),eg,hz,ν (by rw[cL,beq_iff_eq];omega)];refine⟨hl,by rw[cL];omega,?_⟩;show BQ (n+r.length+1) a 1 x0 x2 h0 x1 _;rw[j2];exact key
def bC4(x0:Γ Sg)(x1 x2:Int)(hl:x0.length<=1000):∃n,aU1 n x0 x1 x2 [⟨.sl Jy,Xo x0 x1 x2⟩,⟨.int .i64,Xn x0 x1 x2⟩]:=by
 have ec:Xl x0 x1 x2=Ah x0 (Ag x1 x2):=by
  have e1:∀n,JU n=Aa n:=λ_=>rfl;unfold Xl Ah Ag;rw[<- Sq,e1,e1];cases uQ x0
  ·rfl
  ·cases Aa x1
   ·rfl
   ·cases Aa x2
    ·rfl
    ·by_cases c:x2<x1
     ·rw[decide_eq_true c,decide_eq_false (show ¬x1<=x2 by omega)]<;>rfl
     ·rw[decide_eq_false c,decide_eq_true (show x1<=x2 by omega)]<;>rfl
 unfold Xo Xn Dw Me;by_cases h:Ah x0 (Ag x1 x2)=0
 ·rw[ν (λhh=>hh h),ν (λhh=>hh h)];have hs:x2-x1<=1440:=by
   have:=aKA (WC h).2;omega
  obtain⟨n,hn⟩:=aRm x0 x2 hl (x2-x1).toNat x1 [] (by omega) (by simp;omega);refine⟨n+1,?_⟩;rw[aU1,ec,ν (by rw[h];decide)];cases hf:BN x0 x2 (x2-x1).toNat x1 with
  | none=>rw[hf]at hn;exact hn
  | some l=>rw[hf]at hn;exact hn
 ·rw[π h,π h];refine⟨1,?_⟩;rw[aU1,ec,π (by simpa using h)]
def bJO:KK:=mL aU0 (DO aEm) bJN (Xo,Xn,()) (λ⟨x0,x1,x2,_⟩ h hwf K q =>
 let ⟨n,hn⟩:=bC4 x0 x1 x2 h
 (bC3 _ K q n).1 hn)
def EU(x0:Int):Bool:=cJ x0 0 100000
def aXd:KK:=mB Tryz.func228 [.v (.int .i64)] [.bool] [lT] nP (EU,()) λ_=>bS pr
def NX(x0:Int)(x1:Int)(x2:Int):Bool:=if EU x0 then(if EU x1 then cJ x2 1 900 else false)else false
def bJP:KK:=mB Tryz.func229 [.v (.int .i64),.v (.int .i64),.v (.int .i64)] [.bool] [aXd,lT] nP (NX,()) λ_=>bS<|fP (bS<|fP (bS pr) pr)<|dN pr
def Xp(x0:Int):Bool:=cJ x0 0 1000000
def bJQ:KK:=mB Tryz.func230 [.v (.int .i64)] [.bool] [lT] nP (Xp,()) λ_=>bS pr
def bJR(x0:Int)(x1:Int)(x2:Int)(x3:Int):Prop:=((bA .i64 (x0-x1))/\((bA .i64 (x0-x1-x2))/\((bA .i64 ((x0-x1-x2)*x3))/\((bA .i64 ((x0-x1-x2)*x3*981))/\((aCa ((x0-x1-x2)*x3*981) 100000)/\True)))))
def Jm(x0:Int)(x1:Int)(x2:Int)(x3:Int):Int:=ES ((x0-x1-x2)*x3*981) 100000
def bJS:KK:=mB Tryz.func321 [.v (.int .i64),.v (.int .i64),.v (.int .i64),.v (.int .i64)] [.int .i64] [aRg] bJR (Jm,()) λ_=>aO<|aO<|aO<|aO<|aO pr
end
theorem Tz{t b r g:Int}(h:(-200000<=t-b-r/\t-b-r<=200000)/\1<=g/\g<=900):aCa ((t-b-r)*g*981) 100000/\Jm t b r g=aIQ t b r g/\Jm t b r g=nrD ((t-b-r)*g*981) 100000 /\ -180000000<=(t-b-r)*g/\(t-b-r)*g<=180000000:=by
 have m:=mb (A:=200000) (B:=900) (a:=t-b-r) (b:=g) (by lia) (by lia);obtain⟨p,e⟩:=aCb (a:=(t-b-r)*g*981) (b:=100000) (by lia) (by lia) (by lia);exact⟨p,e,aLm (by lia),by lia,by lia⟩
def aRn{x:Int×Int×Int×Int×Unit}(v:xH x=true){t b r g:Int}(n:Int)(ht:0<=t/\t<=100000)(hb:0<=b/\b<=100000)(hr:0<=r/\r<=100000)(hg:1<=g/\g<=900)(N:Nat)(hN:x.1+1<=(N:Int)) :
  bsW (λm=>decide (Jm (t+m) b r g>=n)) N (-1) (x.1+1)=Af x t b r g n:=by
 obtain⟨b1,b2⟩:=Oh v;have e:Af x t b r g n=Nm (λy=>Du y t b r g n) (x.1+1-0).toNat 0 (x.1+1):=rfl;have ec:∀m:Int,0<=m->m<=x.1+1->Du m t b r g n=decide (Jm (t+m) b r g>=n):=λm h0 h1=>by
  rw[(Tz (t:=t+m) (b:=b) (r:=r) (g:=g) ⟨by lia,hg⟩).2.1];rfl
 have bsc:∀(C D:Int->Bool) (k:Nat) (lo hi:Int),0<=lo->lo<=hi->hi<=x.1+1->(∀m,0<=m->m<=x.1+1->C m=D m)->Nm C k lo hi=Nm D k lo hi:=λC D k=>by
  induction k with
  | zero=>intros;rfl
  | succ k ih =>
   unfold Nm
   grind
 rw[e,bsc _ (λm=>decide (Jm (t+m) b r g>=n)) _ 0 (x.1+1) (by lia) (by lia) (by lia) ec];refine(bCr _ (x.1+1) _ N (by lia) (by lia) hN λm m' h0 h1 h2 h3=>?_).symm;rw[(Tz (t:=t+m') (b:=b) (r:=r) (g:=g) ⟨by lia,hg⟩).2.2.1];rw[(Tz (t:=t+m) (b:=b) (r:=r) (g:=g) ⟨by lia,hg⟩).2.2.1]at h3;have h4:(t+m-b-r)*g<=(t+m'-b-r)*g:=Int.mul_le_mul_of_nonneg_right (by lia) (by lia);have:=aG0 (a:=(t+m-b-r)*g*981) (a':=(t+m'-b-r)*g*981) (b:=100000) (by lia) (by lia)
 lia
noncomputable section
def bC5:jB:=D0 aEn [.p YA3,.v (.int .i64),.v (.int .i64),.v (.int .i64),.v (.int .i64),.v (.int .i64)] [.int .i64] [bJS]
mutual
def bJT:Nat->Int×Int×Int×Int×Unit->Int->Int->Int->Int->Int->Γ aS->Prop
 | 0,_,_,_,_,_,_,_=>False
 | n+1,x0,x1,x2,x3,x4,x5,ds=>bA .i64 (x0.1+1)/\NY n (-1) (x0.1+1) x0 x1 x2 x3 x4 x5 ds
def NY:Nat->Int->Int->Int×Int×Int×Int×Unit->Int->Int->Int->Int->Int->Γ aS->Prop
 | 0,_,_,_,_,_,_,_,_,_=>False
 | n+1,v13,v14,x0,x1,x2,x3,x4,x5,ds=>bA .i64 (v14-v13)/\if decide (v14-v13>1)then bA .i64 (v13+v14)/\bA .i64 (aP (v13+v14) 2)/\bA .i64 (x1+aP (v13+v14) 2)/\bJR (x1+aP (v13+v14) 2) x2 x3 x4/\if decide (Jm (x1+aP (v13+v14) 2) x2 x3 x4>=x5)then NY n v13 (aP (v13+v14) 2) x0 x1 x2 x3 x4 x5 ds else NY n (aP (v13+v14) 2) v14 x0 x1 x2 x3 x4 x5 ds else if decide (v14>x0.1)then ds=[aJ (.int .i64) (-1)] else ds=[aJ (.int .i64) v14]
end
def bC6(ds:Γ aS)(K:gU)(q:Nat->Value):∀n,(∀ {x0 x1 x2 x3 x4 x5},bJT n x0 x1 x2 x3 x4 x5 ds->St bC5 (x0,x1,x2,x3,x4,x5,()) ds [] K q)/\(∀ {v13 v14 x0 x1 x2 x3 x4 x5},NY n v13 v14 x0 x1 x2 x3 x4 x5 ds->Cu bC5 3 ([(0,.a (.ptr YA3 x0)),eI 1 x1,eI 2 x2,eI 3 x3,eI 4 x4,eI 5 x5,eI 13 v13,eI 14 v14],[]) ds [] K q):=nI ⟨aH,aH⟩ λn ⟨i,i3⟩=>⟨aO<|cX i3,
  aO<|bU (aO<|pw 2<|aO<|aO<|aO<|bU (cX i3)<|cX i3)<|bU dR dR⟩
abbrev aLn:=Int×Int×Int×Int×Unit
def aLo(x1 x2 x3 x4 x5 m:Int):Bool:=decide (Jm (x1+m) x2 x3 x4>=x5)
def bC7(x0:aLn)(x1 x2 x3 x4 x5:Int):Int:=bsW (aLo x1 x2 x3 x4 x5) 20002 (-1) (x0.1+1)
def Rc(x0:aLn)(x1 x2 x3 x4 x5:Int):Int:=if bC7 x0 x1 x2 x3 x4 x5>x0.1 then -1 else bC7 x0 x1 x2 x3 x4 x5
def aU2(x0:aLn)(x1 x2 x3 x4 x5:Int):Prop:=(1<=x0.1/\x0.1<=20000)/\(0<=x1/\x1<=100000)/\(0<=x2/\x2<=100000)/\(0<=x3/\x3<=100000)/\1<=x4/\x4<=900
def bC8(x0:aLn)(x1 x2 x3 x4 x5:Int)(h:aU2 x0 x1 x2 x3 x4 x5)(ds:Γ aS):∀(k:Nat) (lo e:Int), -1<=lo->lo<e->e<=x0.1+1->e-lo<=(k:Int)+1->ds=[⟨.int .i64,if bsW (aLo x1 x2 x3 x4 x5) k lo e>x0.1 then -1 else bsW (aLo x1 x2 x3 x4 x5) k lo e⟩]->NY (k+1) lo e x0 x1 x2 x3 x4 x5 ds:=by
 obtain⟨h0,h1,h2,h3,h4⟩:=h;have fin:∀e:Int,ds=[⟨.int .i64,if e>x0.1 then -1 else e⟩]->(if decide (e>x0.1)=true then ds=[⟨.int .i64,(-1:Int)⟩] else ds=[⟨.int .i64,e⟩]):=λe he=>by
  lia
 intro k
 induction k with
 | zero =>
  intro lo e a b c d hd;rw[NY,ν (by lia)];exact⟨by grind [aK],fin e hd⟩
 | succ k ih =>
  intro lo e a b c d hd;rw[NY];refine⟨by grind [aK],?_⟩;unfold bsW at hd;by_cases q:e-lo>1
  ·obtain⟨m1,m2⟩:=aRj a q;rw[π q]at hd;obtain⟨p1,_,_,p4,p5⟩:=Tz (t:=x1+aP (lo+e) 2) (b:=x2) (r:=x3) (g:=x4) ⟨by lia,h4⟩;refine(π (decide_eq_true q)).mpr ⟨by rw[aK];lia,by grind [aK],by rw[aK];lia,⟨by rw[aK];lia,by rw[aK];lia,by grind [aK],by grind [aK],p1,trivial⟩,?_⟩;by_cases y:aLo x1 x2 x3 x4 x5 (aP (lo+e) 2)=true
   ·rw[π y]at hd;exact(π y).mpr (ih lo _ a m1 (by lia) (by lia) hd)
   ·rw[ν y]at hd;exact(ν y).mpr (ih _ e (by lia) m2 c (by lia) hd)
  lia
def bJU:KK:=mL bC5 (DO aEn) aU2 (Rc,()) (λ⟨x0,x1,x2,x3,x4,x5,_⟩ h hwf K q =>
 have h:aU2 x0 x1 x2 x3 x4 x5:=h
 (bC6 _ K q ((20002+1+1))).1 (by
  rw[bJT];exact⟨by rw[aK];have:=h.1;omega,bC8 x0 x1 x2 x3 x4 x5 h _ 20002 (-1) (x0.1+1) (by decide) (by have:=h.1;omega) (dO _) (by have:=h.1;omega) rfl⟩))
def aU3(x0:Int×Int×Int×Int×Unit)(x1:Int)(x2:Int)(x3:Int)(x4:Int)(x5:Int):Prop:=if !EH x0 then True else if !EU x1 then True else if !NX x2 x3 x4 then True else if !Xp x5 then True else aU2 x0 x1 x2 x3 x4 x5/\True
def Xq(x0:Int×Int×Int×Int×Unit)(x1:Int)(x2:Int)(x3:Int)(x4:Int)(x5:Int):Int:=if !EH x0 then 0 else if !EU x1 then 0 else if !NX x2 x3 x4 then 0 else if !Xp x5 then 0 else if decide (Rc x0 x1 x2 x3 x4 x5<0)then 0 else Rc x0 x1 x2 x3 x4 x5
def Xr(x0:Int×Int×Int×Int×Unit)(x1:Int)(x2:Int)(x3:Int)(x4:Int)(x5:Int):Int:=if !EH x0 then 1 else if !EU x1 then 2 else if !NX x2 x3 x4 then 2 else if !Xp x5 then 2 else if decide (Rc x0 x1 x2 x3 x4 x5<0)then 3 else 0
def bJV:KK:=mB Tryz.func131 [.v YA3,.v (.int .i64),.v (.int .i64),.v (.int .i64),.v (.int .i64),.v (.int .i64)] [.int .i64,.int .i64] [aPO,aXd,bJP,bJQ,bJU] aU3 (Xq,Xr,()) λ_=>bS<|dP pr<|bS<|dP (j0<|j0 pr)<|bS<|dP (j0 pr)<|bS<|dP pr<|aO<|vD pr pr
def aU4(x0:Γ c7):Prop:=((bA .i64 ((x0.length:Int)-1))/\((0<=(x0.length:Int)-1)/\((x0.length:Int)-1<(x0.length:Int))/\((0<(x0.length:Int))/\((bA .i64 ((aD x0 (aE ((x0.length:Int)-1)) (0,0,0,())).2.1-(aD x0 0 (0,0,0,())).2.1))/\((bA .i64 (1000*((aD x0 (aE ((x0.length:Int)-1)) (0,0,0,())).2.1-(aD x0 0 (0,0,0,())).2.1)))/\((0<(x0.length:Int))/\((bA .i64 ((aD x0 (aE ((x0.length:Int)-1)) (0,0,0,())).1-(aD x0 0 (0,0,0,())).1))/\((aCa (1000*((aD x0 (aE ((x0.length:Int)-1)) (0,0,0,())).2.1-(aD x0 0 (0,0,0,())).2.1)) ((aD x0 (aE ((x0.length:Int)-1)) (0,0,0,())).1-(aD x0 0 (0,0,0,())).1))/\True))))))))
def Gg(x0:Γ c7):Int:=ES (1000*((aD x0 (aE ((x0.length:Int)-1)) (0,0,0,())).2.1-(aD x0 0 (0,0,0,())).2.1)) ((aD x0 (aE ((x0.length:Int)-1)) (0,0,0,())).1-(aD x0 0 (0,0,0,())).1)
def bJW:KK:=mB Tryz.func322 [.v (.sl dX)] [.int .i64] [aRg] aU4 (Gg,()) λ_=>aO<|eE<|pq 0<|aO<|aO<|aO<|pq 0<|aO<|aO<|aO pr
end
def aN2{xs:Γ Se}(hv:jG xs=true)(h:2<=xs.length):aU4 xs/\Gg xs=kW xs:=by
 obtain⟨hl,ha⟩:=Oj hv;obtain⟨h1,h2⟩:=XB ha;have hf:=RN h2 (xs.length-2) (by lia);rw[show xs.length-2+1=xs.length-1 by lia]at hf;obtain⟨b1,b2,_⟩:=Kg (h1 0 (by lia));obtain⟨c1,c2,_⟩:=Kg (h1 (xs.length-1) (by lia));have en:aE ((xs.length:Int)-1)=xs.length-1:=by lia
 unfold aU4 Gg kW;rw[π hv,ν (by lia),en];obtain⟨p,e⟩:=aCb (a:=1000*((xs.getD (xs.length-1) Hx).2.1-(xs.getD 0 Hx).2.1)) (b:=(xs.getD (xs.length-1) Hx).1-(xs.getD 0 Hx).1) (by lia) (by lia) (by lia);have i1:bA .i64 ((xs.getD (xs.length-1) Hx).2.1-(xs.getD 0 Hx).2.1):=by grind [aK]
 have i2:bA .i64 (1000*((xs.getD (xs.length-1) Hx).2.1-(xs.getD 0 Hx).2.1)):=by grind [aK]
 have i3:bA .i64 ((xs.getD (xs.length-1) Hx).1-(xs.getD 0 Hx).1):=by grind [aK]
 exact⟨⟨by grind [aK],by lia,by lia,by lia,i1,i2,by lia,i3,p,trivial⟩,e⟩
def bC9{l:Γ Se}(hv:jG l=true)(x:Se):aUm l x/\aBS l x=If l x/\zT l x=Dr l x:=by
 obtain⟨hl,_⟩:=Oj hv;have e1:wF l=true:=(Ey l).symm.trans hv;have e2:aFy l=l:=rfl;have e3:((l++[x]).length:Int)=l.length+1:=by simp
 unfold aUm aBS zT If Dr;rw[<- aPW,dL, <- Wl]
 lia
noncomputable section
def bCA:jB:=D0 aEo [.v (.sl dX),.v (.int .i64)] [.int .i64] [bJW]
mutual
def aU5:Nat->Γ c7->Int->Γ aS->Prop
 | 0,_,_,_=>False
 | n+1,x0,x1,ds=>if decide ((x0.length:Int)<2)then ds=[aJ (.int .i64) (-1)] else bA .i64 ((x0.length:Int)-1)/\0<=(x0.length:Int)-1/\(x0.length:Int)-1<(x0.length:Int)/\aU4 x0/\Jn n (aD x0 (aE ((x0.length:Int)-1)) (0,0,0,())).1 x1 x0 ds
def Jn:Nat->Int->Int->Γ c7->Γ aS->Prop
 | 0,_,_,_,_=>False
 | n+1,v7,x1,x0,ds=>if decide (v7<=36524)then bA .i64 (v7-(aD x0 (aE ((x0.length:Int)-1)) (0,0,0,())).1)/\bA .i64 (Gg x0*(v7-(aD x0 (aE ((x0.length:Int)-1)) (0,0,0,())).1))/\bA .i64 (aP (Gg x0*(v7-(aD x0 (aE ((x0.length:Int)-1)) (0,0,0,())).1)) 1000)/\bA .i64 ((aD x0 (aE ((x0.length:Int)-1)) (0,0,0,())).2.1+aP (Gg x0*(v7-(aD x0 (aE ((x0.length:Int)-1)) (0,0,0,())).1)) 1000)/\if decide ((aD x0 (aE ((x0.length:Int)-1)) (0,0,0,())).2.1+aP (Gg x0*(v7-(aD x0 (aE ((x0.length:Int)-1)) (0,0,0,())).1)) 1000>=x1)then ds=[aJ (.int .i64) v7] else bA .i64 (v7+1)/\Jn n (v7+1) x1 x0 ds else ds=[aJ (.int .i64) (-1)]
end
def bCB(ds:Γ aS)(K:gU)(q:Nat->Value):∀n,(∀ {x0 x1},aU5 n x0 x1 ds->St bCA (x0,x1,()) ds [] K q)/\(∀ {v7 x1 x0},Jn n v7 x1 x0 ds->Cu bCA 6 ([eI 1 x1,(5,.a (.ptr dX (aD x0 (aE ((x0.length:Int)-1)) (0,0,0,())))),eI 6 (Gg x0),eI 7 v7],[]) ds [] K q):=nI ⟨aH,aH⟩ λn ⟨i,i6⟩=>⟨bU dR<|aO<|eE<|aO<|cX i6,
  bU (aO<|aO<|pw 1000<|aO<|aO<|bU dR<|aO<|cX i6) dR⟩
def EV(x0:Γ c7)(x1:Int):Int:=if x0.length<2 then -1 else aB5 x0 x1
def bCC(x0:Γ c7)(x1:Int):Prop:=jG x0=true
def bCD{x0:Γ c7}{x1:Int}(hb:WJ x0)(eg:Gg x0=kW x0):∀(k:Nat) (d:Int),(lS x0).1<=d->d+k=36525->Jn (k+1) d x1 x0 [⟨.int .i64,kR x0 x1 k d⟩]:=by
 obtain⟨hl,hm,⟨a1,a2⟩,⟨b1,b2⟩,hg⟩:=hb;intro k
 induction k with
 | zero =>
  intro d hd hk;rw[Jn,ν (by lia)];rfl
 | succ k ih =>
  intro d hd hk;obtain⟨m1,m2,m3,m4⟩:=aPF hg (b:=d-(lS x0).1) (by lia);have hr:∀ds,Jn (k+1+1) d x1 x0 ds=((bA .i64 (d-(lS x0).1))/\((bA .i64 (kW x0*(d-(lS x0).1)))/\((bA .i64 (aP (kW x0*(d-(lS x0).1)) 1000))/\((bA .i64 (kF x0 d))/\(if decide (kF x0 d>=x1)=true then(ds=([⟨.int .i64,d⟩]:Γ aS))else((bA .i64 (d+1))/\(Jn (k+1) (d+1) x1 x0 ds))))))):=λds=>by
   rw[Jn,π (by lia),eg];rfl
  rw[hr];have hv:bA .i64 (kF x0 d):=by
   unfold kF;rw[aK]
   lia
  refine⟨by grind [aK],by grind [aK],by grind [aK],hv,?_⟩;have ef:kR x0 x1 (k+1) d=if kF x0 d>=x1 then d else kR x0 x1 k (d+1):=rfl
  by_cases h:kF x0 d>=x1
  ·lia
  ·grind [aK]
def bCE(x0:Γ c7)(x1:Int)(hp:bCC x0 x1):∃n,aU5 n x0 x1 [⟨.int .i64,EV x0 x1⟩]:=by
 have hv:jG x0=true:=hp;have hl:=(vU hv).1;unfold EV;by_cases c:x0.length<2
 ·rw[π c];exact⟨1,by rw[aU5,π (by simp only[ε];omega)]⟩
 ·rw[ν c];obtain⟨p,e⟩:=aN2 hv (by omega);have hB:=(NF x0).2.2.2 hv (by omega);have hB':=hB;obtain⟨_,_,⟨a1,a2⟩,_⟩:=hB';have:=bCD (x1:=x1) hB e (36525-(lS x0).1).toNat (lS x0).1 (dO _) (by omega);refine⟨(36525-(lS x0).1).toNat+1+1,?_⟩;rw[aU5,ν (by simp only[ε];omega)];exact⟨by rw[aK];omega,by omega,by omega,p,this⟩
def bJX:KK:=mL bCA (DO aEo) bCC (EV,()) (λ⟨x0,x1,_⟩ h hwf K q =>
 let ⟨n,hn⟩:=bCE x0 x1 h
 (bCB _ K q n).1 hn)
def aU6(x0:Γ c7)(x1:Int)(x2:Int):Prop:=if !wF x0 then True else if !RB x1 then True else if !cJ x2 1 1000 then True else if(x0.length:Int)==0 then True else bA .i64 ((x0.length:Int)-1)/\0<=(x0.length:Int)-1/\(x0.length:Int)-1<(x0.length:Int)/\bA .i64 ((aD x0 (aE ((x0.length:Int)-1)) (0,0,0,())).1+x2)/\bCC x0 x1/\True
def Rd(x0:Γ c7)(x1:Int)(x2:Int):Int:=if !wF x0 then 0 else if !RB x1 then 0 else if !cJ x2 1 1000 then 0 else if(x0.length:Int)==0 then 0 else if decide (EV x0 x1>=0)then EE (EE 36524 ((aD x0 (aE ((x0.length:Int)-1)) (0,0,0,())).1+x2)) (EV x0 x1)else EE 36524 ((aD x0 (aE ((x0.length:Int)-1)) (0,0,0,())).1+x2)
def Xs(x0:Γ c7)(x1:Int)(x2:Int):Int:=if !wF x0 then 1 else if !RB x1 then 2 else if !cJ x2 1 1000 then 2 else if(x0.length:Int)==0 then 3 else if decide (EV x0 x1>=0)then 0 else 0
def bJY:KK:=mB Tryz.func132 [.v (.sl dX),.v (.int .i64),.v (.int .i64)] [.int .i64,.int .i64] [aTI,aW9,lT,aWz,bJX] aU6 (Rd,Xs,()) λ_=>bS<|dP pr<|bS<|dP (j0 pr)<|bS<|dP pr<|dP pr<|aO<|eE<|aO<|bS<|aO<|vD (bS pr) pr
def aU7(x0:Int):Prop:=if !My x0 then True else P91 x0/\True
def Xt(x0:Int):Δ:=if !My x0 then aA #[] else XJ x0
def bJZ:KK:=mB Tryz.func133 [.v (.int .i64)] [.str] [aPT,bIy] aU7 (Xt,()) λ_=>bS<|tH pr<|aO pr
end
def aJE(l:Γ c7):aNj l:=λh=>by
 obtain⟨h1,h2⟩:=vU h;refine⟨by lia,λf hf=>?_⟩;obtain⟨q1,q2,q3⟩:=h2 f hf;obtain⟨a,b,c,e,p,_⟩:=Kh q1;refine⟨p,aST _,aST _,λx hx=>?_⟩;unfold DT at hx;simp at hx;rcases hx with rfl | rfl | rfl
 ·rw[e,show (dT a b c).size=10 from rfl];lia
 all_goals grind [J1,aK]
def Few(ls:Γ Δ):Prop:=ls.length<=1000/\∀l∈ls,l.size<=50000000
def aG2{s:Δ}(h:s.size<=50000000):Few [s]:=⟨by simp,λl hl=>by grind⟩
theorem aG3:Few []:=⟨bG _,λl hl=>by grind⟩
theorem aU8(l:Γ Δ):Few (GQ l):=by
 unfold GQ;split
 ·exact aG3
 ·rename_i c;have c:=nb c;obtain⟨a,c⟩:=zS c;unfold GP at c;rw[WM,Bool.not_eq_true',List.any_eq_false]at c;refine⟨by lia,λs hs=>?_⟩;have q:¬(!Qt s)=true:=c s hs;unfold Qt at q
  lia
def aJG(l:Γ c7):Few (Al l):=by
 grind [Al,EC,aG3,aU8]
theorem aLp:∀(w:Γ (Γ UInt8)) (M:Nat),(∀x∈w,x.length<=M)->(iY [44] w).length<=w.length*(M+1)
 | [],M,_=>by simp[iY]
 | x::r,M,h=>by
  have:=aLp r M (λy hy=>h y (aM _ hy));have hx:=h x (aR ..);simp[iY]at this ⊢
  lia
def UA(l:Γ Int):(iF l).size<=50000000:=by
 unfold iF;split
 ·exact bG _
 ·rename_i c1;split
  ·exact bG _
  ·rename_i c2;split
   ·show 1<=50000000;lia
   ·unfold vE at c2;rw[VS,List.any_eq_true]at c2;have hv:∀x∈l,(dF x).data.toList.length<=21:=λx hx=>by
     have q:¬(!QY x)=true:=λq=>c2 ⟨x,hx,q⟩;have w:=wi (show bH x (-1000000000000) 1000000000000=true from nb q);have:=J1 (x:=x) (by grind [aK]);simp_all
    show (Lib.join (List.map (λx=>x.data.toList) (l.map dF)) [44]).toArray.size<=_;rw[List.size_toArray,oM];cases l with
    | nil=>grind
    | cons a r =>
     rw[dG,Lib.join_cons];have ha:=hv a (aR ..);have hr:=aLp (r.map (λx=>(dF x).data.toList)) 21 (λy hy=>by
      grind)
     rw[cM]at hr;simp at c1;rw[aU];show (dF a).data.toList.length+(iY [44] (r.map (λx=>(dF x).data.toList))).length<=_
     lia
def aU9{s:Δ}(h:sI s=true):s.size<=10:=by
 unfold sI at h
 lia
def aA5(l:Γ eR)(t:Γ Int):Few (Aj l t):=by
 unfold Aj;split
 ·rename_i c;have q:rB l=true/\jE t=true:=by
   unfold BO lL at c
   lia
  have t1:=(XD q.2).1;have key:∀(e:Γ Int) (k a:Nat),(vQ l t e k a).length<=k/\∀s∈vQ l t e k a,s.size<=50000000:=by
   intro e k
   induction k with
   | zero=>exact λa=>⟨aT _,λs hs=>by cases hs⟩
   | succ k ih =>
    intro a;unfold vQ;split
    ·refine⟨by grind,λs hs=>?_⟩;rcases aW.1 hs with rfl | hs
     ·rcases JN l (uS t a (e.getD a 0).toNat) l (false,(aC,0,0,0,())) (λf hf=>hf)with h | h
      ·show (Mk l _).2.1.size<=_;unfold Mk;simp_all
      ·have hn:=(aBM (NG q.1 _ h)).1;have:=aU9 hn;show (Mk l _).2.1.size<=_
       grind [Mk]
     grind
    simp
  obtain⟨k1,k2⟩:=key (vP l t).2 (t.length+1) 0;exact⟨by lia,k2⟩
 simp[aG3]
theorem aRo(x k:Δ)(hk:1<=k.size):(bJ x k).length=hY x k+1:=Lib.splitB_all k hk 0 (hY x k) x rfl
def aLq(x k:Δ)(i:Nat):((bJ x k).getD i aC).size<=x.size:=by
 by_cases c:i<(bJ x k).length
 ·exact sG k 0 _ _ _ (bY (bJ x k) i aC c)
 simp_all
theorem aLr{k:Δ}(hk:1<=k.size):(bJ (aA #[]) k).length=1:=by
 rw[aRo _ _ hk];have:=Lib.countB_le k hk 0 (aA #[]) (aT _);have e:(aA #[]).size=0:=rfl
 lia
def Ki(t s:Δ):(lQ t s).size<=t.size/\(gG t s).size<=t.size:=by
 obtain⟨l1,l2⟩:=aFu t.data.toList s.data.toList;have e:t.data.toList.length=t.size:=rfl;have a1:(lQ t s).size=(lF t.data.toList s.data.toList).1.length:=by
  rfl
 have a2:(gG t s).size=(lF t.data.toList s.data.toList).2.1.length:=by
  rfl
 lia
def bCF(x:Δ):(iK x).length=0\/(iK x).length=(bJ x (aA #[44])).length:=by
 unfold iK LM;split
 ·simp
 ·split
  ·exact .inr (by show (oW x).length=_;unfold oW;rw[cM];rfl)
  simp
theorem UB(k:Nat)(hk:2<=k):(iK (aA #[])).length≠k:=by
 rcases bCF (aA #[])with h | h
 ·lia
 ·rw[aLr (by decide)]at h;lia
theorem aCg(k:Δ):lQ (aA #[]) k=aA #[]/\gG (aA #[]) k=aA #[]:=by
 have hz:∀s:Δ,s.size<=0->s=aA #[]:=λs hs=>by
  obtain⟨⟨l⟩⟩:=s;cases l with
  | nil=>rfl
  | cons a r=>exact absurd hs (by show ¬(r.length+1<=0);lia)
 have h:=Ki (aA #[]) k;exact⟨hz _ h.1,hz _ h.2⟩
variable {x:Δ}
def Kj(h:x.size<=1048576)(k:Int):aTc x k:=by
 have:=(Ki x (aA #[32])).2;exact⟨show x.size<4294967281 by lia,show (gG x (aA #[32])).size<=1048576 by lia,trivial⟩
def aLs(h:x.size<=1048576):aTe x/\(xO x=true->oV (mC x)=true):=by
 unfold aTe xO mC;by_cases c:(!CD x 3)=true
 ·rw[π c];exact⟨⟨Kj h 3,trivial⟩,λh=>by lia⟩
 ·rw[ν c];have hl:((gO x 3).length:Int)=3:=by grind [CD,gO]
  have hs:=(Ki x (aA #[32])).1;generalize hb:(CC x 3,(gO x 3).getD 0 0,(gO x 3).getD 1 0,(gO x 3).getD 2 0,())=b;have hb1:b.1.size<=1048576:=by rw[<- hb];show (lQ x (aA #[32])).size<=_;lia
  have hp:aTd b:=by
   unfold aTd;have:=UA [b.2.1,b.2.2.1,b.2.2.2.1];rw[bD,show (aA #[32]).size=1 from rfl];lia
  refine⟨⟨Kj h 3,by lia,by lia,by lia,hp,trivial⟩,λe=>?_⟩;by_cases t:(!aB (MP b)==aB x)=true
  ·lia
  ·have t:=(bE _ _).1 (nb t);cases v:oV b
   ·unfold MP at t;rw[v]at t;subst t;have:(iK (gG (aA #[]) (aA #[32]))).length=3:=by
     have hl:(((iK (gG (aA #[]) (aA #[32]))).length:Nat):Int)=3:=hl
     lia
    grind [aCg,UB]
   lia
def aLt(h:x.size<=1048576):aTg x/\(xQ x=true->sJ (mD x)=true):=by
 unfold aTg xQ mD;by_cases c:(!CD x 3)=true
 ·rw[π c];exact⟨⟨Kj h 3,trivial⟩,λh=>by lia⟩
 ·rw[ν c];have hl:((gO x 3).length:Int)=3:=by grind [CD,gO]
  have hs:=(Ki x (aA #[32])).1;generalize hb:(CC x 3,(gO x 3).getD 0 0,(gO x 3).getD 1 0,(gO x 3).getD 2 0,())=b;have hb1:b.1.size<=1048576:=by rw[<- hb];show (lQ x (aA #[32])).size<=_;lia
  have hp:aTf b:=by
   unfold aTf;have:=UA [b.2.1,b.2.2.1,b.2.2.2.1];rw[bD,show (aA #[32]).size=1 from rfl];lia
  refine⟨⟨Kj h 3,by lia,by lia,by lia,hp,trivial⟩,λe=>?_⟩;by_cases t:(!aB (MQ b)==aB x)=true
  ·lia
  ·have t:=(bE _ _).1 (nb t);cases v:sJ b
   ·unfold MQ at t;rw[v]at t;subst t;have:(iK (gG (aA #[]) (aA #[32]))).length=3:=by
     have hl:(((iK (gG (aA #[]) (aA #[32]))).length:Nat):Int)=3:=hl
     lia
    grind [aCg,UB]
   lia
def TB(h:x.size<=1048576):aTh x:=by
 refine⟨⟨by lia,by decide⟩,F0 λc=>?_⟩;have:=aLq x (aA #[32]) 2;exact⟨by lia,by lia,show _<=281474976710656 by lia,by lia,trivial⟩
def aA6(h:x.size<=1048576):aY5 x/\(vG x=true->xI (lJ x)=true):=by
 refine⟨⟨TB h,trivial⟩,?_⟩;unfold vG lJ
 lia
def aLu(h:x.size<=1048576):aY5 x/\(vG x=true->xI (lJ x)=true):=by
 refine⟨⟨TB h,trivial⟩,?_⟩;unfold vG lJ
 lia
def aLv(h:x.size<=1048576):aTi x/\(zA x=true->xF (oX x)=true):=by
 unfold aTi zA oX;refine⟨⟨⟨h,trivial⟩,F0 λc=>?_⟩,λe=>?_⟩
 ·have hl:((cU x 3).length:Int)=3:=by grind [kQ,cU]
  lia
 lia
def aG4(h:x.size<=1048576):aTi x/\(Fy x=true->yK (Ih x)=true):=by
 unfold aTi Fy Ih;refine⟨⟨⟨h,trivial⟩,F0 λc=>?_⟩,λe=>?_⟩
 ·have hl:((cU x 3).length:Int)=3:=by grind [kQ,cU]
  lia
 lia
def aLw(h:x.size<=1048576):aTm x/\(Fx x=true->Bw (Ig x)=true):=by
 unfold aTm Fx Ig;refine⟨⟨⟨h,trivial⟩,F0 λc=>?_⟩,λe=>?_⟩
 ·have hl:((cU x 4).length:Int)=4:=by grind [kQ,cU]
  lia
 lia
def aG5(h:x.size<=1048576):aTm x/\(Fz x=true->xH (Ii x)=true):=by
 unfold aTm Fz Ii;refine⟨⟨⟨h,trivial⟩,F0 λc=>?_⟩,λe=>?_⟩
 ·have hl:((cU x 4).length:Int)=4:=by grind [kQ,cU]
  lia
 lia
def aA7(h:x.size<=1048576):aM0 x/\(vF x=true->qL (lI x)=true):=by
 have hs:=λi=>aLq x (aA #[32]) i;have hd:=λi=>aJq (x:=(bJ x (aA #[32])).getD i aC) (by grind);have hz:∀n,0<=n->n<=1440->(Do n).size=5:=λn h0 h1=>by
  obtain⟨k,rfl⟩:=Int.eq_ofNat_of_zero_le h0;have e:=Og (n:=k) (by lia);rw[e];rfl
 unfold aM0 vF lI;by_cases c:(((bJ x (aA #[32])).length:Int) != 3)=true
 ·rw[π c];exact⟨⟨⟨by lia,by decide⟩,trivial⟩,λh=>by lia⟩
 ·rw[ν c];have hl:((bJ x (aA #[32])).length:Int)=3:=by lia
  generalize hb:((bJ x (aA #[32])).getD 0 aC,qO ((bJ x (aA #[32])).getD 1 aC),qO ((bJ x (aA #[32])).getD 2 aC),())=b;have hb1:b.1.size<=1048576:=by grind
  have hp:aPl b:=by
   refine F0 λv=>?_;have m:=JZ (a:=b.1) (n:=b.2.1) (m:=b.2.2.1) (nb v);have z1:=hz b.2.1 m.1 m.2.1;have z2:=hz b.2.2.1 m.2.2.1 m.2.2.2;have i1:(aA #[32]).size=1:=rfl;simp only[bD];exact⟨by lia,Tr _,by lia,by lia,Tr _,by lia,trivial⟩
  refine⟨⟨⟨by lia,by decide⟩,by lia,by lia,hd 1,by lia,hd 2,hp,trivial⟩,λe=>?_⟩;by_cases t:(!aB (CF b)==aB x)=true
  ·lia
  ·have t:=(bE _ _).1 (nb t);cases v:qL b
   ·unfold CF at t;rw[v]at t;have t:aA #[]=x:=t;subst t;rw[aLr (by decide)]at hl
    lia
   lia
def aUA(h:x.size<=1048576):aF3 x/\(CH x=true->sK (qP x)=true):=by
 have hc:=Ki x (aA #[32]);have hd:aM2 (lQ x (aA #[32])):=aKS _ (by lia);unfold aF3 CH qP;by_cases c:(!uC (lQ x (aA #[32])))=true
 ·rw[π c];exact⟨⟨show x.size<4294967281 by lia,hd,⟨show (gG x (aA #[32])).size<=1048576 by lia,trivial⟩,trivial⟩,λh=>by lia⟩
 ·rw[ν c];by_cases c2:(!kQ (gG x (aA #[32])) 2)=true
  ·rw[π c2];exact⟨⟨show x.size<4294967281 by lia,hd,⟨show (gG x (aA #[32])).size<=1048576 by lia,trivial⟩,trivial⟩,λh=>by lia⟩
  ·rw[ν c2];have hl:((cU (gG x (aA #[32])) 2).length:Int)=2:=by simpa [kQ,cU] using nb c2
   generalize hb:(rJ (lQ x (aA #[32])),(cU (gG x (aA #[32])) 2).getD 0 0,(cU (gG x (aA #[32])) 2).getD 1 0,())=b;have hp:aPp b:=by
    have z:=UA [b.2.1,b.2.2.1];refine F0 λv=>?_;obtain⟨p,q,r,e,dp,_⟩:=Kh (Kg (nb v)).1;have i1:(aA #[32]).size=1:=rfl;have i2:(dT p q r).size=10:=rfl
    grind
   refine⟨⟨show x.size<4294967281 by lia,hd,⟨show (gG x (aA #[32])).size<=1048576 by lia,trivial⟩,by lia,by lia,hp,trivial⟩,λe=>?_⟩;by_cases t:(!aB (Dq b)==aB x)=true
   ·lia
   ·have t:=(bE _ _).1 (nb t);cases v:sK b
    ·unfold Dq at t;rw[v]at t;subst t;have:(iK (gG (aA #[]) (aA #[32]))).length=2:=by
      have hl:(((iK (gG (aA #[]) (aA #[32]))).length:Nat):Int)=2:=hl
      lia
     grind [aCg,UB]
    lia
theorem EW(a b:Δ):(GA a b<0↔Kl a b)/\(GA a b=0↔a=b):=by
 unfold GA Kl;simp[aUj];by_cases h:bK (aB a) (aB b)=true
 ·grind [K3]
 ·by_cases k:a=b
  ·lia
  ·have kk:(aB a==aB b)=false:=cG.2 λq=>k ((bE a b).1 q)
   lia
def UC(l:Γ eR):uP l=true↔((∀x∈l,oV x=true)/\l.Pairwise λa b=>Kl a.1 b.1)/\l.length<=12:=by
 unfold uP;rw[aV,ε];have key:=Ot oV (λa b:eR=>Kl a.1 b.1) (λa b:eR => !(bK (aB b.1) (aB a.1)||aB b.1==aB a.1)) (aC,(0:Int),(0:Int),(0:Int),()) (λa b=>by rw[EI];rfl) (λ_ _ _=>Kl.trans) l;rw[<- key];rfl
def aLx{l:Γ eR}(hv:uP l=true)(x:eR):Im l x 12/\vI l x 12=pL l x 12/\oZ l x 12=pC l x 12:=by
 obtain⟨⟨h1,h2⟩,h3⟩:=(UC l).1 hv;have hk:V4 l x (some 162)=(l.filter λy=>EK y.1 x.1).length:=XU h2 x (aC,(0:Int),(0:Int),(0:Int),()) _ λi _=>by
  unfold Ik;rw[ε];exact(EW _ _).1
 have q:=FE h2 x;have hg:nV l x (some 162)=(((l.filter λy=>EK y.1 x.1).length:Nat):Int):=by unfold nV;rw[hk]
 have hf:mE l x (some 162)=AS l x.1:=by
  unfold mE O0;rw[hk];by_cases c:(l.filter λy=>EK y.1 x.1).length<l.length
  ·rw[π c, <- q.has (aC,(0:Int),(0:Int),(0:Int),()) c];exact mK.2 (by rw[beq_iff_eq,ε];exact(EW _ _).2)
  ·rw[ν c,q.no c]
 have hi:aBs l (((l.filter λy=>EK y.1 x.1).length:Nat):Int) [x]=pR l x:=by
  show l.take (aE _)++([x]++l.drop (aE _))=_;rw[aI,q.tk,q.dr]<;>rfl
 have hl:=q.le;unfold Im vI oZ pL pC;rw[hf,hg,show Zv l=l from rfl,hi];refine⟨⟨⟨show l.length<=4611686018427387903 by omega,λy _=>⟨rfl,trivial⟩⟩,F0 λ_=>F0 λ_=>⟨show l.length<=1048576 by omega,⟨by omega,Ba.2 hl,rfl,show l.length<=1048576 by omega⟩,trivial⟩⟩,?_,?_⟩
 ·cases AS l x.1
  ·by_cases c:(l.length:Int)>=12
   ·rw[decide_eq_true c,π c]<;>rfl
   ·rw[decide_eq_false c,ν c]<;>rfl
  ·rfl
 ·cases AS l x.1
  ·by_cases c:(l.length:Int)>=12
   ·rw[decide_eq_true c,π c]<;>rfl
   ·rw[decide_eq_false c,ν c]<;>rfl
  ·rfl
def aG6{l:Γ eR}(hv:uP l=true)(x:eR):Im l x 12/\(oV x=true->oZ l x 12=0->uP (vI l x 12)=true):=by
 obtain⟨⟨h1,h2⟩,h3⟩:=(UC l).1 hv;obtain⟨p,e,_⟩:=aLx hv x;refine⟨p,λhx _=>?_⟩;rw[e];exact(UC _).2 ⟨⟨XV h1 hx,aGp h2⟩,by have:=XW l x 12 (by lia);lia⟩
def Kk(l:Γ b6):uQ l=true↔((∀x∈l,qL x=true)/\l.Pairwise λa b=>Kl a.1 b.1)/\l.length<=12:=by
 unfold uQ;rw[aV,ε];have key:=Ot qL (λa b:b6=>Kl a.1 b.1) (λa b:b6 => !(bK (aB b.1) (aB a.1)||aB b.1==aB a.1)) (aC,(0:Int),(0:Int),()) (λa b=>by rw[EI];rfl) (λ_ _ _=>Kl.trans) l;rw[<- key];rfl
variable {l:Γ b6}
def aA8(hv:uQ l=true)(x:b6):Ir l x 12/\vJ l x 12=pL l x 12/\o0 l x 12=pC l x 12:=by
 obtain⟨⟨h1,h2⟩,h3⟩:=(Kk l).1 hv;have hk:V7 l x (some 165)=(l.filter λy=>EK y.1 x.1).length:=XU h2 x (aC,(0:Int),(0:Int),()) _ λi _=>by
  unfold Ip;rw[ε];exact(EW _ _).1
 have q:=FE h2 x;have hg:nW l x (some 165)=(((l.filter λy=>EK y.1 x.1).length:Nat):Int):=by unfold nW;rw[hk]
 have hf:mF l x (some 165)=AS l x.1:=by
  unfold mF O1;rw[hk];by_cases c:(l.filter λy=>EK y.1 x.1).length<l.length
  ·rw[π c, <- q.has (aC,(0:Int),(0:Int),()) c];exact mK.2 (by rw[beq_iff_eq,ε];exact(EW _ _).2)
  ·rw[ν c,q.no c]
 have hi:aBt l (((l.filter λy=>EK y.1 x.1).length:Nat):Int) [x]=pR l x:=by
  show l.take (aE _)++([x]++l.drop (aE _))=_;rw[aI,q.tk,q.dr]<;>rfl
 have hl:=q.le;unfold Ir vJ o0 pL pC;rw[hf,hg,show Zw l=l from rfl,hi];refine⟨⟨⟨show l.length<=4611686018427387903 by omega,λy _=>⟨rfl,trivial⟩⟩,F0 λ_=>F0 λ_=>⟨show l.length<=1048576 by omega,⟨by omega,Ba.2 hl,rfl,show l.length<=1048576 by omega⟩,trivial⟩⟩,?_,?_⟩
 ·cases AS l x.1
  ·by_cases c:(l.length:Int)>=12
   ·rw[decide_eq_true c,π c]<;>rfl
   ·rw[decide_eq_false c,ν c]<;>rfl
  ·rfl
 ·cases AS l x.1
  ·by_cases c:(l.length:Int)>=12
   ·rw[decide_eq_true c,π c]<;>rfl
   ·rw[decide_eq_false c,ν c]<;>rfl
  ·rfl
def Xu(hv:uQ l=true)(x:b6):Ir l x 12/\(qL x=true->o0 l x 12=0->uQ (vJ l x 12)=true):=by
 obtain⟨⟨h1,h2⟩,h3⟩:=(Kk l).1 hv;obtain⟨p,e,_⟩:=aA8 hv x;refine⟨p,λhx _=>?_⟩;rw[e];exact(Kk _).2 ⟨⟨XV h1 hx,aGp h2⟩,by have:=XW l x 12 (by lia);lia⟩
def UD(l:Γ eR):rB l=true↔((∀x∈l,sJ x=true)/\l.Pairwise λa b=>Kl a.1 b.1)/\l.length<=8:=by
 unfold rB;rw[aV,ε];have key:=Ot sJ (λa b:eR=>Kl a.1 b.1) (λa b:eR => !(bK (aB b.1) (aB a.1)||aB b.1==aB a.1)) (aC,(0:Int),(0:Int),(0:Int),()) (λa b=>by rw[EI];rfl) (λ_ _ _=>Kl.trans) l;rw[<- key];rfl
def aLy{l:Γ eR}(hv:rB l=true)(x:eR):Iu l x 8/\vK l x 8=pL l x 8/\o3 l x 8=pC l x 8:=by
 obtain⟨⟨h1,h2⟩,h3⟩:=(UD l).1 hv;have hk:V4 l x (some 168)=(l.filter λy=>EK y.1 x.1).length:=XU h2 x (aC,(0:Int),(0:Int),(0:Int),()) _ λi _=>by
  unfold Ik;rw[ε];exact(EW _ _).1
 have q:=FE h2 x;have hg:nV l x (some 168)=(((l.filter λy=>EK y.1 x.1).length:Nat):Int):=by unfold nV;rw[hk]
 have hf:mE l x (some 168)=AS l x.1:=by
  unfold mE O0;rw[hk];by_cases c:(l.filter λy=>EK y.1 x.1).length<l.length
  ·rw[π c, <- q.has (aC,(0:Int),(0:Int),(0:Int),()) c];exact mK.2 (by rw[beq_iff_eq,ε];exact(EW _ _).2)
  ·rw[ν c,q.no c]
 have hi:aBs l (((l.filter λy=>EK y.1 x.1).length:Nat):Int) [x]=pR l x:=by
  show l.take (aE _)++([x]++l.drop (aE _))=_;rw[aI,q.tk,q.dr]<;>rfl
 have hl:=q.le;unfold Iu vK o3 pL pC;rw[hf,hg,show Zv l=l from rfl,hi];refine⟨⟨⟨show l.length<=4611686018427387903 by omega,λy _=>⟨rfl,trivial⟩⟩,F0 λ_=>F0 λ_=>⟨show l.length<=1048576 by omega,⟨by omega,Ba.2 hl,rfl,show l.length<=1048576 by omega⟩,trivial⟩⟩,?_,?_⟩
 ·cases AS l x.1
  ·by_cases c:(l.length:Int)>=8
   ·rw[decide_eq_true c,π c]<;>rfl
   ·rw[decide_eq_false c,ν c]<;>rfl
  ·rfl
 ·cases AS l x.1
  ·by_cases c:(l.length:Int)>=8
   ·rw[decide_eq_true c,π c]<;>rfl
   ·rw[decide_eq_false c,ν c]<;>rfl
  ·rfl
def aG7{l:Γ eR}(hv:rB l=true)(x:eR):Iu l x 8/\(sJ x=true->o3 l x 8=0->rB (vK l x 8)=true):=by
 obtain⟨⟨h1,h2⟩,h3⟩:=(UD l).1 hv;obtain⟨p,e,_⟩:=aLy hv x;refine⟨p,λhx _=>?_⟩;rw[e];exact(UD _).2 ⟨⟨XV h1 hx,aGp h2⟩,by have:=XW l x 8 (by lia);lia⟩
def Km(l:Γ b6):xJ l=true↔((∀x∈l,xI x=true)/\l.Pairwise λa b=>Kl a.1 b.1)/\l.length<=10:=by
 unfold xJ;rw[aV,ε];have key:=Ot xI (λa b:b6=>Kl a.1 b.1) (λa b:b6 => !(bK (aB b.1) (aB a.1)||aB b.1==aB a.1)) (aC,(0:Int),(0:Int),()) (λa b=>by rw[EI]<;>rfl) (λ_ _ _=>Kl.trans) l;rw[<- key]<;>rfl
def aA9(hv:xJ l=true)(x:b6):Ix l x 10/\vL l x 10=pL l x 10/\o4 l x 10=pC l x 10:=by
 obtain⟨⟨h1,h2⟩,h3⟩:=(Km l).1 hv;have hk:V7 l x (some 171)=(l.filter λy=>EK y.1 x.1).length:=XU h2 x (aC,(0:Int),(0:Int),()) _ λi _=>by
  unfold Ip;rw[ε];exact(EW _ _).1
 have q:=FE h2 x;have hg:nW l x (some 171)=(((l.filter λy=>EK y.1 x.1).length:Nat):Int):=by unfold nW;rw[hk]
 have hf:mF l x (some 171)=AS l x.1:=by
  unfold mF O1;rw[hk];by_cases c:(l.filter λy=>EK y.1 x.1).length<l.length
  ·rw[π c, <- q.has (aC,(0:Int),(0:Int),()) c];exact mK.2 (by rw[beq_iff_eq,ε];exact(EW _ _).2)
  ·rw[ν c,q.no c]
 have hi:aBt l (((l.filter λy=>EK y.1 x.1).length:Nat):Int) [x]=pR l x:=by
  show l.take (aE _)++([x]++l.drop (aE _))=_;rw[aI,q.tk,q.dr]<;>rfl
 have hl:=q.le;unfold Ix vL o4 pL pC;rw[hf,hg,show Zw l=l from rfl,hi];refine⟨⟨⟨show l.length<=4611686018427387903 by omega,λy _=>⟨rfl,trivial⟩⟩,F0 λ_=>F0 λ_=>⟨show l.length<=1048576 by omega,⟨by omega,Ba.2 hl,rfl,show l.length<=1048576 by omega⟩,trivial⟩⟩,?_,?_⟩
 ·cases AS l x.1
  ·by_cases c:(l.length:Int)>=10
   ·rw[decide_eq_true c,π c]<;>rfl
   ·rw[decide_eq_false c,ν c]<;>rfl
  ·rfl
 ·cases AS l x.1
  ·by_cases c:(l.length:Int)>=10
   ·rw[decide_eq_true c,π c]<;>rfl
   ·rw[decide_eq_false c,ν c]<;>rfl
  ·rfl
def Xv(hv:xJ l=true)(x:b6):Ix l x 10/\(xI x=true->o4 l x 10=0->xJ (vL l x 10)=true):=by
 obtain⟨⟨h1,h2⟩,h3⟩:=(Km l).1 hv;obtain⟨p,e,_⟩:=aA9 hv x;refine⟨p,λhx _=>?_⟩;rw[e];exact(Km _).2 ⟨⟨XV h1 hx,aGp h2⟩,by have:=XW l x 10 (by lia);lia⟩
def UE(l:Γ b6):xL l=true↔((∀x∈l,xI x=true)/\l.Pairwise λa b=>Kl a.1 b.1)/\l.length<=8:=by
 unfold xL;rw[aV,ε];have key:=Ot xI (λa b:b6=>Kl a.1 b.1) (λa b:b6 => !(bK (aB b.1) (aB a.1)||aB b.1==aB a.1)) (aC,(0:Int),(0:Int),()) (λa b=>by rw[EI]<;>rfl) (λ_ _ _=>Kl.trans) l;rw[<- key]<;>rfl
def aLz(hv:xL l=true)(x:b6):JA l x 8/\vM l x 8=pL l x 8/\o5 l x 8=pC l x 8:=by
 obtain⟨⟨h1,h2⟩,h3⟩:=(UE l).1 hv;have hk:V7 l x (some 174)=(l.filter λy=>EK y.1 x.1).length:=XU h2 x (aC,(0:Int),(0:Int),()) _ λi _=>by
  unfold Ip;rw[ε];exact(EW _ _).1
 have q:=FE h2 x;have hg:nW l x (some 174)=(((l.filter λy=>EK y.1 x.1).length:Nat):Int):=by unfold nW;rw[hk]
 have hf:mF l x (some 174)=AS l x.1:=by
  unfold mF O1;rw[hk];by_cases c:(l.filter λy=>EK y.1 x.1).length<l.length
  ·rw[π c, <- q.has (aC,(0:Int),(0:Int),()) c];exact mK.2 (by rw[beq_iff_eq,ε];exact(EW _ _).2)
  ·rw[ν c,q.no c]
 have hi:aBt l (((l.filter λy=>EK y.1 x.1).length:Nat):Int) [x]=pR l x:=by
  show l.take (aE _)++([x]++l.drop (aE _))=_;rw[aI,q.tk,q.dr]<;>rfl
 have hl:=q.le;unfold JA vM o5 pL pC;rw[hf,hg,show Zw l=l from rfl,hi];refine⟨⟨⟨show l.length<=4611686018427387903 by omega,λy _=>⟨rfl,trivial⟩⟩,F0 λ_=>F0 λ_=>⟨show l.length<=1048576 by omega,⟨by omega,Ba.2 hl,rfl,show l.length<=1048576 by omega⟩,trivial⟩⟩,?_,?_⟩
 ·cases AS l x.1
  ·by_cases c:(l.length:Int)>=8
   ·rw[decide_eq_true c,π c]<;>rfl
   ·rw[decide_eq_false c,ν c]<;>rfl
  ·rfl
 ·cases AS l x.1
  ·by_cases c:(l.length:Int)>=8
   ·rw[decide_eq_true c,π c]<;>rfl
   ·rw[decide_eq_false c,ν c]<;>rfl
  ·rfl
def aG8(hv:xL l=true)(x:b6):JA l x 8/\(xI x=true->o5 l x 8=0->xL (vM l x 8)=true):=by
 obtain⟨⟨h1,h2⟩,h3⟩:=(UE l).1 hv;obtain⟨p,e,_⟩:=aLz hv x;refine⟨p,λhx _=>?_⟩;rw[e];exact(UE _).2 ⟨⟨XV h1 hx,aGp h2⟩,by have:=XW l x 8 (by lia);lia⟩
theorem aRp:∀a b c d e f g h i j k l:Bool,(if a=true then(if b=true then(if c=true then(if d=true then(if f=true then(if g=true then(if h=true then(if e=true then(if i=true then(if j=true then(if k=true then l else false)else false)else false)else false)else(if e=true then false else false))else(if e=true then false else false))else(if e=true then false else false))else(if f=true then(if g=true then(if h=true then false else false)else false)else false))else(if f=true then(if g=true then(if h=true then false else false)else false)else false))else(if f=true then(if g=true then(if h=true then false else false)else false)else false))else(if f=true then(if g=true then(if h=true then false else false)else false)else false))=(a&&(b&&(c&&(d&&(e&&(f&&(g&&(h&&(i&&(j&&(k&&l))))))))))):=by
 lia
def Vd(d:bV):Prop:=uP d.1=true/\Bw d.2.1=true/\BA d.2.2.1=true/\xG d.2.2.2.1=true/\yK d.2.2.2.2.1=true/\lA d.2.2.2.2.2.1=true/\uQ d.2.2.2.2.2.2.1=true/\xH d.2.2.2.2.2.2.2.1=true/\rB d.2.2.2.2.2.2.2.2.1=true/\jG d.2.2.2.2.2.2.2.2.2.1=true/\xJ d.2.2.2.2.2.2.2.2.2.2.1=true/\xL d.2.2.2.2.2.2.2.2.2.2.2.1=true
theorem Xw(d:bV):Bz d=true↔Vd d:=by
 have h:Bz d=_:=aRp (uP d.1) (Bw d.2.1) (BA d.2.2.1) (xG d.2.2.2.1) (yK d.2.2.2.2.1) (lA d.2.2.2.2.2.1) (uQ d.2.2.2.2.2.2.1) (xH d.2.2.2.2.2.2.2.1) (rB d.2.2.2.2.2.2.2.2.1) (jG d.2.2.2.2.2.2.2.2.2.1) (xJ d.2.2.2.2.2.2.2.2.2.2.1) (xL d.2.2.2.2.2.2.2.2.2.2.2.1);rw[h];simp;rfl
theorem rC{b:Bool}{A B:Prop}(h1:b=true->A)(h2:b=false->B):if b=true then A else B:=by
 lia
theorem aRq{d:bV}(hd:Vd d)(c:Δ×Δ×Γ Int×Γ Int×Unit)(hc:c.2.1.size<=1048576):P77 d c:=by
 obtain⟨v1,v2,v3,v4,v5,v6,v7,v8,v9,v10,v11,v12⟩:=hd;have hh:=(wH v3).1;have ht:=(vU v10).1;exact rC (λ_=>⟨(aLs hc).1,(aG6 v1 _).1,trivial⟩) λ_=>rC (λ_=>⟨(aA7 hc).1,(Xu v7 _).1,trivial⟩) λ_=>rC (λ_=>⟨(aLt hc).1,(aG7 v9 _).1,trivial⟩) λ_ =>
  rC (λ_=>⟨(aA6 hc).1,(Xv v11 _).1,trivial⟩) λ_=>rC (λ_=>⟨(aLu hc).1,(aG8 v12 _).1,trivial⟩) λ_=>rC (λ_=>⟨(aLv hc).1,aQm (by lia) _ _,trivial⟩) λ_ =>
  rC (λ_=>⟨(aUA hc).1,aQo (by lia) _,trivial⟩) λ_=>rC (λ_=>⟨(aLw hc).1,trivial⟩) λ_=>rC (λ_=>⟨(aG4 hc).1,trivial⟩) λ_=>⟨(aG5 hc).1,trivial⟩
def aUB{l:Γ c7}(hl:BA l=true){x:c7}(hx:xF x=true)(hc:Dp l x 48=0):BA (MT l x 48)=true:=by
 obtain⟨h1,h2⟩:=wH hl;unfold Dp at hc;unfold MT;split at hc
 ·lia
 ·rename_i c;rw[ν c];refine aQ3 (l:=l++[x]) (by grind) λy hy=>?_
  grind
def aUC{l:Γ c7}(hl:xG l=true){x:c7}(hx:qK x=true)(hc:Dp l x 8=0):xG (MT l x 8)=true:=by
 obtain⟨h1,h2⟩:=sW hl;unfold Dp at hc;unfold MT;split at hc
 ·lia
 ·rename_i c;rw[ν c];refine aNx (l:=l++[x]) (by grind) λy hy=>?_
  grind
def aUD{l:Γ c7}{x:c7}(hc:Dr l x=0):jG (If l x)=true:=by
 unfold Dr at hc;unfold If;split at hc
 ·lia
 ·rename_i c1;split at hc
  ·lia
  ·rename_i c2;split at hc
   ·lia
   ·rename_i c3;split at hc
    ·lia
    ·rename_i c4;rw[ν c1,ν c2,ν c3,ν c4];show jG (l++[x])=true;unfold jG;rw[π (show Dn (l++[x])=true from nb c3),aU,bP]
     lia
theorem Ky{b:Bool}{α β γ:Type}{A1 A2:α}{B1 B2:β}{C1 C2:γ}{Q:α->β->γ->Prop}(h1:b=true->Q A1 B1 C1)(h2:b=false->Q A2 B2 C2):Q (if b=true then A1 else A2) (if b=true then B1 else B2) (if b=true then C1 else C2):=by
 lia
def KQ(o:Bool)(k:Int)(y:bV):Prop:=o=true->k=0->Vd y
theorem aUE{d:bV}(hd:Vd d)(c:Δ×Δ×Γ Int×Γ Int×Unit)(hc:c.2.1.size<=1048576):DI d c=true->DJ d c=0->Vd (DK d c):=by
 obtain⟨v1,v2,v3,v4,v5,v6,v7,v8,v9,v10,v11,v12⟩:=hd;show KQ (DI d c) (DJ d c) (DK d c);exact Ky (λ_ o k=>⟨(aG6 v1 _).2 ((aLs hc).2 o) k,v2,v3,v4,v5,v6,v7,v8,v9,v10,v11,v12⟩) λ_ =>
  Ky (λ_ o k=>⟨v1,v2,v3,v4,v5,v6,(Xu v7 _).2 ((aA7 hc).2 o) k,v8,v9,v10,v11,v12⟩) λ_ =>
  Ky (λ_ o k=>⟨v1,v2,v3,v4,v5,v6,v7,v8,(aG7 v9 _).2 ((aLt hc).2 o) k,v10,v11,v12⟩) λ_ =>
  Ky (λ_ o k=>⟨v1,v2,v3,v4,v5,v6,v7,v8,v9,v10,(Xv v11 _).2 ((aA6 hc).2 o) k,v12⟩) λ_ =>
  Ky (λ_ o k=>⟨v1,v2,v3,v4,v5,v6,v7,v8,v9,v10,v11,(aG8 v12 _).2 ((aLu hc).2 o) k⟩) λ_ =>
  Ky (λ_ o k=>⟨v1,v2,aUB v3 ((aLv hc).2 o) k,v4,v5,v6,v7,v8,v9,v10,v11,v12⟩) λ_ =>
  Ky (λ_ o k=>⟨v1,v2,v3,v4,v5,v6,v7,v8,v9,aUD k,v11,v12⟩) λ_ =>
  Ky (λ_ o k=>⟨v1,(aLw hc).2 o,v3,v4,v5,v6,v7,v8,v9,v10,v11,v12⟩) λ_ =>
  Ky (λ_ o k=>⟨v1,v2,v3,v4,(aG4 hc).2 o,v6,v7,v8,v9,v10,v11,v12⟩) λ_ =>
  λo k=>⟨v1,v2,v3,v4,v5,v6,v7,(aG5 hc).2 o,v9,v10,v11,v12⟩
end Go.Proofs.YtgfpjekjhnkbfaaGreatDoor
