/- The functions that this law reaches, and their laws. -/
import Derived.Test.YtmhpnodnljbnjaaGreatDoorZ3C
import Derived.Deep.RegionLaw
import Derived.Lib.TrimByte
set_option linter.unusedVariables false
set_option linter.unusedSimpArgs false
open BitVec renaming ofInt->dX,toNat->j3
open ByteArray renaming empty->aC,mk->aA,size->aH,toList->aB
open Go.Act renaming eval->SK,put->Gz
open Go.Am.AT renaming own->tW,v->nV
open Go.Am.hY renaming mk->fY
open Go.Am.dD renaming optr->HY,osl->oF,ptr->pM,st->pE
open Go.Am.aY renaming mk->aP
open Go.Am.PV renaming fn->nU,tup->gO
open Go.Am.Ty renaming cons->kR,fn->aU,int->lF,sl->p6,str->kE,unit->HM
open Go.IntKind renaming i64->cN,u64->cL,wrap->bD,wrap_i64->rN
open Go.Lib renaming repeatL->uI,wpList_append_run->vR
open Go.Proofs.Tryz renaming func192->EH,func203->zI,func208->zJ,func212->zK,func216->zL,func219->zM,func273->EG,func317->XS,func353->XR,ntmps203->CL,ntmps208->CM,ntmps212->CN,ntmps216->CO,ntmps219->CP,prog->aL,underlying3->eG
open Int renaming fdiv->cQ,fdiv_eq_ediv_of_nonneg->fG,le_refl->gA,tdiv->bM,tdiv_eq_ediv_of_nonneg->gF,tmod->c8,toNat->aE,toNat_natCast->aF
open List renaming append_assoc->bS,append_nil->c6,drop->dE,drop_eq_nil_of_le->dS,foldl_cons->dY,getD->aD,getD_eq_getElem?_getD->bL,getElem?_eq_getElem->bC,length->aN,length_append->aO,length_cons->bA,length_set->sV,length_singleton->cP,length_take->cJ,mem_cons->aR,mem_cons_of_mem->aM,mem_cons_self->aQ,replicate->b6,set->vA,take->dH,take_add_one->gY
open Min renaming min->sX
open Nat renaming add_zero->lE,le_refl->aT,zero_add->cV,zero_le->bW
set_option maxRecDepth 100000
namespace Go.Proofs.YtmhpnodnljbnjaaGreatDoor
open Go Go.Am Go.Proofs
def aZ5:List AT:=[nV (p6 fP)]
def Yw (x0:List bX):List bX:=x0
def P79 (x0:List bX):Prop:=x0.length<=1048576
def S79:Am.Spec:={ sig:=aZ5,pre:=λ⟨x0,_⟩=>P79 x0,res:=λ⟨x0,_⟩=>[⟨p6 fP,Yw x0⟩] }
theorem aQd:c7 79 S79:=yB Tryz.func79<|o6 (vO 36) rfl rfl (by decide) (by decide) uY.2.2.2.1 rG.2.2.2.1
def aZ6:List AT:=[nV (p6 gT)]
def Yx (x0:List dG):List dG:=x0
def P80 (x0:List dG):Prop:=x0.length<=1048576
def S80:Am.Spec:={ sig:=aZ6,pre:=λ⟨x0,_⟩=>P80 x0,res:=λ⟨x0,_⟩=>[⟨p6 gT,Yx x0⟩] }
theorem aQe:c7 80 S80:=yB Tryz.func80<|o6 (vO 39) rfl rfl (by decide) (by decide) uY.2.2.2.2.1 rG.2.2.2.2.1
def aZ7:List AT:=[nV (p6 fL)]
def QN (x0:List cU):List cU:=x0
def P81 (x0:List cU):Prop:=x0.length<=1048576
def S81:Am.Spec:={ sig:=aZ7,pre:=λ⟨x0,_⟩=>P81 x0,res:=λ⟨x0,_⟩=>[⟨p6 fL,QN x0⟩] }
theorem aQf:c7 81 S81:=yB Tryz.func81<|o6 (vO 40) rfl rfl (by decide) (by decide) uY.2.2.2.2.2.1 rG.2.2.2.2.2.1
def aZ8:List AT:=[nV (p6 fP)]
def Yy (x0:List bX):List bX:=x0
def P82 (x0:List bX):Prop:=x0.length<=1048576
def S82:Am.Spec:={ sig:=aZ8,pre:=λ⟨x0,_⟩=>P82 x0,res:=λ⟨x0,_⟩=>[⟨p6 fP,Yy x0⟩] }
theorem aQg:c7 82 S82:=yB Tryz.func82<|o6 (vO 41) rfl rfl (by decide) (by decide) uY.2.2.2.2.2.2.1 rG.2.2.2.2.2.2.1
def aZ9:List AT:=[nV (p6 fP)]
def Yz (x0:List bX):List bX:=x0
def P83 (x0:List bX):Prop:=x0.length<=1048576
def S83:Am.Spec:={ sig:=aZ9,pre:=λ⟨x0,_⟩=>P83 x0,res:=λ⟨x0,_⟩=>[⟨p6 fP,Yz x0⟩] }
theorem aQh:c7 83 S83:=yB Tryz.func83<|o6 (vO 42) rfl rfl (by decide) (by decide) uY.2.2.2.2.2.2.2.1 rG.2.2.2.2.2.2.2.1
noncomputable section
noncomputable def d21:dB:=⟨21,Tryz.f21,[.v vP],[.cons (.sl gT) YA1],[],[(76,S76),(77,S77),(78,S78),(79,S79),(80,S80),(81,S81),(82,S82),(83,S83)],true,[]⟩
theorem o21:FO d21:=mo Tryz.func21 ⟨aQa,aQb,aQc,aQd,aQe,aQf,aQg,aQh,trivial⟩
def P21 (x0:fV):Prop:=((P76 x0.1)/\((P77 x0.2.2.1)/\((P78 x0.2.2.2.1)/\((P79 x0.2.2.2.2.2.2.1)/\((P80 x0.2.2.2.2.2.2.2.2.1)/\((P81 x0.2.2.2.2.2.2.2.2.2.1)/\((P82 x0.2.2.2.2.2.2.2.2.2.2.1)/\((P83 x0.2.2.2.2.2.2.2.2.2.2.2.1)/\True))))))))
def jE (x0:fV):fV:=(Yt x0.1,(x0.2.1.1,x0.2.1.2.1,x0.2.1.2.2.1,x0.2.1.2.2.2.1,()),Yu x0.2.2.1,Yv x0.2.2.2.1,(x0.2.2.2.2.1.1,x0.2.2.2.2.1.2.1,x0.2.2.2.2.1.2.2.1,()),(x0.2.2.2.2.2.1.1,x0.2.2.2.2.2.1.2.1,x0.2.2.2.2.2.1.2.2.1,()),Yw x0.2.2.2.2.2.2.1,(x0.2.2.2.2.2.2.2.1.1,x0.2.2.2.2.2.2.2.1.2.1,x0.2.2.2.2.2.2.2.1.2.2.1,x0.2.2.2.2.2.2.2.1.2.2.2.1,()),Yx x0.2.2.2.2.2.2.2.2.1,QN x0.2.2.2.2.2.2.2.2.2.1,Yy x0.2.2.2.2.2.2.2.2.2.2.1,Yz x0.2.2.2.2.2.2.2.2.2.2.2.1,())
def S21:=dR d21 (λ⟨x0,_⟩=>P21 x0) λ⟨x0,_⟩=>[⟨.cons (.sl gT) YA1,jE x0⟩]
theorem aZA:c7 21 S21:=dF o21 λ⟨x0,_⟩ h _ K q=>c1 h λh=>c1 h λh=>c1 h λh=>c1 h λh=>c1 h λh=>c1 h λh=>c1 h λh=>c1 h λh=>rt
noncomputable def aZB:dB:=⟨198,Tryz.f198,[.v (.str),.v (.int .i64)],[.str,.sl (.int .i64),.bool],[],[(72,S72),(74,S74)],false,[]⟩
theorem bI2:FO aZB:=mo Tryz.func198 ⟨aFb,aJx,trivial⟩
def aN7 (x0:ByteArray) (x1:Int):Prop:=((P72 x0 (aA #[32]))/\((P74 (iR x0 (aA #[32])))/\True))
def AU (x0:ByteArray) (x1:Int):ByteArray:=pI x0 (aA #[32])
def gE (x0:ByteArray) (x1:Int):List Int:=uX (iR x0 (aA #[32]))
def AV (x0:ByteArray) (x1:Int):Bool:=(↑(aN (uX (iR x0 (aA #[32])))):Int)==x1
def aSb:=dR aZB (λ⟨x0,x1,_⟩=>aN7 x0 x1) λ⟨x0,x1,_⟩=>[⟨.str,AU x0 x1⟩,⟨.sl (.int .i64),gE x0 x1⟩,⟨.bool,AV x0 x1⟩]
theorem aJ5:c7 198 aSb:=dF bI2 λ⟨x0,x1,_⟩ h _ K q=>c1 h λh=>c1 h λh=>rt
noncomputable def aZC:dB:=⟨199,Tryz.f199,[.v gT],[.str],[],[(107,aRt),(127,aG0)],false,[]⟩
theorem bI3:FO aZC:=mo Tryz.func199 ⟨aIF,QJ,trivial⟩
def aN8 (x0:ByteArray×Int×Int×Int×Unit):Prop:=(if (!pR x0)=true then True else ((aH x0.1+1<=9223372036854775807)/\((aH (x0.1++aA #[32])+aH (n9 [x0.2.1,x0.2.2.1,x0.2.2.2.1])<=9223372036854775807)/\True)))
def QO (x0:ByteArray×Int×Int×Int×Unit):ByteArray:=(if (!pR x0)=true then aA #[] else x0.1++aA #[32]++n9 [x0.2.1,x0.2.2.1,x0.2.2.2.1])
def aZD:=dR aZC (λ⟨x0,_⟩=>aN8 x0) λ⟨x0,_⟩=>[⟨.str,QO x0⟩]
theorem aSc:c7 199 aZD:=dF bI3 λ⟨x0,_⟩ h _ K q=>tv<|N1 h (λh=>rt) λh=>c1 h λh=>tv<|c1 h λh=>rt
noncomputable def aZE:dB:=⟨130,Tryz.f130,[.v (.str)],[.cons .str fL,.bool],[],[(198,aSb),(199,aZD)],false,[]⟩
theorem bI4:FO aZE:=mo Tryz.func130 ⟨aJ5,aSc,trivial⟩
def aN9 (x0:ByteArray):Prop:=((aN7 x0 3)/\(if (!AV x0 3)=true then True else ((0<(↑(aN (gE x0 3)):Int))/\((1<(↑(aN (gE x0 3)):Int))/\((2<(↑(aN (gE x0 3)):Int))/\((aN8 (AU x0 3,aD (gE x0 3) 0 0,aD (gE x0 3) 1 0,aD (gE x0 3) 2 0,()))/\True))))))
def rW (x0:ByteArray):ByteArray×Int×Int×Int×Unit:=(if (!AV x0 3)=true then (aC,0,0,0,()) else (if (!aB (QO (AU x0 3,aD (gE x0 3) 0 0,aD (gE x0 3) 1 0,aD (gE x0 3) 2 0,()))==aB x0)=true then (aC,0,0,0,()) else (AU x0 3,aD (gE x0 3) 0 0,aD (gE x0 3) 1 0,aD (gE x0 3) 2 0,())))
def F1 (x0:ByteArray):Bool:=(if (!AV x0 3)=true then false else (if (!aB (QO (AU x0 3,aD (gE x0 3) 0 0,aD (gE x0 3) 1 0,aD (gE x0 3) 2 0,()))==aB x0)=true then false else true))
def aZF:=dR aZE (λ⟨x0,_⟩=>aN9 x0) λ⟨x0,_⟩=>[⟨.cons .str fL,rW x0⟩,⟨.bool,F1 x0⟩]
theorem aSd:c7 130 aZF:=dF bI4 λ⟨x0,_⟩ h _ K q=>c1 h λh=>o3 h (λh=>rt) λh=>tP ((by decide):(0:Int)<=(0:Int))<|c1 h λh=>tP ((by decide):(0:Int)<=(1:Int))<|c1 h λh=>tP ((by decide):(0:Int)<=(2:Int))<|c1 h λh=>c1 h λh=>e2 (rt) (rt)
noncomputable def aNA:dB:=⟨290,Tryz.f290,[.v (.str)],[.int .i64],[],[],false,[]⟩
theorem bI5:FO aNA:=mo Tryz.func290 trivial
def aSe (v3:Int) (v17:Int) (x0:ByteArray):eD×bG:=([eI 3 v3,eW 15 0,eI 16 (↑(aN (cY x0)):Int),eI 17 v17],[jB (.int .u8) (cY x0)])
mutual
def aSf:Nat->ByteArray->List aY->Prop
 | 0,_,_=>False
 | n+1,x0,ds=>(if (decide ((↑(aH x0):Int)<1))=true then (ds=[aP (.int .i64) (-1)]) else (if (decide ((↑(aH x0):Int)>12))=true then (ds=[aP (.int .i64) (-1)]) else (MT n (0) (0) (x0) ds)))
def MT:Nat->Int->Int->ByteArray->List aY->Prop
 | 0,_,_,_,_=>False
 | n+1,v3,v17,x0,ds=>(if (decide (v17<(↑(aN (cY x0)):Int)))=true then ((0<=v17)/\(v17<(↑(aN (cY x0)):Int))/\(if (decide (aD (cY x0) (aE v17) 0<48))=true then (ds=[aP (.int .i64) (-1)]) else (if (decide (aD (cY x0) (aE v17) 0>57))=true then (ds=[aP (.int .i64) (-1)]) else ((cC .i64 (10*v3))/\((cC .u8 (aD (cY x0) (aE v17) 0 - 48))/\((cC .i64 (aD (cY x0) (aE v17) 0 - 48))/\((cC .i64 (10*v3+(aD (cY x0) (aE v17) 0 - 48)))/\((cC .i64 (v17+1))/\(MT n (10*v3+(aD (cY x0) (aE v17) 0 - 48)) (v17+1) (x0) ds))))))))) else (ds=[aP (.int .i64) v3]))
end
theorem aSg (ds:List aY) (K:jK) (q:Nat->Value):∀ n,(∀ {x0},aSf n x0 ds->St aNA (x0,()) ds [] K q)/\(∀ {v3 v17 x0},MT n v3 v17 x0 ds->Cu aNA 5 (aSe v3 v17 x0) ds [] K q):=by
 intro n
 induction n with
 | zero=>exact ⟨λh=>h.elim,λh=>h.elim⟩
 | succ n ih =>
 obtain ⟨i,i5⟩:=ih;exact ⟨λh=>bR h (λh=>tT<|rh h) λh=>bR h (λh=>rh h) λh=>jp (i5 h),
  λh=>bR h (λh=>c2 h λh=>bR h (λh=>tT<|rh h) λh=>bR h (λh=>rh h) λh=>c1 h λh=>c1 h λh=>c1 h λh=>c1 h λh=>c1 h λh=>jp (i5 h)) λh=>rh h⟩
def AW:List UInt8->Int->Int
 | [],n=>n
 | b :: r,n=>if decide (48<=b.toNat)&&decide (b.toNat<=57) then AW r (10*n+((b.toNat:Int) - 48)) else -1
def eX (x0:ByteArray):Int:=if x0.size<1\/12<x0.size then -1 else AW x0.data.toList 0
def bI6 (x0:ByteArray):Prop:=True
theorem aSh (x0:ByteArray) (hs:x0.size<=12):∀ (k i m:Nat),i+k=x0.size->m<10 ^ i ->
  MT (k+1) (m:Int) (i:Int) x0 [⟨.int .i64,AW (x0.data.toList.drop i) (m:Int)⟩]:=by
 intro k;have hll:x0.data.toList.length=x0.size:=rfl;have hbl:(cY x0).length=x0.size:=by unfold cY;rw [List.length_map];rfl
 induction k with
 | zero =>
  intro i m hi hm;rw [MT,if_neg (by rw [hbl];simp;omega),List.drop_of_length_le (by omega)];rfl
 | succ k ih =>
  intro i m hi hm;have hlt:i<x0.data.toList.length:=by rw [hll];omega
  have hcons:x0.data.toList.drop i=x0.data.toList.getD i 0 :: x0.data.toList.drop (i+1):=eH _ i 0 hlt;have hbyte:(cY x0).getD i 0=((x0.data.toList.getD i 0).toNat:Int):=by
   unfold cY;rw [bL,bL,List.getElem?_map,bC hlt];rfl
  rw [MT,if_pos (by rw [hbl];simp;omega),hcons];simp only [aF,hbyte,hbl];generalize x0.data.toList.getD i 0=b at *;refine ⟨by omega,by omega,?_⟩;unfold AW;by_cases h1:b.toNat<48
  ·have h1':(b.toNat:Int)<48:=by omega
   have h1'':¬ 48<=b.toNat:=by omega
   simp [h1',h1'']
  ·have h1':¬ (b.toNat:Int)<48:=by omega
   have h1'':48<=b.toNat:=by omega
   by_cases h2:b.toNat>57
   ·have h2':(b.toNat:Int)>57:=by omega
    have h2'':¬ b.toNat<=57:=by omega
    simp [h1',h2',h2'']
   ·have h2':¬ (b.toNat:Int)>57:=by omega
    have h2'':b.toNat<=57:=by omega
    have hp:10 ^ i<=10 ^ 11:=Nat.pow_le_pow_right (by decide) (by omega);have hm2:m<100000000000:=Nat.lt_of_lt_of_le hm hp;simp only [h1',h1'',h2',h2'',decide_true,decide_false,Bool.and_self,Bool.false_eq_true,if_false,if_true];refine ⟨by rw [aK];omega,by rw [Pk];omega,by rw [aK];omega,by rw [aK];omega,by rw [aK];omega,?_⟩;have e1:10*(m:Int)+((b.toNat:Int) - 48)=((10*m+(b.toNat - 48):Nat):Int):=by omega
    have e2:(i:Int)+1=((i+1:Nat):Int):=by omega
    rw [e1,e2];exact ih (i+1) (10*m+(b.toNat - 48)) (by omega) (by rw [Nat.pow_succ];omega)
theorem aSi (x0:ByteArray):aSf (x0.size+1+1) x0 [⟨.int .i64,eX x0⟩]:=by
 rw [aSf];unfold eX;by_cases h1:x0.size<1
 ·rw [if_pos (by simp;omega),if_pos (.inl h1)]
 ·rw [if_neg (by simp;omega)];by_cases h2:12<x0.size
  ·rw [if_pos (by simp;omega),if_pos (.inr h2)]
  ·rw [if_neg (by simp;omega),if_neg (by omega)];exact aSh x0 (by omega) x0.size 0 0 (by omega) (by decide)
def aSj:=dR aNA (λ⟨x0,_⟩=>bI6 x0) λ⟨x0,_⟩=>[⟨.int .i64,eX x0⟩]
theorem aJ6:c7 290 aSj:=dF bI5 (λ⟨x0,_⟩ h hwf K q =>
 (aSg _ K q _).1 (aSi x0))
end
def aSk:List AT:=[nV kE,nV (lF .i64)]
def F2 (x0:ByteArray) (x1:Int):ByteArray:=⟨(uI x0.data.toList x1.toNat).toArray⟩
def aSl (x0:ByteArray) (x1:Int):Prop:=0<=x1/\(x0.size:Int)*x1<=140737488355328
def aSm:Am.Spec:={ sig:=aSk,pre:=λ⟨x0,x1,_⟩=>aSl x0 x1,res:=λ⟨x0,x1,_⟩=>[⟨kE,F2 x0 x1⟩] }
theorem aJ7:c7 322 aSm:=yB Tryz.func322<|lL rfl λw ⟨x0,x1,_⟩ vs bss hg hp hw ha=>by
 obtain ⟨v0,s0,_,_,rfl,_,⟨_,rfl,_⟩,v1,s1,_,_,rfl,_,⟨_,rfl,_⟩,rfl,_⟩:=ha;obtain ⟨h0,h1⟩:=hp;obtain ⟨c,rfl⟩:∃ c:Nat,x1=(c:Int):=Int.eq_ofNat_of_zero_le h0;have hi:cC .i64 (c:Int):=hw.2.1;rw [aK] at hi;have hm:x0.size*c<=140737488355328:=by
  have:((x0.size*c:Nat):Int)=(x0.size:Int)*(c:Int):=Int.natCast_mul _ _;omega
 refine ⟨λd hd => ?_,?_⟩
 ·rw [List.mem_singleton.1 hd];refine ⟨rfl,?_⟩;show (aA (uI x0.data.toList c).toArray).size<=maxLen;have:(aA (uI x0.data.toList c).toArray).size=c*x0.data.toList.length:=by
   show (uI x0.data.toList c).toArray.size=_;rw [List.size_toArray,Lib.repeatL_length]
  rw [this,Nat.mul_comm];have e:x0.data.toList.length=x0.size:=rfl;rw [e];unfold maxLen;omega
 ·refine (Tryz.strings_Repeat x0 c w (by omega) hm).mono ?_;rintro e w' ⟨rfl,hb⟩;exact ⟨rfl,cE.of_below hb⟩
noncomputable section
noncomputable def aZG:dB:=⟨241,Tryz.f241,[.v (.int .i64),.v (.int .i64)],[.str],[],[(126,V0),(322,aSm)],false,[]⟩
theorem bI7:FO aZG:=mo Tryz.func241 ⟨DX,aJ7,trivial⟩
def aCp (x0:Int) (x1:Int):Prop:=((BG x0)/\((cC .i64 (x1 - (↑(aH (dU x0)):Int)))/\((aSl (aA #[48]) (if 0<x1 - (↑(aH (dU x0)):Int) then x1 - (↑(aH (dU x0)):Int) else 0))/\((aH (F2 (aA #[48]) (if 0<x1 - (↑(aH (dU x0)):Int) then x1 - (↑(aH (dU x0)):Int) else 0))+aH (dU x0)<=9223372036854775807)/\True))))
def uZ (x0:Int) (x1:Int):ByteArray:=F2 (aA #[48]) (if 0<x1 - (↑(aH (dU x0)):Int) then x1 - (↑(aH (dU x0)):Int) else 0)++dU x0
def aSn:=dR aZG (λ⟨x0,x1,_⟩=>aCp x0 x1) λ⟨x0,x1,_⟩=>[⟨.str,uZ x0 x1⟩]
theorem aJ8:c7 241 aSn:=dF bI7 λ⟨x0,x1,_⟩ h _ K q=>c1 h λh=>c1 h λh=>c1 h λh=>c1 h λh=>rt
noncomputable def aZH:dB:=⟨346,Tryz.f346,[.v (.int .i64)],[.str],[],[(108,p8),(241,aSn)],false,[]⟩
theorem bI8:FO aZH:=mo Tryz.func346 ⟨iA,aJ8,trivial⟩
def aJ9 (x0:Int):Prop:=(if (!cD x0 0 1439)=true then True else ((cC .i64 (bM x0 60))/\((aCp (bM x0 60) 2)/\((aH (uZ (bM x0 60) 2)+1<=9223372036854775807)/\((cC .i64 (c8 x0 60))/\((aCp (c8 x0 60) 2)/\((aH (uZ (bM x0 60) 2++aA #[58])+aH (uZ (c8 x0 60) 2)<=9223372036854775807)/\True)))))))
def MU (x0:Int):ByteArray:=(if (!cD x0 0 1439)=true then aA #[] else uZ (bM x0 60) 2++aA #[58]++uZ (c8 x0 60) 2)
def aSo:=dR aZH (λ⟨x0,_⟩=>aJ9 x0) λ⟨x0,_⟩=>[⟨.str,MU x0⟩]
theorem aJA:c7 346 aSo:=dF bI8 λ⟨x0,_⟩ h _ K q=>tv<|N1 h (λh=>rt) λh=>tP ((by decide):(60:Int)≠(0:Int))<|c1 h λh=>c1 h λh=>c1 h λh=>tP ((by decide):(60:Int)≠(0:Int))<|c1 h λh=>c1 h λh=>c1 h λh=>rt
noncomputable def aZI:dB:=⟨278,Tryz.f278,[.v (.str)],[.int .i64,.bool],[],[(72,S72),(290,aSj),(346,aSo)],false,[]⟩
theorem bI9:FO aZI:=mo Tryz.func278 ⟨aFb,aJ6,aJA,trivial⟩
def aNB (x0:ByteArray):Prop:=((P72 x0 (aA #[58]))/\((cC .i64 (60*eX (pI x0 (aA #[58]))))/\((cC .i64 (60*eX (pI x0 (aA #[58]))+eX (iR x0 (aA #[58]))))/\(if (aB x0==aB (aA #[]))=true then True else ((aJ9 (60*eX (pI x0 (aA #[58]))+eX (iR x0 (aA #[58]))))/\True)))))
def aJB (x0:ByteArray):Int:=(if (aB x0==aB (aA #[]))=true then 0 else (if (!aB (MU (60*eX (pI x0 (aA #[58]))+eX (iR x0 (aA #[58]))))==aB x0)=true then 0 else 60*eX (pI x0 (aA #[58]))+eX (iR x0 (aA #[58]))))
def aSp (x0:ByteArray):Bool:=(if (aB x0==aB (aA #[]))=true then false else (if (!aB (MU (60*eX (pI x0 (aA #[58]))+eX (iR x0 (aA #[58]))))==aB x0)=true then false else true))
def aZJ:=dR aZI (λ⟨x0,_⟩=>aNB x0) λ⟨x0,_⟩=>[⟨.int .i64,aJB x0⟩,⟨.bool,aSp x0⟩]
theorem aSq:c7 278 aZJ:=dF bI9 λ⟨x0,_⟩ h _ K q=>c1 h λh=>tv<|c1 h λh=>tv<|c1 h λh=>o3 h (λh=>tT<|rt) λh=>c1 h λh=>e2 (rt) (rt)
noncomputable def aZK:dB:=⟨204,Tryz.f204,[.v (.str)],[.int .i64],[],[(278,aZJ)],false,[]⟩
theorem bIA:FO aZK:=mo Tryz.func204 ⟨aSq,trivial⟩
def aJC (x0:ByteArray):Prop:=(if (aB x0==aB (aA #[50,52,58,48,48]))=true then True else ((aNB x0)/\True))
def AX (x0:ByteArray):Int:=(if (aB x0==aB (aA #[50,52,58,48,48]))=true then 1440 else aJB x0)
def aZL:=dR aZK (λ⟨x0,_⟩=>aJC x0) λ⟨x0,_⟩=>[⟨.int .i64,AX x0⟩]
theorem aSr:c7 204 aZL:=dF bIA λ⟨x0,_⟩ h _ K q=>N1 h (λh=>rt) λh=>c1 h λh=>rt
noncomputable def aZM:dB:=⟨279,Tryz.f279,[.v (.int .i64)],[.str],[],[(346,aSo)],false,[]⟩
theorem bIB:FO aZM:=mo Tryz.func279 ⟨aJA,trivial⟩
def aJD (x0:Int):Prop:=(if (x0==1440)=true then True else ((aJ9 x0)/\True))
def Bt (x0:Int):ByteArray:=(if (x0==1440)=true then aA #[50,52,58,48,48] else MU x0)
def aZN:=dR aZM (λ⟨x0,_⟩=>aJD x0) λ⟨x0,_⟩=>[⟨.str,Bt x0⟩]
theorem aSs:c7 279 aZN:=dF bIB λ⟨x0,_⟩ h _ K q=>N1 h (λh=>rt) λh=>c1 h λh=>rt
noncomputable def aZO:dB:=⟨205,Tryz.f205,[.v fP],[.str],[],[(116,aR2),(279,aZN)],false,[]⟩
theorem bIC:FO aZO:=mo Tryz.func205 ⟨aIZ,aSs,trivial⟩
def aNC (x0:ByteArray×Int×Int×Unit):Prop:=(if (!tC x0)=true then True else ((aH x0.1+1<=9223372036854775807)/\((aJD x0.2.1)/\((aH (x0.1++aA #[32])+aH (Bt x0.2.1)<=9223372036854775807)/\((aH (x0.1++aA #[32]++Bt x0.2.1)+1<=9223372036854775807)/\((aJD x0.2.2.1)/\((aH (x0.1++aA #[32]++Bt x0.2.1++aA #[32])+aH (Bt x0.2.2.1)<=9223372036854775807)/\True)))))))
def QP (x0:ByteArray×Int×Int×Unit):ByteArray:=(if (!tC x0)=true then aA #[] else x0.1++aA #[32]++Bt x0.2.1++aA #[32]++Bt x0.2.2.1)
def aZP:=dR aZO (λ⟨x0,_⟩=>aNC x0) λ⟨x0,_⟩=>[⟨.str,QP x0⟩]
theorem aSt:c7 205 aZP:=dF bIC λ⟨x0,_⟩ h _ K q=>tv<|N1 h (λh=>rt) λh=>c1 h λh=>c1 h λh=>c1 h λh=>c1 h λh=>c1 h λh=>c1 h λh=>rt
noncomputable def aZQ:dB:=⟨133,Tryz.f133,[.v (.str)],[.cons .str JZ,.bool],[],[(55,S55),(204,aZL),(205,aZP)],false,[]⟩
theorem bID:FO aZQ:=mo Tryz.func133 ⟨QC,aSr,aSt,trivial⟩
def aND (x0:ByteArray):Prop:=((P55 x0 (aA #[32]))/\(if ((↑(aN (bY x0 (aA #[32]))):Int) != 3)=true then True else ((0<(↑(aN (bY x0 (aA #[32]))):Int))/\((1<(↑(aN (bY x0 (aA #[32]))):Int))/\((aJC (aD (bY x0 (aA #[32])) 1 aC))/\((2<(↑(aN (bY x0 (aA #[32]))):Int))/\((aJC (aD (bY x0 (aA #[32])) 2 aC))/\((aNC (aD (bY x0 (aA #[32])) 0 aC,AX (aD (bY x0 (aA #[32])) 1 aC),AX (aD (bY x0 (aA #[32])) 2 aC),()))/\True))))))))
def rX (x0:ByteArray):ByteArray×Int×Int×Unit:=(if ((↑(aN (bY x0 (aA #[32]))):Int) != 3)=true then (aC,0,0,()) else (if (!aB (QP (aD (bY x0 (aA #[32])) 0 aC,AX (aD (bY x0 (aA #[32])) 1 aC),AX (aD (bY x0 (aA #[32])) 2 aC),()))==aB x0)=true then (aC,0,0,()) else (aD (bY x0 (aA #[32])) 0 aC,AX (aD (bY x0 (aA #[32])) 1 aC),AX (aD (bY x0 (aA #[32])) 2 aC),())))
def F3 (x0:ByteArray):Bool:=(if ((↑(aN (bY x0 (aA #[32]))):Int) != 3)=true then false else (if (!aB (QP (aD (bY x0 (aA #[32])) 0 aC,AX (aD (bY x0 (aA #[32])) 1 aC),AX (aD (bY x0 (aA #[32])) 2 aC),()))==aB x0)=true then false else true))
def aZR:=dR aZQ (λ⟨x0,_⟩=>aND x0) λ⟨x0,_⟩=>[⟨.cons .str JZ,rX x0⟩,⟨.bool,F3 x0⟩]
theorem aSu:c7 133 aZR:=dF bID λ⟨x0,_⟩ h _ K q=>c1 h λh=>o3 h (λh=>rt) λh=>tP ((by decide):(0:Int)<=(0:Int))<|c1 h λh=>tP ((by decide):(0:Int)<=(1:Int))<|c1 h λh=>c1 h λh=>tP ((by decide):(0:Int)<=(2:Int))<|c1 h λh=>c1 h λh=>c1 h λh=>e2 (rt) (rt)
noncomputable def aZS:dB:=⟨209,Tryz.f209,[.v gT],[.str],[],[(118,aR4),(127,aG0)],false,[]⟩
theorem bIE:FO aZS:=mo Tryz.func209 ⟨aJd,QJ,trivial⟩
def aNE (x0:ByteArray×Int×Int×Int×Unit):Prop:=(if (!rU x0)=true then True else ((aH x0.1+1<=9223372036854775807)/\((aH (x0.1++aA #[32])+aH (n9 [x0.2.1,x0.2.2.1,x0.2.2.2.1])<=9223372036854775807)/\True)))
def QQ (x0:ByteArray×Int×Int×Int×Unit):ByteArray:=(if (!rU x0)=true then aA #[] else x0.1++aA #[32]++n9 [x0.2.1,x0.2.2.1,x0.2.2.2.1])
def aZT:=dR aZS (λ⟨x0,_⟩=>aNE x0) λ⟨x0,_⟩=>[⟨.str,QQ x0⟩]
theorem aSv:c7 209 aZT:=dF bIE λ⟨x0,_⟩ h _ K q=>tv<|N1 h (λh=>rt) λh=>c1 h λh=>tv<|c1 h λh=>rt
noncomputable def aZU:dB:=⟨136,Tryz.f136,[.v (.str)],[.cons .str fL,.bool],[],[(198,aSb),(209,aZT)],false,[]⟩
theorem bIF:FO aZU:=mo Tryz.func136 ⟨aJ5,aSv,trivial⟩
def aNF (x0:ByteArray):Prop:=((aN7 x0 3)/\(if (!AV x0 3)=true then True else ((0<(↑(aN (gE x0 3)):Int))/\((1<(↑(aN (gE x0 3)):Int))/\((2<(↑(aN (gE x0 3)):Int))/\((aNE (AU x0 3,aD (gE x0 3) 0 0,aD (gE x0 3) 1 0,aD (gE x0 3) 2 0,()))/\True))))))
def rY (x0:ByteArray):ByteArray×Int×Int×Int×Unit:=(if (!AV x0 3)=true then (aC,0,0,0,()) else (if (!aB (QQ (AU x0 3,aD (gE x0 3) 0 0,aD (gE x0 3) 1 0,aD (gE x0 3) 2 0,()))==aB x0)=true then (aC,0,0,0,()) else (AU x0 3,aD (gE x0 3) 0 0,aD (gE x0 3) 1 0,aD (gE x0 3) 2 0,())))
def F4 (x0:ByteArray):Bool:=(if (!AV x0 3)=true then false else (if (!aB (QQ (AU x0 3,aD (gE x0 3) 0 0,aD (gE x0 3) 1 0,aD (gE x0 3) 2 0,()))==aB x0)=true then false else true))
def aZV:=dR aZU (λ⟨x0,_⟩=>aNF x0) λ⟨x0,_⟩=>[⟨.cons .str fL,rY x0⟩,⟨.bool,F4 x0⟩]
theorem aSw:c7 136 aZV:=dF bIF λ⟨x0,_⟩ h _ K q=>c1 h λh=>o3 h (λh=>rt) λh=>tP ((by decide):(0:Int)<=(0:Int))<|c1 h λh=>tP ((by decide):(0:Int)<=(1:Int))<|c1 h λh=>tP ((by decide):(0:Int)<=(2:Int))<|c1 h λh=>c1 h λh=>e2 (rt) (rt)
noncomputable def aNG:dB:=⟨349,Tryz.f349,[.v (.int .i64)],[.str],[],[(185,aNu),(195,aJr)],false,[]⟩
theorem bIG:FO aNG:=mo Tryz.func349 ⟨aBV,V5,trivial⟩
def aSx (v13:Int) (h0:List ByteArray) (x0:Int):eD×bG:=([eI 0 x0,eW 3 0,eW 11 1,eI 12 3,eI 13 v13],[jB .str h0,jB .str [aA #[114,111,112,101],aA #[102,105,114,115,116],aA #[114,97,100,105,111]]])
mutual
def aJE:Nat->Int->List aY->Prop
 | 0,_,_=>False
 | n+1,x0,ds=>(if (!FV x0)=true then (ds=[aP .str (aA #[])]) else (if (x0==0)=true then (ds=[aP .str (aA #[110,111,110,101])]) else (I7 n (0) ([]) (x0) ds)))
def I7:Nat->Int->List ByteArray->Int->List aY->Prop
 | 0,_,_,_,_=>False
 | n+1,v13,h0,x0,ds=>(if (decide (v13<3))=true then ((0<=v13)/\(v13<3)/\((0<=v13)/\(cC .i64 (cQ x0 (2 ^ sX (aE v13) 64)))/\(if (bD cN (↑(j3 (dX 64 (cQ x0 (2 ^ sX (aE v13) 64)) &&& dX 64 1)):Int)==1)=true then (((aN h0+1)*16<=140737488355328)/\((cC .i64 (v13+1))/\(I7 n (v13+1) (h0++[aD [aA #[114,111,112,101],aA #[102,105,114,115,116],aA #[114,97,100,105,111]] (aE v13) aC]) (x0) ds))) else ((cC .i64 (v13+1))/\(I7 n (v13+1) (h0) (x0) ds))))) else ((Sd h0 (aA #[43]))/\(ds=[aP .str (tE h0 (aA #[43]))])))
end
theorem aSy (ds:List aY) (K:jK) (q:Nat->Value):∀ n,(∀ {x0},aJE n x0 ds->St aNG (x0,()) ds [] K q)/\(∀ {v13 h0 x0},I7 n v13 h0 x0 ds->Cu aNG 7 (aSx v13 h0 x0) ds [] K q):=by
 intro n
 induction n with
 | zero=>exact ⟨λh=>h.elim,λh=>h.elim⟩
 | succ n ih =>
 obtain ⟨i,i7⟩:=ih;exact ⟨λh=>tv<|bR h (λh=>rh h) λh=>bR h (λh=>rh h) λh=>jn [(3,.str)] (i7 h),
  λh=>bR h (λh=>c2 h λh=>c2 h λh=>bR h (λh=>c1 h λh=>c1 h λh=>jn [(3,.str)] (i7 h)) λh=>c1 h λh=>jn [(3,.str)] (i7 h)) λh=>c1 h λh=>rh h⟩
abbrev N6:List ByteArray:=[aA #[114,111,112,101],aA #[102,105,114,115,116],aA #[114,97,100,105,111]]
def QR (x0:Int) (i:Nat):Bool:=bD cN (↑(j3 (dX 64 (cQ x0 (2 ^ sX i 64)) &&& dX 64 1)):Int)==1
def Gm (x0:Int):Nat->Nat->List ByteArray
 | 0,_=>[]
 | k+1,i=>if QR x0 i=true then N6.getD i aC :: Gm x0 k (i+1) else Gm x0 k (i+1)
def QS (x0:Int):ByteArray:=if (!FV x0)=true then aA #[] else if (x0==0)=true then aA #[110,111,110,101] else tE (Gm x0 3 0) (aA #[43])
def bIH (x0:Int):Prop:=True
theorem aG2 {x0:Int} (h:FV x0=true):0<=x0/\x0<=7:=by
 unfold FV cD at h;split at h
 ·rename_i c;exact ⟨of_decide_eq_true c,of_decide_eq_true h⟩
 ·cases h
theorem aSz {x0:Int} (h1:0<=x0) (h2:x0<=7) (i:Nat):cC .i64 (cQ x0 (2 ^ sX i 64)):=by
 have hp:(0:Int)<2 ^ sX i 64:=Int.pow_pos (by decide);rw [fG _ (by omega),aK];have:=Int.ediv_nonneg h1 (Int.le_of_lt hp);have:=Int.ediv_le_self (2 ^ sX i 64) h1;omega
theorem aS0 (x0:Int) (h1:0<=x0) (h2:x0<=7) (T:List ByteArray) (hT:Sd T (aA #[43])):∀ (k i:Nat) (h0:List ByteArray),i+k=3->h0++Gm x0 k i=T->h0.length<=i->I7 (k+1) (i:Int) h0 x0 [⟨.str,tE T (aA #[43])⟩]:=by
 intro k
 induction k with
 | zero =>
  intro i h0 hi hh hl;rw [Gm,c6] at hh;subst hh;rw [I7,if_neg (by simp only [decide_eq_true_eq];omega)];exact ⟨hT,rfl⟩
 | succ k ih =>
  intro i h0 hi hh hl;have e3:(i:Int)+1=((i+1:Nat):Int):=by omega
  rw [Gm] at hh;rw [I7,if_pos (by simp only [decide_eq_true_eq];omega),e3,aF];refine ⟨by omega,by omega,by omega,aSz h1 h2 i,?_⟩;by_cases c:QR x0 i=true
  ·rw [if_pos c] at hh;exact (if_pos c).mpr ⟨by omega,by rw [aK];omega,ih (i+1) _ (by omega) (by rw [bS];exact hh) (by rw [aO,cP];omega)⟩
  ·rw [if_neg c] at hh;exact (if_neg c).mpr ⟨by rw [aK];omega,ih (i+1) _ (by omega) hh (by omega)⟩
theorem aS1:∀ (b0 b1 b2:Bool),Sd ((if b0=true then N6.getD 0 aC :: (if b1=true then N6.getD 1 aC :: (if b2=true then [N6.getD 2 aC] else []) else (if b2=true then [N6.getD 2 aC] else [])) else (if b1=true then N6.getD 1 aC :: (if b2=true then [N6.getD 2 aC] else []) else (if b2=true then [N6.getD 2 aC] else [])))) (aA #[43]):=by
 intro b0 b1 b2;cases b0 <;> cases b1 <;> cases b2 <;> exact ⟨by decide,by decide⟩
theorem aS2 (x0:Int):∃ n,aJE n x0 [⟨.str,QS x0⟩]:=by
 unfold QS;by_cases c:(!FV x0)=true
 ·exact ⟨1,by rw [aJE,if_pos c,if_pos c]⟩
 ·obtain ⟨h1,h2⟩:=aG2 (x0:=x0) (by simpa using c);by_cases d:(x0==0)=true
  ·exact ⟨1,by rw [aJE,if_neg c,if_pos d,if_neg c,if_pos d]⟩
  ·refine ⟨5,?_⟩;rw [aJE,if_neg c,if_neg d,if_neg c,if_neg d];exact aS0 x0 h1 h2 _ (aS1 (QR x0 0) (QR x0 1) (QR x0 2)) 3 0 [] rfl rfl (aT _)
def aZW:=dR aNG (λ⟨x0,_⟩=>bIH x0) λ⟨x0,_⟩=>[⟨.str,QS x0⟩]
theorem aS3:c7 349 aZW:=dF bIG (λ⟨x0,_⟩ h hwf K q =>
 let ⟨n,hn⟩:=aS2 x0
 (aSy _ K q n).1 hn)
noncomputable def aNH:dB:=⟨284,Tryz.f284,[.v (.str)],[.int .i64,.bool],[],[(349,aZW)],false,[]⟩
theorem bII:FO aNH:=mo Tryz.func284 ⟨aS3,trivial⟩
def aS4 (v5:Int) (x0:ByteArray):eD×bG:=([eS 0 x0,eI 5 v5],[])
mutual
def aZX:Nat->ByteArray->List aY->Prop
 | 0,_,_=>False
 | n+1,x0,ds=>(MV n (0) (x0) ds)
def MV:Nat->Int->ByteArray->List aY->Prop
 | 0,_,_,_=>False
 | n+1,v5,x0,ds=>(if (decide (v5<8))=true then (if (aB (QS v5)==aB x0)=true then (ds=[aP (.int .i64) v5,aP .bool true]) else ((cC .i64 (v5+1))/\(MV n (v5+1) (x0) ds))) else (ds=[aP (.int .i64) 0,aP .bool false]))
end
theorem aS5 (ds:List aY) (K:jK) (q:Nat->Value):∀ n,(∀ {x0},aZX n x0 ds->St aNH (x0,()) ds [] K q)/\(∀ {v5 x0},MV n v5 x0 ds->Cu aNH 2 (aS4 v5 x0) ds [] K q):=by
 intro n
 induction n with
 | zero=>exact ⟨λh=>h.elim,λh=>h.elim⟩
 | succ n ih =>
 obtain ⟨i,i2⟩:=ih;exact ⟨λh=>jp (i2 h),
  λh=>bR h (λh=>tv<|bR h (λh=>rh h) λh=>c1 h λh=>jp (i2 h)) λh=>rh h⟩
def aQi (x0:ByteArray) (v:Int):Bool:=aB (QS v)==aB x0
def UC (x0:ByteArray):Nat->Int->Int×Bool
 | 0,_=>(0,false)
 | k+1,v=>if aQi x0 v=true then (v,true) else UC x0 k (v+1)
def aCq (x0:ByteArray):Int:=(UC x0 8 0).1
def QT (x0:ByteArray):Bool:=(UC x0 8 0).2
def bIJ (x0:ByteArray):Prop:=True
theorem aS6 (x0:ByteArray):∀ (k:Nat) (v:Int),v+(k:Int)=8->0<=v->MV (k+1) v x0 [⟨.int .i64,(UC x0 k v).1⟩,⟨.bool,(UC x0 k v).2⟩]:=by
 intro k
 induction k with
 | zero =>
  intro v hv h0;rw [MV,if_neg (by simp only [decide_eq_true_eq];omega)];rfl
 | succ k ih =>
  intro v hv h0;rw [MV,if_pos (by simp only [decide_eq_true_eq];omega),UC];by_cases c:aQi x0 v=true
  ·rw [if_pos c];exact (if_pos c).mpr rfl
  ·rw [if_neg c];exact (if_neg c).mpr ⟨by rw [aK];omega,ih (v+1) (by omega) (by omega)⟩
def aZY:=dR aNH (λ⟨x0,_⟩=>bIJ x0) λ⟨x0,_⟩=>[⟨.int .i64,aCq x0⟩,⟨.bool,QT x0⟩]
theorem aS7:c7 284 aZY:=dF bII (λ⟨x0,_⟩ h hwf K q =>
 (aS5 _ K q 10).1 (by rw [aZX];exact aS6 x0 8 0 rfl (gA _)))
noncomputable def aZZ:dB:=⟨213,Tryz.f213,[.v (.str)],[.str,.int .i64,.int .i64,.bool],[],[(55,S55),(284,aZY),(73,S73)],false,[]⟩
theorem bIK:FO aZZ:=mo Tryz.func213 ⟨QC,aS7,aFc,trivial⟩
def aJF (x0:ByteArray):Prop:=((P55 x0 (aA #[32]))/\(if ((↑(aN (bY x0 (aA #[32]))):Int) != 3)=true then True else ((1<(↑(aN (bY x0 (aA #[32]))):Int))/\((2<(↑(aN (bY x0 (aA #[32]))):Int))/\((P73 (aD (bY x0 (aA #[32])) 2 aC))/\((0<(↑(aN (bY x0 (aA #[32]))):Int))/\True))))))
def I8 (x0:ByteArray):ByteArray:=(if ((↑(aN (bY x0 (aA #[32]))):Int) != 3)=true then aA #[] else (if (QT (aD (bY x0 (aA #[32])) 1 aC))=true then aD (bY x0 (aA #[32])) 0 aC else aD (bY x0 (aA #[32])) 0 aC))
def I9 (x0:ByteArray):Int:=(if ((↑(aN (bY x0 (aA #[32]))):Int) != 3)=true then 0 else (if (QT (aD (bY x0 (aA #[32])) 1 aC))=true then aCq (aD (bY x0 (aA #[32])) 1 aC) else aCq (aD (bY x0 (aA #[32])) 1 aC)))
def Ia (x0:ByteArray):Int:=(if ((↑(aN (bY x0 (aA #[32]))):Int) != 3)=true then 0 else (if (QT (aD (bY x0 (aA #[32])) 1 aC))=true then EW (aD (bY x0 (aA #[32])) 2 aC) else EW (aD (bY x0 (aA #[32])) 2 aC)))
def QU (x0:ByteArray):Bool:=(if ((↑(aN (bY x0 (aA #[32]))):Int) != 3)=true then false else (if (QT (aD (bY x0 (aA #[32])) 1 aC))=true then Yj (aD (bY x0 (aA #[32])) 2 aC) else false))
def aS8:=dR aZZ (λ⟨x0,_⟩=>aJF x0) λ⟨x0,_⟩=>[⟨.str,I8 x0⟩,⟨.int .i64,I9 x0⟩,⟨.int .i64,Ia x0⟩,⟨.bool,QU x0⟩]
theorem aJG:c7 213 aS8:=dF bIK λ⟨x0,_⟩ h _ K q=>c1 h λh=>e4h h (λh=>rt) λh=>tP ((by decide):(0:Int)<=(1:Int))<|c1 h λh=>tv<|tP ((by decide):(0:Int)<=(2:Int))<|c1 h λh=>c1 h λh=>tP ((by decide):(0:Int)<=(0:Int))<|c1 h λh=>e4 (rt) (rt)
noncomputable def bAa:dB:=⟨139,Tryz.f139,[.v (.str)],[.cons .str JZ,.bool],[],[(213,aS8),(120,aRA)],false,[]⟩
theorem bIL:FO bAa:=mo Tryz.func139 ⟨aJG,aJh,trivial⟩
def aS9 (x0:ByteArray):Prop:=((aJF x0)/\True)
def rZ (x0:ByteArray):ByteArray×Int×Int×Unit:=(if (!QU x0)=true then (aC,0,0,()) else (if (!yH (I8 x0,I9 x0,Ia x0,()))=true then (aC,0,0,()) else (I8 x0,I9 x0,Ia x0,())))
def F5 (x0:ByteArray):Bool:=(if (!QU x0)=true then false else (if (!yH (I8 x0,I9 x0,Ia x0,()))=true then false else true))
def bAb:=dR bAa (λ⟨x0,_⟩=>aS9 x0) λ⟨x0,_⟩=>[⟨.cons .str JZ,rZ x0⟩,⟨.bool,F5 x0⟩]
theorem aSA:c7 139 bAb:=dF bIL λ⟨x0,_⟩ h _ K q=>c1 h λh=>e2 (tT<|rt) (tv<|e2 (rt) (rt))
noncomputable def bAc:dB:=⟨142,Tryz.f142,[.v (.str)],[.cons .str JZ,.bool],[],[(213,aS8),(121,aRB)],false,[]⟩
theorem bIM:FO bAc:=mo Tryz.func142 ⟨aJG,aJj,trivial⟩
def aSB (x0:ByteArray):Prop:=((aJF x0)/\True)
def r9 (x0:ByteArray):ByteArray×Int×Int×Unit:=(if (!QU x0)=true then (aC,0,0,()) else (if (!yI (I8 x0,I9 x0,Ia x0,()))=true then (aC,0,0,()) else (I8 x0,I9 x0,Ia x0,())))
def F6 (x0:ByteArray):Bool:=(if (!QU x0)=true then false else (if (!yI (I8 x0,I9 x0,Ia x0,()))=true then false else true))
def bAd:=dR bAc (λ⟨x0,_⟩=>aSB x0) λ⟨x0,_⟩=>[⟨.cons .str JZ,r9 x0⟩,⟨.bool,F6 x0⟩]
theorem aSC:c7 142 bAd:=dF bIM λ⟨x0,_⟩ h _ K q=>c1 h λh=>e2 (tT<|rt) (tv<|e2 (rt) (rt))
noncomputable def bAe:dB:=⟨220,Tryz.f220,[.v (.str),.v (.int .i64)],[.sl (.int .i64),.bool],[],[(74,S74)],false,[]⟩
theorem bIN:FO bAe:=mo Tryz.func220 ⟨aJx,trivial⟩
def aG3 (x0:ByteArray) (x1:Int):Prop:=((P74 x0)/\True)
def dC (x0:ByteArray) (x1:Int):List Int:=uX x0
def mR (x0:ByteArray) (x1:Int):Bool:=(↑(aN (uX x0)):Int)==x1
def aG4:=dR bAe (λ⟨x0,x1,_⟩=>aG3 x0 x1) λ⟨x0,x1,_⟩=>[⟨.sl (.int .i64),dC x0 x1⟩,⟨.bool,mR x0 x1⟩]
theorem QV:c7 220 aG4:=dF bIN λ⟨x0,x1,_⟩ h _ K q=>c1 h λh=>rt
noncomputable def bAf:dB:=⟨145,Tryz.f145,[.v (.str)],[.cons (.int .i64) JZ,.bool],[],[(220,aG4),(111,aRu)],false,[]⟩
theorem bIO:FO bAf:=mo Tryz.func145 ⟨QV,aII,trivial⟩
def aNI (x0:ByteArray):Prop:=((aG3 x0 3)/\(if (!mR x0 3)=true then True else ((0<(↑(aN (dC x0 3)):Int))/\((1<(↑(aN (dC x0 3)):Int))/\((2<(↑(aN (dC x0 3)):Int))/\True)))))
def sA (x0:ByteArray):Int×Int×Int×Unit:=(if (!mR x0 3)=true then (0,0,0,()) else (if (!wE (aD (dC x0 3) 0 0,aD (dC x0 3) 1 0,aD (dC x0 3) 2 0,()))=true then (0,0,0,()) else (aD (dC x0 3) 0 0,aD (dC x0 3) 1 0,aD (dC x0 3) 2 0,())))
def F7 (x0:ByteArray):Bool:=(if (!mR x0 3)=true then false else (if (!wE (aD (dC x0 3) 0 0,aD (dC x0 3) 1 0,aD (dC x0 3) 2 0,()))=true then false else true))
def bAg:=dR bAf (λ⟨x0,_⟩=>aNI x0) λ⟨x0,_⟩=>[⟨.cons (.int .i64) JZ,sA x0⟩,⟨.bool,F7 x0⟩]
theorem aSD:c7 145 bAg:=dF bIO λ⟨x0,_⟩ h _ K q=>c1 h λh=>o3 h (λh=>rt) λh=>tP ((by decide):(0:Int)<=(0:Int))<|c1 h λh=>tP ((by decide):(0:Int)<=(1:Int))<|c1 h λh=>tP ((by decide):(0:Int)<=(2:Int))<|c1 h λh=>tv<|e2 (rt) (rt)
noncomputable def bAh:dB:=⟨146,Tryz.f146,[.own fL,.v fL,.v (.int .i64)],[.sl fL,.int .i64],[],[(77,S77)],false,[]⟩
theorem bIP:FO bAh:=mo Tryz.func146 ⟨aQb,trivial⟩
def aNJ (x0:List cU) (x1:Int×Int×Int×Unit) (x2:Int):Prop:=(if (decide ((x0.length:Int)>=x2))=true then True else ((P77 x0)/\((aN (Yu x0)+1)*24<=140737488355328)/\True))
def QW (x0:List cU) (x1:Int×Int×Int×Unit) (x2:Int):List cU:=(if (decide ((x0.length:Int)>=x2))=true then x0 else Yu x0++[x1])
def F8 (x0:List cU) (x1:Int×Int×Int×Unit) (x2:Int):Int:=(if (decide ((x0.length:Int)>=x2))=true then 5 else 0)
def bAi:=wD bAh (λ⟨x0,x1,x2,_⟩=>aNJ x0 x1 x2) (λ⟨x0,x1,x2,_⟩=>[none]) λ⟨x0,x1,x2,_⟩=>[⟨.sl fL,QW x0 x1 x2⟩,⟨.int .i64,F8 x0 x1 x2⟩]
theorem aSE:c7 146 bAi:=dF bIP λ⟨x0,x1,x2,_⟩ h _ K q=>o3 h (λh=>rt) λh=>cS h λs0 h=>cS h λs1 h=>tP s0<|tP s1<|tP (VQ [eW 0 0,eT 1 fL x1,eI 2 x2,eO 4 1 0 [],eW 6 2,eI 7 0,eW 8 0,eI 9 (x0.length:Int),eI 10 x2,eB 11 (decide ((x0.length:Int)>=x2)),eW 13 0,eT 15 fL x1,eW 16 3,eW 17 2] [jB fL x0,some (fY fL [x1] true none (some false)),jB fL (Yu x0++[x1]),jB fL [x1]])<|rt
noncomputable def bAj:dB:=⟨352,Tryz.f352,[.v (.int .i64),.v (.int .i64)],[.int .i64],[],[],false,[]⟩
theorem bIQ:FO bAj:=mo Tryz.func352 trivial
def aJH (x0:Int) (x1:Int):Prop:=(if (x1==2)=true then ((cC .i64 (c8 x0 4))/\True) else True)
def pS (x0:Int) (x1:Int):Int:=(if (x1==2)=true then (if (c8 x0 4==0)=true then 29 else 28) else (if (x1==4)=true then 30 else (if (x1==6)=true then 30 else (if (x1==9)=true then 30 else (if (x1==11)=true then 30 else 31)))))
def aSF:=dR bAj (λ⟨x0,x1,_⟩=>aJH x0 x1) λ⟨x0,x1,_⟩=>[⟨.int .i64,pS x0 x1⟩]
theorem aJI:c7 352 aSF:=dF bIQ λ⟨x0,x1,_⟩ h _ K q=>N1 h (λh=>tP ((by decide):(4:Int)≠(0:Int))<|c1 h λh=>e1 (rt) (rt)) λh=>e1 (rt) (e1 (rt) (e1 (rt) (e1 (rt) (rt))))
noncomputable def aNK:dB:=⟨321,Tryz.f321,[.v (.int .i64),.v (.int .i64),.v (.int .i64)],[.int .i64],[],[(352,aSF)],false,[]⟩
theorem bIR:FO aNK:=mo Tryz.func321 ⟨aJI,trivial⟩
def aSG (v7:Int) (v8:Int) (x0:Int) (x1:Int):eD×bG:=([eI 0 x0,eI 1 x1,eI 7 v7,eI 8 v8],[])
mutual
def aSH:Nat->Int->Int->Int->List aY->Prop
 | 0,_,_,_,_=>False
 | n+1,x0,x1,x2,ds=>((cC .i64 (x0 - 2000))/\((cC .i64 ((x0 - 2000)*365))/\((cC .i64 (x0 - 1997))/\((cC .i64 (bM (x0 - 1997) 4))/\((cC .i64 ((x0 - 2000)*365+bM (x0 - 1997) 4))/\((cC .i64 ((x0 - 2000)*365+bM (x0 - 1997) 4+x2))/\((cC .i64 ((x0 - 2000)*365+bM (x0 - 1997) 4+x2 - 1))/\(MW n ((x0 - 2000)*365+bM (x0 - 1997) 4+x2 - 1) (1) (x0) (x1) ds))))))))
def MW:Nat->Int->Int->Int->Int->List aY->Prop
 | 0,_,_,_,_,_=>False
 | n+1,v7,v8,x0,x1,ds=>(if (decide (v8<x1))=true then ((aJH x0 v8)/\((cC .i64 (v7+pS x0 v8))/\((cC .i64 (v8+1))/\(MW n (v7+pS x0 v8) (v8+1) (x0) (x1) ds)))) else (ds=[aP (.int .i64) v7]))
end
theorem aSI (ds:List aY) (K:jK) (q:Nat->Value):∀ n,(∀ {x0 x1 x2},aSH n x0 x1 x2 ds->St aNK (x0,x1,x2,()) ds [] K q)/\(∀ {v7 v8 x0 x1},MW n v7 v8 x0 x1 ds->Cu aNK 3 (aSG v7 v8 x0 x1) ds [] K q):=by
 intro n
 induction n with
 | zero=>exact ⟨λh=>h.elim,λh=>h.elim⟩
 | succ n ih =>
 obtain ⟨i,i3⟩:=ih;exact ⟨λ{x0} {x1} {x2} h=>c1 h λh=>c1 h λh=>c1 h λh=>tP ((by decide):(4:Int)≠(0:Int))<|c1 h λh=>c1 h λh=>c1 h λh=>c1 h λh=>jp (i3 h),
  λh=>bR h (λh=>c1 h λh=>c1 h λh=>c1 h λh=>jp (i3 h)) λh=>rh h⟩
def mP (y:Int):Nat->Int
 | 0=>0
 | k+1=>mP y k+pS y ((k:Int)+1)
def UD (y d:Int):Int:=(y - 2000)*365+bM (y - 1997) 4+d - 1
def gK (x0 x1 x2:Int):Int:=UD x0 x2+mP x0 (x1 - 1).toNat
def ZA (x0 x1 x2:Int):Prop:=(2000<=x0/\x0<=2099)/\(1<=x1/\x1<=12)/\(1<=x2/\x2<=31)
theorem QX {y m:Int} (hy:2000<=y/\y<=2099):aJH y m/\28<=pS y m/\pS y m<=31:=by
 have e:c8 y 4=y % 4:=Int.tmod_eq_emod_of_nonneg (by omega);unfold aJH pS;rw [e];have hi:cC .i64 (y % 4):=by rw [aK];omega
 refine ⟨?_,?_,?_⟩
 ·split
  ·exact ⟨hi,trivial⟩
  ·trivial
 ·repeat' split
  all_goals omega
 ·repeat' split
  all_goals omega
theorem V6 {y:Int} (hy:2000<=y/\y<=2099):∀ k,0<=mP y k/\mP y k<=31*k
 | 0=>by simp [mP]
 | k+1=>by
  have:=V6 hy k;have:=QX hy (m:=(k:Int)+1);simp only [mP];omega
theorem aNL {y m:Int} (hy:2000<=y/\y<=2099) (hm:1<=m/\m<=12) (v:Int) (hv:0<=v/\v<=1000000):∀ (k i:Nat),(i:Int)+k=m - 1 ->
  MW (k+1) (v+mP y i) ((i:Int)+1) y m [⟨.int .i64,v+mP y (m - 1).toNat⟩]:=by
 intro k
 induction k with
 | zero =>
  intro i hi;rw [MW,if_neg (by simp;omega),show (m - 1).toNat=i by omega]
 | succ k ih =>
  intro i hi;obtain ⟨p,l1,l2⟩:=QX hy (m:=(i:Int)+1);obtain ⟨b1,b2⟩:=V6 hy i;rw [MW,if_pos (by simp;omega)];have e1:v+mP y i+pS y ((i:Int)+1)=v+mP y (i+1):=by simp only [mP];omega
  have e2:(i:Int)+1+1=((i+1:Nat):Int)+1:=by omega
  refine ⟨p,by rw [aK];omega,by rw [aK];omega,?_⟩;rw [e1,e2];exact ih (i+1) (by omega)
theorem aSJ (x0 x1 x2:Int) (h:ZA x0 x1 x2):aSH ((x1 - 1).toNat+1+1) x0 x1 x2 [⟨.int .i64,gK x0 x1 x2⟩]:=by
 obtain ⟨h0,h1,h2⟩:=h;have e:bM (x0 - 1997) 4=(x0 - 1997) / 4:=gF (by omega);rw [aSH];have:=aNL h0 h1 (UD x0 x2) (by unfold UD;rw [e];omega) (x1 - 1).toNat 0 (by omega);refine ⟨by rw [aK];omega,by rw [aK];omega,by rw [aK];omega,by rw [aK,e];omega,by rw [aK,e];omega,by rw [aK,e];omega,by rw [aK,e];omega,?_⟩;simpa [mP,gK,UD] using this
def aSK:=dR aNK (λ⟨x0,x1,x2,_⟩=>ZA x0 x1 x2) λ⟨x0,x1,x2,_⟩=>[⟨.int .i64,gK x0 x1 x2⟩]
theorem aJJ:c7 321 aSK:=dF bIR (λ⟨x0,x1,x2,_⟩ h hwf K q =>
 (aSI _ K q _).1 (aSJ x0 x1 x2 h))
noncomputable def bAk:dB:=⟨289,Tryz.f289,[.v (.int .i64),.v (.int .i64),.v (.int .i64)],[.int .i64,.int .i64],[],[(108,p8),(352,aSF),(321,aSK)],false,[]⟩
theorem bIS:FO bAk:=mo Tryz.func289 ⟨iA,aJI,aJJ,trivial⟩
def aSL (x0:Int) (x1:Int) (x2:Int):Prop:=(if (!cD x0 2000 2099)=true then True else (if (!cD x1 1 12)=true then True else ((aJH x0 x1)/\(if (!cD x2 1 (pS x0 x1))=true then True else ((ZA x0 x1 x2)/\True)))))
def Ib (x0:Int) (x1:Int) (x2:Int):Int:=(if (!cD x0 2000 2099)=true then 0 else (if (!cD x1 1 12)=true then 0 else (if (!cD x2 1 (pS x0 x1))=true then 0 else gK x0 x1 x2)))
def F9 (x0:Int) (x1:Int) (x2:Int):Int:=(if (!cD x0 2000 2099)=true then 2 else (if (!cD x1 1 12)=true then 2 else (if (!cD x2 1 (pS x0 x1))=true then 2 else 0)))
def bAl:=dR bAk (λ⟨x0,x1,x2,_⟩=>aSL x0 x1 x2) λ⟨x0,x1,x2,_⟩=>[⟨.int .i64,Ib x0 x1 x2⟩,⟨.int .i64,F9 x0 x1 x2⟩]
theorem aSM:c7 289 bAl:=dF bIS λ⟨x0,x1,x2,_⟩ h _ K q=>tv<|o3 h (λh=>tT<|tT<|rt) λh=>tv<|o3 h (λh=>tT<|rt) λh=>c1 h λh=>tv<|o3 h (λh=>rt) λh=>c1 h λh=>rt
noncomputable def aJK:dB:=⟨240,Tryz.f240,[.v (.int .i64)],[.int .i64,.int .i64,.int .i64],[],[(321,aSK)],false,[]⟩
theorem bIT:FO aJK:=mo Tryz.func240 ⟨aJJ,trivial⟩
def aSN (v5:Int) (x0:Int):eD×bG:=([eI 0 x0,eI 5 v5,eI 6 1],[])
def aSO (v6:Int) (x0:Int) (v5:Int):eD×bG:=([eI 0 x0,eI 5 v5,eI 6 v6],[])
mutual
def aSP:Nat->Int->List aY->Prop
 | 0,_,_=>False
 | n+1,x0,ds=>(MX n (2000) (x0) ds)
def MX:Nat->Int->Int->List aY->Prop
 | 0,_,_,_=>False
 | n+1,v5,x0,ds=>(if (decide (v5<2099))=true then ((cC .i64 (v5+1))/\((ZA (v5+1) 1 1)/\(if (decide (gK (v5+1) 1 1<=x0))=true then ((cC .i64 (v5+1))/\(MX n (v5+1) (x0) ds)) else (Ic n (1) (x0) (v5) ds)))) else (Ic n (1) (x0) (v5) ds))
def Ic:Nat->Int->Int->Int->List aY->Prop
 | 0,_,_,_,_=>False
 | n+1,v6,x0,v5,ds=>(if (decide (v6<12))=true then ((cC .i64 (v6+1))/\((ZA v5 (v6+1) 1)/\(if (decide (gK v5 (v6+1) 1<=x0))=true then ((cC .i64 (v6+1))/\(Ic n (v6+1) (x0) (v5) ds)) else ((ZA v5 v6 1)/\((cC .i64 (x0 - gK v5 v6 1))/\((cC .i64 (x0 - gK v5 v6 1+1))/\(ds=[aP (.int .i64) v5,aP (.int .i64) v6,aP (.int .i64) (x0 - gK v5 v6 1+1)]))))))) else ((ZA v5 v6 1)/\((cC .i64 (x0 - gK v5 v6 1))/\((cC .i64 (x0 - gK v5 v6 1+1))/\(ds=[aP (.int .i64) v5,aP (.int .i64) v6,aP (.int .i64) (x0 - gK v5 v6 1+1)])))))
end
theorem aSQ (ds:List aY) (K:jK) (q:Nat->Value):∀ n,(∀ {x0},aSP n x0 ds->St aJK (x0,()) ds [] K q)/\(∀ {v5 x0},MX n v5 x0 ds->Cu aJK 2 (aSN v5 x0) ds [] K q)/\(∀ {v6 x0 v5},Ic n v6 x0 v5 ds->Cu aJK 4 (aSO v6 x0 v5) ds [] K q):=by
 intro n
 induction n with
 | zero=>exact ⟨λh=>h.elim,λh=>h.elim,λh=>h.elim⟩
 | succ n ih =>
 obtain ⟨i,i2,i4⟩:=ih;exact ⟨λh=>jp (i2 h),
  λh=>bR h (λh=>c1 h λh=>c1 h λh=>bR h (λh=>c1 h λh=>jp (i2 h)) λh=>jp (i4 h)) λh=>tF<|jp (i4 h),
  λh=>bR h (λh=>c1 h λh=>c1 h λh=>bR h (λh=>c1 h λh=>jp (i4 h)) λh=>c1 h λh=>c1 h λh=>c1 h λh=>rh h) λh=>tF<|c1 h λh=>c1 h λh=>c1 h λh=>rh h⟩
def KG (day:Int):Nat->Int->Int
 | 0,y=>y
 | k+1,y=>if gK (y+1) 1 1<=day then KG day k (y+1) else y
def KH (day y:Int):Nat->Int->Int
 | 0,m=>m
 | k+1,m=>if gK y (m+1) 1<=day then KH day y k (m+1) else m
def yK (x0:Int):Int:=KG x0 99 2000
def AY (x0:Int):Int:=KH x0 (yK x0) 11 1
def Ie (x0:Int):Int:=x0 - gK (yK x0) (AY x0) 1+1
def aSR (x0:Int):Prop:=0<=x0/\x0<=1000000
theorem V7 {y m:Int} (hy:2000<=y/\y<=2099) (hm:1<=m/\m<=12):ZA y m 1/\0<=gK y m 1/\gK y m 1<=1000000:=by
 have e:bM (y - 1997) 4=(y - 1997) / 4:=gF (by omega);have:=V6 hy (m - 1).toNat;refine ⟨⟨hy,hm,by omega⟩,?_,?_⟩ <;> unfold gK UD <;> rw [e] <;> omega
theorem aFg {y day:Int} (hy:2000<=y/\y<=2099) (hd:0<=day/\day<=1000000) (e:Nat):∀ (k:Nat) (m:Int),m+k=12->1<=m ->
  Ic (k+1+e) m day y [⟨.int .i64,y⟩,⟨.int .i64,KH day y k m⟩,⟨.int .i64,day - gK y (KH day y k m) 1+1⟩]:=by
 intro k
 induction k with
 | zero =>
  intro m hm h1;obtain ⟨p,b1,b2⟩:=V7 hy (m:=m) (by omega);rw [show 0+1+e=e+1 by omega,Ic,if_neg (by simp;omega)];exact ⟨p,by rw [aK];omega,by rw [aK];omega,rfl⟩
 | succ k ih =>
  intro m hm h1;obtain ⟨p,b1,b2⟩:=V7 hy (m:=m) (by omega);obtain ⟨q,c1,c2⟩:=V7 hy (m:=m+1) (by omega);rw [show k+1+1+e=(k+1+e)+1 by omega,Ic,if_pos (by simp;omega)];refine ⟨by rw [aK];omega,q,?_⟩;unfold KH;by_cases hc:gK y (m+1) 1<=day
  ·rw [if_pos (by simpa using hc),if_pos hc];exact ⟨by rw [aK];omega,ih (m+1) (by omega) (by omega)⟩
  ·rw [if_neg (by simpa using hc),if_neg hc];exact ⟨p,by rw [aK];omega,by rw [aK];omega,rfl⟩
theorem aNM {day:Int} (hd:0<=day/\day<=1000000):∀ (k:Nat) (y:Int),y+k=2099->2000<=y ->
  MX (k+1+12) y day [⟨.int .i64,KG day k y⟩,⟨.int .i64,KH day (KG day k y) 11 1⟩,⟨.int .i64,day - gK (KG day k y) (KH day (KG day k y) 11 1) 1+1⟩]:=by
 intro k
 induction k with
 | zero =>
  intro y hy h1;rw [show 0+1+12=(11+1+0)+1 by omega,MX,if_neg (by simp;omega)];exact aFg (by omega) hd 0 11 1 (by omega) (by omega)
 | succ k ih =>
  intro y hy h1;obtain ⟨q,c1,c2⟩:=V7 (y:=y+1) (m:=1) (by omega) (by omega);rw [show k+1+1+12=(k+1+12)+1 by omega,MX,if_pos (by simp;omega)];refine ⟨by rw [aK];omega,q,?_⟩;unfold KG;by_cases hc:gK (y+1) 1 1<=day
  ·rw [if_pos (by simpa using hc),if_pos hc];exact ⟨by rw [aK];omega,ih (y+1) (by omega) (by omega)⟩
  ·rw [if_neg (by simpa using hc),if_neg hc,show k+1+12=11+1+(k+1) by omega];exact aFg (by omega) hd (k+1) 11 1 (by omega) (by omega)
theorem aSS (x0:Int) (h:aSR x0):aSP (99+1+12+1) x0 [⟨.int .i64,yK x0⟩,⟨.int .i64,AY x0⟩,⟨.int .i64,Ie x0⟩]:=by
 rw [aSP];exact aNM h 99 2000 (by omega) (by omega)
def bAm:=dR aJK (λ⟨x0,_⟩=>aSR x0) λ⟨x0,_⟩=>[⟨.int .i64,yK x0⟩,⟨.int .i64,AY x0⟩,⟨.int .i64,Ie x0⟩]
theorem aST:c7 240 bAm:=dF bIT (λ⟨x0,_⟩ h hwf K q =>
 (aSQ _ K q _).1 (aSS x0 h))
noncomputable def bAn:dB:=⟨159,Tryz.f159,[.v (.int .i64)],[.str],[],[(239,aJf),(240,bAm),(126,V0),(241,aSn)],false,[]⟩
theorem bIU:FO bAn:=mo Tryz.func159 ⟨VX,aST,DX,aJ8,trivial⟩
def OI (x0:Int):Prop:=(if (!rV x0)=true then True else ((aSR x0)/\((BG (yK x0))/\((aH (dU (yK x0))+1<=9223372036854775807)/\((aCp (AY x0) 2)/\((aH (dU (yK x0)++aA #[45])+aH (uZ (AY x0) 2)<=9223372036854775807)/\((aH (dU (yK x0)++aA #[45]++uZ (AY x0) 2)+1<=9223372036854775807)/\((aCp (Ie x0) 2)/\((aH (dU (yK x0)++aA #[45]++uZ (AY x0) 2++aA #[45])+aH (uZ (Ie x0) 2)<=9223372036854775807)/\True)))))))))
def u0 (x0:Int):ByteArray:=(if (!rV x0)=true then aA #[] else dU (yK x0)++aA #[45]++uZ (AY x0) 2++aA #[45]++uZ (Ie x0) 2)
def aJL:=dR bAn (λ⟨x0,_⟩=>OI x0) λ⟨x0,_⟩=>[⟨.str,u0 x0⟩]
theorem V8:c7 159 aJL:=dF bIU λ⟨x0,_⟩ h _ K q=>tv<|N1 h (λh=>rt) λh=>c1 h λh=>c1 h λh=>c1 h λh=>c1 h λh=>c1 h λh=>c1 h λh=>c1 h λh=>c1 h λh=>rt
noncomputable def bAo:dB:=⟨221,Tryz.f221,[.v (.str)],[.int .i64,.bool],[],[(55,S55),(290,aSj),(289,bAl),(159,aJL)],false,[]⟩
theorem bIV:FO bAo:=mo Tryz.func221 ⟨QC,aJ6,aSM,V8,trivial⟩
def aG5 (x0:ByteArray):Prop:=((P55 x0 (aA #[45]))/\(if ((↑(aN (bY x0 (aA #[45]))):Int) != 3)=true then True else ((0<(↑(aN (bY x0 (aA #[45]))):Int))/\((1<(↑(aN (bY x0 (aA #[45]))):Int))/\((2<(↑(aN (bY x0 (aA #[45]))):Int))/\((aSL (eX (aD (bY x0 (aA #[45])) 0 aC)) (eX (aD (bY x0 (aA #[45])) 1 aC)) (eX (aD (bY x0 (aA #[45])) 2 aC)))/\(if (F9 (eX (aD (bY x0 (aA #[45])) 0 aC)) (eX (aD (bY x0 (aA #[45])) 1 aC)) (eX (aD (bY x0 (aA #[45])) 2 aC)) != 0)=true then True else ((OI (Ib (eX (aD (bY x0 (aA #[45])) 0 aC)) (eX (aD (bY x0 (aA #[45])) 1 aC)) (eX (aD (bY x0 (aA #[45])) 2 aC))))/\True))))))))
def DY (x0:ByteArray):Int:=(if ((↑(aN (bY x0 (aA #[45]))):Int) != 3)=true then 0 else (if (F9 (eX (aD (bY x0 (aA #[45])) 0 aC)) (eX (aD (bY x0 (aA #[45])) 1 aC)) (eX (aD (bY x0 (aA #[45])) 2 aC)) != 0)=true then 0 else (if (!aB (u0 (Ib (eX (aD (bY x0 (aA #[45])) 0 aC)) (eX (aD (bY x0 (aA #[45])) 1 aC)) (eX (aD (bY x0 (aA #[45])) 2 aC))))==aB x0)=true then 0 else Ib (eX (aD (bY x0 (aA #[45])) 0 aC)) (eX (aD (bY x0 (aA #[45])) 1 aC)) (eX (aD (bY x0 (aA #[45])) 2 aC)))))
def Fa (x0:ByteArray):Bool:=(if ((↑(aN (bY x0 (aA #[45]))):Int) != 3)=true then false else (if (F9 (eX (aD (bY x0 (aA #[45])) 0 aC)) (eX (aD (bY x0 (aA #[45])) 1 aC)) (eX (aD (bY x0 (aA #[45])) 2 aC)) != 0)=true then false else (if (!aB (u0 (Ib (eX (aD (bY x0 (aA #[45])) 0 aC)) (eX (aD (bY x0 (aA #[45])) 1 aC)) (eX (aD (bY x0 (aA #[45])) 2 aC))))==aB x0)=true then false else true)))
def bAp:=dR bAo (λ⟨x0,_⟩=>aG5 x0) λ⟨x0,_⟩=>[⟨.int .i64,DY x0⟩,⟨.bool,Fa x0⟩]
theorem aSU:c7 221 bAp:=dF bIV λ⟨x0,_⟩ h _ K q=>c1 h λh=>o3 h (λh=>rt) λh=>tP ((by decide):(0:Int)<=(0:Int))<|c1 h λh=>tv<|tP ((by decide):(0:Int)<=(1:Int))<|c1 h λh=>tv<|tP ((by decide):(0:Int)<=(2:Int))<|c1 h λh=>tv<|c1 h λh=>o3 h (λh=>tT<|rt) λh=>c1 h λh=>e2 (rt) (rt)
noncomputable def bAq:dB:=⟨222,Tryz.f222,[.v fL],[.str],[],[(184,aNs),(159,aJL),(127,aG0)],false,[]⟩
theorem bIW:FO bAq:=mo Tryz.func222 ⟨aBT,V8,QJ,trivial⟩
def aNN (x0:Int×Int×Int×Unit):Prop:=(if (!tD x0)=true then True else ((OI x0.1)/\((aH (u0 x0.1)+1<=9223372036854775807)/\((aH (u0 x0.1++aA #[32])+aH (n9 [x0.2.1,x0.2.2.1])<=9223372036854775807)/\True))))
def QY (x0:Int×Int×Int×Unit):ByteArray:=(if (!tD x0)=true then aA #[] else u0 x0.1++aA #[32]++n9 [x0.2.1,x0.2.2.1])
def bAr:=dR bAq (λ⟨x0,_⟩=>aNN x0) λ⟨x0,_⟩=>[⟨.str,QY x0⟩]
theorem aSV:c7 222 bAr:=dF bIW λ⟨x0,_⟩ h _ K q=>tv<|N1 h (λh=>rt) λh=>c1 h λh=>c1 h λh=>tv<|c1 h λh=>rt
noncomputable def bAs:dB:=⟨147,Tryz.f147,[.v (.str)],[.cons (.int .i64) JZ,.bool],[],[(72,S72),(221,bAp),(220,aG4),(222,bAr)],false,[]⟩
theorem bIX:FO bAs:=mo Tryz.func147 ⟨aFb,aSU,QV,aSV,trivial⟩
def aNO (x0:ByteArray):Prop:=((P72 x0 (aA #[32]))/\((aG5 (pI x0 (aA #[32])))/\((aG3 (iR x0 (aA #[32])) 2)/\(if (!Fa (pI x0 (aA #[32])))=true then True else (if (!mR (iR x0 (aA #[32])) 2)=true then True else ((0<(↑(aN (dC (iR x0 (aA #[32])) 2)):Int))/\((1<(↑(aN (dC (iR x0 (aA #[32])) 2)):Int))/\((aNN (DY (pI x0 (aA #[32])),aD (dC (iR x0 (aA #[32])) 2) 0 0,aD (dC (iR x0 (aA #[32])) 2) 1 0,()))/\True))))))))
def MY (x0:ByteArray):Int×Int×Int×Unit:=(if (!Fa (pI x0 (aA #[32])))=true then (0,0,0,()) else (if (!mR (iR x0 (aA #[32])) 2)=true then (0,0,0,()) else (if (!aB (QY (DY (pI x0 (aA #[32])),aD (dC (iR x0 (aA #[32])) 2) 0 0,aD (dC (iR x0 (aA #[32])) 2) 1 0,()))==aB x0)=true then (0,0,0,()) else (DY (pI x0 (aA #[32])),aD (dC (iR x0 (aA #[32])) 2) 0 0,aD (dC (iR x0 (aA #[32])) 2) 1 0,()))))
def V9 (x0:ByteArray):Bool:=(if (!Fa (pI x0 (aA #[32])))=true then false else (if (!mR (iR x0 (aA #[32])) 2)=true then false else (if (!aB (QY (DY (pI x0 (aA #[32])),aD (dC (iR x0 (aA #[32])) 2) 0 0,aD (dC (iR x0 (aA #[32])) 2) 1 0,()))==aB x0)=true then false else true)))
def bAt:=dR bAs (λ⟨x0,_⟩=>aNO x0) λ⟨x0,_⟩=>[⟨.cons (.int .i64) JZ,MY x0⟩,⟨.bool,V9 x0⟩]
theorem aSW:c7 147 bAt:=dF bIX λ⟨x0,_⟩ h _ K q=>c1 h λh=>c1 h λh=>c1 h λh=>o3 h (λh=>tT<|rt) λh=>o3 h (λh=>rt) λh=>tP ((by decide):(0:Int)<=(0:Int))<|c1 h λh=>tP ((by decide):(0:Int)<=(1:Int))<|c1 h λh=>c1 h λh=>e2 (rt) (rt)
noncomputable def bAu:dB:=⟨148,Tryz.f148,[.v (.sl fL),.v fL],[.sl fL,.int .i64],[],[(81,S81),(66,S66),(184,aNs),(119,aR9)],false,[]⟩
theorem bIY:FO bAu:=mo Tryz.func148 ⟨aQf,Tz,aBT,aJg,trivial⟩
def aSX (x0:List cU) (x1:Int×Int×Int×Unit):Prop:=((P81 x0)/\((aN (QN x0)+1)*24<=140737488355328)/\True)
def Va (x0:List cU) (x1:Int×Int×Int×Unit):List cU:=(if (!jV x0)=true then [] else (if (!tD x1)=true then [] else (if (!AQ (QN x0++[x1]))=true then [] else (if (decide ((x0.length:Int)>=24))=true then [] else QN x0++[x1]))))
def Vb (x0:List cU) (x1:Int×Int×Int×Unit):Int:=(if (!jV x0)=true then 1 else (if (!tD x1)=true then 2 else (if (!AQ (QN x0++[x1]))=true then 6 else (if (decide ((x0.length:Int)>=24))=true then 5 else 0))))
def bAv:=dR bAu (λ⟨x0,x1,_⟩=>aSX x0 x1) λ⟨x0,x1,_⟩=>[⟨.sl fL,Va x0 x1⟩,⟨.int .i64,Vb x0 x1⟩]
theorem aSY:c7 148 bAv:=dF bIY λ⟨x0,x1,_⟩ h _ K q=>cS h λs0 h=>cS h λs1 h=>tP s0<|tP s1<|tP (VQ [eL 0 fL x0,eT 1 fL x1,eO 3 0 0 [],(4,.a (.val (.slice none 0 0))),eI 5 0,eW 6 1,eL 7 fL x0,eT 9 fL x1,eW 10 2,eW 11 1] [some (fY fL [x1] true none (some false)),jB fL (QN x0++[x1]),jB fL [x1]])<|tv<|e2 (rt) (tv<|e2 (rt) (tv<|e2 (rt) (e2 (rt) (rt))))
noncomputable def bAw:dB:=⟨149,Tryz.f149,[.v (.str)],[.cons (.int .i64) fL,.bool],[],[(220,aG4),(58,S58)],false,[]⟩
theorem bIZ:FO bAw:=mo Tryz.func149 ⟨QV,aIH,trivial⟩
def aNP (x0:ByteArray):Prop:=((aG3 x0 4)/\(if (!mR x0 4)=true then True else ((0<(↑(aN (dC x0 4)):Int))/\((1<(↑(aN (dC x0 4)):Int))/\((2<(↑(aN (dC x0 4)):Int))/\((3<(↑(aN (dC x0 4)):Int))/\True))))))
def Vc (x0:ByteArray):Int×Int×Int×Int×Unit:=(if (!mR x0 4)=true then (0,0,0,0,()) else (if (!BV (aD (dC x0 4) 0 0,aD (dC x0 4) 1 0,aD (dC x0 4) 2 0,aD (dC x0 4) 3 0,()))=true then (0,0,0,0,()) else (aD (dC x0 4) 0 0,aD (dC x0 4) 1 0,aD (dC x0 4) 2 0,aD (dC x0 4) 3 0,())))
def Ve (x0:ByteArray):Bool:=(if (!mR x0 4)=true then false else (if (!BV (aD (dC x0 4) 0 0,aD (dC x0 4) 1 0,aD (dC x0 4) 2 0,aD (dC x0 4) 3 0,()))=true then false else true))
def bAx:=dR bAw (λ⟨x0,_⟩=>aNP x0) λ⟨x0,_⟩=>[⟨.cons (.int .i64) fL,Vc x0⟩,⟨.bool,Ve x0⟩]
theorem aSZ:c7 149 bAx:=dF bIZ λ⟨x0,_⟩ h _ K q=>c1 h λh=>o3 h (λh=>rt) λh=>tP ((by decide):(0:Int)<=(0:Int))<|c1 h λh=>tP ((by decide):(0:Int)<=(1:Int))<|c1 h λh=>tP ((by decide):(0:Int)<=(2:Int))<|c1 h λh=>tP ((by decide):(0:Int)<=(3:Int))<|c1 h λh=>tv<|e2 (rt) (rt)
noncomputable def bAy:dB:=⟨150,Tryz.f150,[.v (.str)],[.cons (.int .i64) JZ,.bool],[],[(220,aG4),(61,S61)],false,[]⟩
theorem bJa:FO bAy:=mo Tryz.func150 ⟨QV,aIV,trivial⟩
def aNQ (x0:ByteArray):Prop:=((aG3 x0 3)/\(if (!mR x0 3)=true then True else ((0<(↑(aN (dC x0 3)):Int))/\((1<(↑(aN (dC x0 3)):Int))/\((2<(↑(aN (dC x0 3)):Int))/\True)))))
def Vf (x0:ByteArray):Int×Int×Int×Unit:=(if (!mR x0 3)=true then (0,0,0,()) else (if (!vQ (aD (dC x0 3) 0 0,aD (dC x0 3) 1 0,aD (dC x0 3) 2 0,()))=true then (0,0,0,()) else (aD (dC x0 3) 0 0,aD (dC x0 3) 1 0,aD (dC x0 3) 2 0,())))
def Vg (x0:ByteArray):Bool:=(if (!mR x0 3)=true then false else (if (!vQ (aD (dC x0 3) 0 0,aD (dC x0 3) 1 0,aD (dC x0 3) 2 0,()))=true then false else true))
def bAz:=dR bAy (λ⟨x0,_⟩=>aNQ x0) λ⟨x0,_⟩=>[⟨.cons (.int .i64) JZ,Vf x0⟩,⟨.bool,Vg x0⟩]
theorem aTa:c7 150 bAz:=dF bJa λ⟨x0,_⟩ h _ K q=>c1 h λh=>o3 h (λh=>rt) λh=>tP ((by decide):(0:Int)<=(0:Int))<|c1 h λh=>tP ((by decide):(0:Int)<=(1:Int))<|c1 h λh=>tP ((by decide):(0:Int)<=(2:Int))<|c1 h λh=>tv<|e2 (rt) (rt)
noncomputable def bA0:dB:=⟨151,Tryz.f151,[.v (.str)],[.cons (.int .i64) fL,.bool],[],[(220,aG4),(64,S64)],false,[]⟩
theorem bJb:FO bA0:=mo Tryz.func151 ⟨QV,aJc,trivial⟩
def aNR (x0:ByteArray):Prop:=((aG3 x0 4)/\(if (!mR x0 4)=true then True else ((0<(↑(aN (dC x0 4)):Int))/\((1<(↑(aN (dC x0 4)):Int))/\((2<(↑(aN (dC x0 4)):Int))/\((3<(↑(aN (dC x0 4)):Int))/\True))))))
def Vh (x0:ByteArray):Int×Int×Int×Int×Unit:=(if (!mR x0 4)=true then (0,0,0,0,()) else (if (!uG (aD (dC x0 4) 0 0,aD (dC x0 4) 1 0,aD (dC x0 4) 2 0,aD (dC x0 4) 3 0,()))=true then (0,0,0,0,()) else (aD (dC x0 4) 0 0,aD (dC x0 4) 1 0,aD (dC x0 4) 2 0,aD (dC x0 4) 3 0,())))
def Vi (x0:ByteArray):Bool:=(if (!mR x0 4)=true then false else (if (!uG (aD (dC x0 4) 0 0,aD (dC x0 4) 1 0,aD (dC x0 4) 2 0,aD (dC x0 4) 3 0,()))=true then false else true))
def bA1:=dR bA0 (λ⟨x0,_⟩=>aNR x0) λ⟨x0,_⟩=>[⟨.cons (.int .i64) fL,Vh x0⟩,⟨.bool,Vi x0⟩]
theorem aTb:c7 151 bA1:=dF bJb λ⟨x0,_⟩ h _ K q=>c1 h λh=>o3 h (λh=>rt) λh=>tP ((by decide):(0:Int)<=(0:Int))<|c1 h λh=>tP ((by decide):(0:Int)<=(1:Int))<|c1 h λh=>tP ((by decide):(0:Int)<=(2:Int))<|c1 h λh=>tP ((by decide):(0:Int)<=(3:Int))<|c1 h λh=>tv<|e2 (rt) (rt)
end
theorem aTc:KF aL (kR kE (kR (lF cN) (kR (lF cN) (kR (lF cN) HM)))) 27 80 276 4:=KF.of (vO 27) rfl rfl (by decide) (by decide) (by decide) eG Tryz.func276 (by kernel_rfl) (by kernel_rfl) (by kernel_rfl) (by kernel_rfl)
theorem aTd:KF aL (kR kE (kR (lF cN) (kR (lF cN) HM))) 36 89 280 3:=KF.of (vO 36) rfl rfl (by decide) (by decide) (by decide) eG Tryz.func280 (by kernel_rfl) (by kernel_rfl) (by kernel_rfl) (by kernel_rfl)
theorem aTe:KF aL (kR kE (kR (lF cN) (kR (lF cN) (kR (lF cN) HM)))) 39 92 282 4:=KF.of (vO 39) rfl rfl (by decide) (by decide) (by decide) eG Tryz.func282 (by kernel_rfl) (by kernel_rfl) (by kernel_rfl) (by kernel_rfl)
theorem aTf:KF aL (kR kE (kR (lF cN) (kR (lF cN) HM))) 41 98 285 3:=KF.of (vO 41) rfl rfl (by decide) (by decide) (by decide) eG Tryz.func285 (by kernel_rfl) (by kernel_rfl) (by kernel_rfl) (by kernel_rfl)
theorem aTg:KF aL (kR kE (kR (lF cN) (kR (lF cN) HM))) 42 101 287 3:=KF.of (vO 42) rfl rfl (by decide) (by decide) (by decide) eG Tryz.func287 (by kernel_rfl) (by kernel_rfl) (by kernel_rfl) (by kernel_rfl)
open Go.RowKit in
set_option maxHeartbeats 8000000 in
theorem QZ : aCo aL 203 27 80 4 /\ aCo aL 208 36 89 3 /\ aCo aL 212 39 92 4 /\ aCo aL 216 41 98 3 /\ aCo aL 219 42 101 3 := by
  refine ⟨?_, ?_, ?_, ?_, ?_⟩ <;>
  (intro w m b off cap vb voff vcap i0 vs hu hi0 hz1 hcapm hroom hsrc R1 R2
   have mixed := mixed
   first | go_enter zI, CL | go_enter zJ, CM | go_enter zK, CN | go_enter zL, CO | go_enter zM, CP
   go_wp2_with (at_builtin; refine wpList_append_room_src _ rfl _ _ _ _ rfl _ i0 hu hi0 b off m cap rfl _ rfl 1 vs hsrc hroom R1.out R2.out ?_)
   go_ret
   exact ⟨rfl, 0, rfl⟩)
open Go.RowKit in
set_option maxHeartbeats 8000000 in
theorem KI : QL aL 203 27 80 /\ QL aL 208 36 89 /\ QL aL 212 39 92 /\ QL aL 216 41 98 /\ QL aL 219 42 101 := by
  refine ⟨?_, ?_, ?_, ?_, ?_⟩ <;>
  (intro w m ad cap vb voff vcap G ROW hnil hlen hroom hmax hge hgm hrun
   have mixed := mixed
   first | go_enter zI, CL | go_enter zJ, CM | go_enter zK, CN | go_enter zL, CO | go_enter zM, CP
   cases ad with
   | none =>
     have h0 := hnil rfl;subst h0
     go_wp2_with (at_builtin; refine vR _ rfl _ _ _ _ rfl _ _ rfl rfl _ _ (hrun _) ?_)
     go_ret
     exact ⟨rfl, rfl⟩
   | some a =>
     obtain ⟨ab, ao, asp⟩ := a
     go_wp2_with (at_builtin; refine vR _ rfl _ _ _ _ rfl _ _ rfl rfl _ _ (hrun _) ?_)
     all_goals (go_ret; exact ⟨rfl, rfl⟩))
open Go.RowKit in
set_option maxHeartbeats 8000000 in
theorem Fb : I6 aL 203 27 276 4 /\ I6 aL 208 36 280 3 /\ I6 aL 212 39 282 4 /\ I6 aL 216 41 285 3 /\ I6 aL 219 42 287 3 := by
  refine ⟨?_, ?_, ?_, ?_, ?_⟩ <;>
  (intro w m b off cap vb voff vcap i vs ds W1 hi hroom hcapm N hov hcp1 hcp2
   have hz2 : ¬ ((i : Int) = (m : Int)) := by omega
   have hw1 : cN.wrap ((i : Int) + 1) = (i : Int) + 1 := by unfold maxLen at hcapm; rw [rN]; omega
   have hw2 : cN.wrap ((m : Int) + 1) = (m : Int) + 1 := by unfold maxLen at hcapm; rw [rN]; omega
   have hb1 : (0 : Int) <= (i : Int) + 1 := by omega
   have hin : i <= m := by omega
   have htn : ((i : Int) + 1).toNat = i + 1 := by omega
   have htn2 : ((m : Int) + 1).toNat = m + 1 := by omega
   have hb2 : ¬ (cap = i + 1) := by omega
   have hb3 : (i : Int) <= (m : Int) + 1 := by omega
   have hb4 : ¬ (cap = i) := by omega
   have hb5 : ¬ ((cap : Int) < (m : Int) + 1) := by omega
   have mixed := mixed
   first | go_enter zI, CL | go_enter zJ, CM | go_enter zK, CN | go_enter zL, CO | go_enter zM, CP
   go_wp2_with (simp only [hov])
   go_region_law_o (refine scp rfl _ _ _ _ rfl _ _ (by simp [SK, Gz]) (by simp [SK, Gz]) (hcp1 _ _ _) ?_)
   go_wp2_with (at_builtin; refine lcp _ rfl _ _ _ _ rfl _ _ rfl rfl (hcp2 _ (λ_ => rfl) (λ_ => rfl) _ _) ?_)
   go_ret
   exact ⟨rfl, 1, by rw [N.out]; rfl⟩)
open Go.RowKit in
set_option maxHeartbeats 8000000 in
theorem KJ : QM aL 203 27 80 4 /\ QM aL 208 36 89 3 /\ QM aL 212 39 92 4 /\ QM aL 216 41 98 3 /\ QM aL 219 42 101 3 := by
  refine ⟨?_, ?_, ?_, ?_, ?_⟩ <;>
  (intro w m b off cap vb voff vcap i vs ds ROW G hi hroom hlen hcapm hge hgm hrz hcpA hcpB
   have hz2 : ¬ ((i : Int) = (m : Int)) := by omega
   have hw1 : cN.wrap ((i : Int) + 1) = (i : Int) + 1 := by unfold maxLen at hgm; rw [rN]; omega
   have hw2 : cN.wrap ((m : Int) + 1) = (m : Int) + 1 := by unfold maxLen at hgm; rw [rN]; omega
   have hw3 : cN.wrap ((m : Int) + 1 - (i : Int)) = (m : Int) + 1 - (i : Int) := by unfold maxLen at hgm; rw [rN]; omega
   have hb1 : (0 : Int) <= (i : Int) + 1 := by omega
   have hin : i <= m := by omega
   have htn : ((i : Int) + 1).toNat = i + 1 := by omega
   have hGi : ¬ (G = i) := by omega
   have hGim : ¬ (G = i + 1) := by omega
   have hci : ¬ (cap = i) := by omega
   have hb3 : (i : Int) <= (m : Int) := by omega
   have hb5 : (cap : Int) < (m : Int) + 1 := by omega
   have hG63 : G <= 9223372036854775807 := by unfold maxLen at hgm; exact hgm
   have mixed := mixed
   first | go_enter zI, CL | go_enter zJ, CM | go_enter zK, CN | go_enter zL, CO | go_enter zM, CP
   go_wp2_with (first
     | (at_builtin; refine vR _ rfl _ _ _ _ rfl _ _ rfl rfl _ _ (hrz _) ?_)
     | (at_builtin; refine lcp _ rfl _ _ _ _ rfl _ _ rfl rfl (hcpA _ _) ?_))
   go_region_law_o (refine scp rfl _ _ _ _ rfl _ _ (by simp [SK, Gz]) (by simp [SK, Gz]) (hcpB 3 (G - (i + 1)) (cap - i)) ?_)
   go_wp2
   go_ret
   exact ⟨rfl, rfl⟩)
def aTh:List AT:=[tW gT,nV (lF .i64),tW gT]
def aCr (x0:List dG) (x1:Int) (x2:List dG):List dG:=x0.take x1.toNat++(x2++x0.drop x1.toNat)
def bA2 (x0:List dG) (x1:Int) (x2:List dG):Prop:=0<=x1/\x1<=x0.length/\x2.length=1/\x0.length<=1048576
def bA3:Am.Spec:={ sig:=aTh,pre:=λ⟨x0,x1,x2,_⟩=>bA2 x0 x1 x2,upd:=λ_=>[none,none],res:=λ⟨x0,x1,x2,_⟩=>[⟨p6 gT,aCr x0 x1 x2⟩] }
theorem aTi:c7 203 bA3:=yB zI<|aTc.contract Fb.1 KJ.1 QZ.1 KI.1
noncomputable section
noncomputable def bA4:dB:=⟨275,Tryz.f275,[.v (.str)],[.bool],[],[],false,[]⟩
theorem bJc:FO bA4:=mo Tryz.func275 trivial
def bJd (x0:ByteArray):Prop:=True
def MZ (x0:ByteArray):Bool := !aB x0==aB x0
def bA5:=dR bA4 (λ⟨x0,_⟩=>bJd x0) λ⟨x0,_⟩=>[⟨.bool,MZ x0⟩]
theorem aTj:c7 275 bA5:=dF bJc λ⟨x0,_⟩ h _ K q=>rt
noncomputable def bA6:dB:=⟨202,Tryz.f202,[.v (.str),.v (.str)],[.int .i64],[],[(275,bA5)],false,[]⟩
theorem bJe:FO bA6:=mo Tryz.func202 ⟨aTj,trivial⟩
def bJf (x0:ByteArray) (x1:ByteArray):Prop:=True
def DZ (x0:ByteArray) (x1:ByteArray):Int:=(if (MZ x0)=true then (if (MZ x1)=true then 0 else -1) else (if (MZ x1)=true then 1 else (if (Op.bytesLess (aB x0) (aB x1))=true then -1 else (if (!(Op.bytesLess (aB x0) (aB x1)||aB x0==aB x1))=true then 1 else 0))))
def aG6:=dR bA6 (λ⟨x0,x1,_⟩=>bJf x0 x1) λ⟨x0,x1,_⟩=>[⟨.int .i64,DZ x0 x1⟩]
theorem Q0:c7 202 aG6:=dF bJe λ⟨x0,x1,_⟩ h _ K q=>tv<|tv<|e1 (e1 (rt) (rt)) (e1 (rt) (e1 (rt) (e1 (rt) (rt))))
noncomputable def bA7:dB:=⟨132,Tryz.f132,[.v gT],[.str],[],[],false,[]⟩
theorem bJg:FO bA7:=mo Tryz.func132 trivial
def bJh (x0:ByteArray×Int×Int×Int×Unit):Prop:=True
def Vj (x0:ByteArray×Int×Int×Int×Unit):ByteArray:=x0.1
def aTk:=dR bA7 (λ⟨x0,_⟩=>bJh x0) λ⟨x0,_⟩=>[⟨.str,Vj x0⟩]
theorem aJM:c7 132 aTk:=dF bJg λ⟨x0,_⟩ h _ K q=>rt
noncomputable def bA8:dB:=⟨201,Tryz.f201,[.v gT,.v gT,.p .fn],[.int .i64],[],[(202,aG6),(132,aTk)],false,[]⟩
theorem bJi:FO bA8:=mo Tryz.func201 ⟨Q0,aJM,trivial⟩
def aJN (x0:ByteArray×Int×Int×Int×Unit) (x1:ByteArray×Int×Int×Int×Unit) (x2:Option Nat):Prop:=x2=some 132/\True
def Q2 (x0:ByteArray×Int×Int×Int×Unit) (x1:ByteArray×Int×Int×Int×Unit) (x2:Option Nat):Int:=DZ (Vj x0) (Vj x1)
def bA9:=dR bA8 (λ⟨x0,x1,x2,_⟩=>aJN x0 x1 x2) λ⟨x0,x1,x2,_⟩=>[⟨.int .i64,Q2 x0 x1 x2⟩]
theorem aTl:c7 201 bA9:=dF bJi λ⟨x0,x1,x2,_⟩ h _ K q=>by
 obtain ⟨rfl,h⟩:=h;exact tv<|tv<|tv<|rt
noncomputable def KK:dB:=⟨200,Tryz.f200,[.v (.sl gT),.v gT,.fn 201 [(true,.fn)]],[.int .i64,.bool],[],[(201,bA9)],false,[]⟩
theorem aJO:FO KK:=mo Tryz.func200 ⟨aTl,trivial⟩
def aCs (v9:Int) (v10:Int) (x0:List dG) (x2:Option Nat) (x1:ByteArray×Int×Int×Int×Unit):eD×bG:=([eL 0 gT x0,(2,nU 201 [pM aU x2]),eO 4 0 0 [],eI 8 (x0.length:Int),eI 9 v9,eI 10 v10],[some (fY gT [x1] true none (some false))])
mutual
def ZB:Nat->List dG->ByteArray×Int×Int×Int×Unit->Option Nat->List aY->Prop
 | 0,_,_,_,_=>False
 | n+1,x0,x1,x2,ds=>(wJ n (0) ((x0.length:Int)) (x0) (x2) (x1) ds)
def wJ:Nat->Int->Int->List dG->Option Nat->ByteArray×Int×Int×Int×Unit->List aY->Prop
 | 0,_,_,_,_,_,_=>False
 | n+1,v9,v10,x0,x2,x1,ds=>(if (decide (v9<v10))=true then ((cC .i64 (v9+v10))/\((cC .u64 (v9+v10))/\((cC .u64 (cQ (v9+v10) 2))/\((cC .i64 (cQ (v9+v10) 2))/\((0<=cQ (v9+v10) 2)/\(cQ (v9+v10) 2<(x0.length:Int))/\((aJN (aD x0 (aE (cQ (v9+v10) 2)) (aC,0,0,0,())) x1 x2)/\(if (decide (Q2 (aD x0 (aE (cQ (v9+v10) 2)) (aC,0,0,0,())) x1 x2<0))=true then ((cC .i64 (cQ (v9+v10) 2+1))/\(wJ n (cQ (v9+v10) 2+1) (v10) (x0) (x2) (x1) ds)) else (wJ n (v9) (cQ (v9+v10) 2) (x0) (x2) (x1) ds)))))))) else (if (decide (v9<(x0.length:Int)))=true then ((0<=v9)/\(v9<(x0.length:Int))/\((aJN (aD x0 (aE v9) (aC,0,0,0,())) x1 x2)/\(ds=[aP (.int .i64) v9,aP .bool (Q2 (aD x0 (aE v9) (aC,0,0,0,())) x1 x2==0)]))) else (ds=[aP (.int .i64) v9,aP .bool false])))
end
theorem aCt (ds:List aY) (K:jK) (q:Nat->Value):∀ n,(∀ {x0 x1 x2},ZB n x0 x1 x2 ds->St KK (x0,x1,(x2,()),()) ds [] K q)/\(∀ {v9 v10 x0 x2 x1},wJ n v9 v10 x0 x2 x1 ds->Cu KK 3 (aCs v9 v10 x0 x2 x1) ds [] K q):=by
 intro n
 induction n with
 | zero=>exact ⟨λh=>h.elim,λh=>h.elim⟩
 | succ n ih =>
 obtain ⟨i,i3⟩:=ih;exact ⟨λh=>jp (i3 h),
  λ{v9} {v10} {x0} {x2} {x1} h=>bR h (λh=>c1 h λh=>c1 h λh=>tP ((by decide):(0:Int)<=(1:Int))<|c1 h λh=>c1 h λh=>c2 h λh=>c1 h λh=>bR h (λh=>c1 h λh=>jp (i3 h)) λh=>jp (i3 h)) λh=>bR h (λh=>c2 h λh=>c1 h λh=>rh h) λh=>rh h⟩
def AZ (x0:List dG) (x1:ByteArray×Int×Int×Int×Unit) (y0:Option Nat) (h:Nat):Bool:=decide (Q2 (x0.getD h (aC,(0:Int),(0:Int),(0:Int),())) x1 y0<0)
def Q3 (x0:List dG) (x1:ByteArray×Int×Int×Int×Unit) (y0:Option Nat):Nat:=gS (AZ x0 x1 y0) (x0.length+1) 0 x0.length
def Fc (x0:List dG) (x1:ByteArray×Int×Int×Int×Unit) (y0:Option Nat) (k:Nat):Bool:=if k<x0.length then Q2 (x0.getD k (aC,(0:Int),(0:Int),(0:Int),())) x1 y0==0 else false
def l5 (x0:List dG) (x1:ByteArray×Int×Int×Int×Unit) (y0:Option Nat):Int:=(Q3 x0 x1 y0:Nat)
def mA (x0:List dG) (x1:ByteArray×Int×Int×Int×Unit) (y0:Option Nat):Bool:=Fc x0 x1 y0 (Q3 x0 x1 y0)
def ZC (x0:List dG) (x1:ByteArray×Int×Int×Int×Unit) (y0:Option Nat):Prop:=x0.length<=4611686018427387903/\∀ y∈x0,aJN y x1 y0
theorem Fe (n:Int):cC .u64 n↔0<=n/\n<=18446744073709551615:=by
 have e1:(cL).min=0:=by decide
 have e2:(cL).max=18446744073709551615:=by decide
 simp only [cC,e1,e2]
theorem aCu (x0:List dG) (x1:ByteArray×Int×Int×Int×Unit) (y0:Option Nat) (hm:x0.length<=4611686018427387903) (hp:∀ y∈x0,aJN y x1 y0):∀ (k i j:Nat),j - i<k->i<=j->j<=x0.length ->
  wJ k (i:Int) (j:Int) x0 y0 x1 [⟨.int .i64,((gS (AZ x0 x1 y0) k i j:Nat):Int)⟩,⟨.bool,Fc x0 x1 y0 (gS (AZ x0 x1 y0) k i j)⟩]:=by
 intro k
 induction k with
 | zero=>intro i j h;omega
 | succ k ih =>
  intro i j h hij hj;rw [wJ];by_cases hlt:i<j
  ·rw [if_pos (by simpa using hlt)];have e:cQ ((i:Int)+(j:Int)) 2=(((i+j) / 2:Nat):Int):=by
    rw [fG _ (by omega)];omega
   have hP:=hp _ (dN x0 ((i+j) / 2) (aC,(0:Int),(0:Int),(0:Int),()) (by omega));rw [e,aF];refine ⟨by rw [aK];omega,by rw [Fe];omega,by rw [Fe];omega,by rw [aK];omega,by omega,by omega,hP,?_⟩;simp only [gS,if_pos hlt];by_cases hq:AZ x0 x1 y0 ((i+j) / 2)=true
   ·rw [if_pos hq];exact (if_pos hq).mpr ⟨by rw [aK];omega,ih ((i+j) / 2+1) j (by omega) (by omega) hj⟩
   ·rw [if_neg hq];exact (if_neg hq).mpr (ih i ((i+j) / 2) (by omega) (by omega) (by omega))
  ·rw [if_neg (by simpa using hlt)];simp only [gS,if_neg hlt,Fc];by_cases hl:i<x0.length
   ·rw [if_pos (by simpa using hl),if_pos hl];exact ⟨by omega,by omega,hp _ (dN x0 i (aC,(0:Int),(0:Int),(0:Int),()) hl),rfl⟩
   ·rw [if_neg (by simpa using hl),if_neg hl]
def ZD:=dR KK (λ⟨x0,x1,⟨y0,_⟩,_⟩=>ZC x0 x1 y0) λ⟨x0,x1,⟨y0,_⟩,_⟩=>[⟨.int .i64,l5 x0 x1 y0⟩,⟨.bool,mA x0 x1 y0⟩]
theorem aCv:c7 200 ZD:=dF aJO (λ⟨x0,x1,⟨y0,_⟩,_⟩ h hwf K q =>
 (aCt _ K q ((x0.length+1+1))).1 (by rw [ZB];exact aCu x0 x1 y0 h.1 h.2 (x0.length+1) 0 x0.length (by omega) (by omega) (aT _)))
noncomputable def ZE:dB:=⟨131,Tryz.f131,[.own gT,.v gT,.fn 132 [],.v (.int .i64)],[.sl gT,.int .i64],[],[(76,S76),(203,bA3),(200,ZD),(132,aTk)],false,[]⟩
theorem aJP:FO ZE:=mo Tryz.func131 ⟨aQa,aTi,aCv,aJM,trivial⟩
def KL (x0:List dG) (x1:ByteArray×Int×Int×Int×Unit) (x3:Int):Prop:=((ZC x0 x1 (some 132))/\(if (mA x0 x1 (some 132))=true then True else (if (decide ((x0.length:Int)>=x3))=true then True else ((P76 x0)/\(bA2 (Yt x0) (l5 x0 x1 (some 132)) [x1])/\True))))
def A4 (x0:List dG) (x1:ByteArray×Int×Int×Int×Unit) (x3:Int):List dG:=(if (mA x0 x1 (some 132))=true then x0 else (if (decide ((x0.length:Int)>=x3))=true then x0 else aCr (Yt x0) (l5 x0 x1 (some 132)) [x1]))
def qM (x0:List dG) (x1:ByteArray×Int×Int×Int×Unit) (x3:Int):Int:=(if (mA x0 x1 (some 132))=true then 4 else (if (decide ((x0.length:Int)>=x3))=true then 5 else 0))
def ZF:=wD ZE (λ⟨x0,x1,_,x3,_⟩=>KL x0 x1 x3) (λ⟨x0,x1,_,x3,_⟩=>[none]) λ⟨x0,x1,_,x3,_⟩=>[⟨.sl gT,A4 x0 x1 x3⟩,⟨.int .i64,qM x0 x1 x3⟩]
theorem aCw:c7 131 ZF:=dF aJP λ⟨x0,x1,_,x3,_⟩ h _ K q=>c1 h λh=>o3 h (λh=>rt) λh=>o3 h (λh=>rt) λh=>cS h λs1 h=>cS h λs2 h=>tP s1<|tP s2<|tP (VQ [eW 0 0,eT 1 gT x1,(2,nU 132 []),eI 3 x3,eO 5 1 0 [],eO 6 2 0 [],eW 8 5,eI 9 0,eI 10 (l5 x0 x1 (some 132)),eB 11 (mA x0 x1 (some 132)),(12,gO [O9 (l5 x0 x1 (some 132)),N2 (mA x0 x1 (some 132))]),eW 13 0,eT 14 gT x1,(15,nU 201 [HY 2 0 []]),(16,gO [O9 (l5 x0 x1 (some 132)),N2 (mA x0 x1 (some 132))]),eI 17 (l5 x0 x1 (some 132)),eB 18 (mA x0 x1 (some 132)),eB 19 (mA x0 x1 (some 132)),eB 20 (mA x0 x1 (some 132)),eB 22 (decide ((x0.length:Int)>=x3)),eW 23 0,eI 24 (x0.length:Int),eI 25 x3,eB 26 (decide ((x0.length:Int)>=x3)),eW 28 0,eI 30 (l5 x0 x1 (some 132)),eT 31 gT x1,eW 33 5] [jB gT x0,some (fY gT [x1] true none (some false)),some (fY aU [some 132] true none (some false)),none,none,jB gT (aCr (Yt x0) (l5 x0 x1 (some 132)) [x1])])<|rt
end
def aTm:List AT:=[tW fP,nV (lF .i64),tW fP]
def aCx (x0:List bX) (x1:Int) (x2:List bX):List bX:=x0.take x1.toNat++(x2++x0.drop x1.toNat)
def bAA (x0:List bX) (x1:Int) (x2:List bX):Prop:=0<=x1/\x1<=x0.length/\x2.length=1/\x0.length<=1048576
def bAB:Am.Spec:={ sig:=aTm,pre:=λ⟨x0,x1,x2,_⟩=>bAA x0 x1 x2,upd:=λ_=>[none,none],res:=λ⟨x0,x1,x2,_⟩=>[⟨p6 fP,aCx x0 x1 x2⟩] }
theorem aTn:c7 208 bAB:=yB zJ<|aTd.contract Fb.2.1 KJ.2.1 QZ.2.1 KI.2.1
noncomputable section
noncomputable def bAC:dB:=⟨135,Tryz.f135,[.v fP],[.str],[],[],false,[]⟩
theorem bJj:FO bAC:=mo Tryz.func135 trivial
def bJk (x0:ByteArray×Int×Int×Unit):Prop:=True
def Vk (x0:ByteArray×Int×Int×Unit):ByteArray:=x0.1
def aTo:=dR bAC (λ⟨x0,_⟩=>bJk x0) λ⟨x0,_⟩=>[⟨.str,Vk x0⟩]
theorem aJQ:c7 135 aTo:=dF bJj λ⟨x0,_⟩ h _ K q=>rt
noncomputable def bAD:dB:=⟨207,Tryz.f207,[.v fP,.v fP,.p .fn],[.int .i64],[],[(202,aG6),(135,aTo)],false,[]⟩
theorem bJl:FO bAD:=mo Tryz.func207 ⟨Q0,aJQ,trivial⟩
def aJR (x0:ByteArray×Int×Int×Unit) (x1:ByteArray×Int×Int×Unit) (x2:Option Nat):Prop:=x2=some 135/\True
def Q4 (x0:ByteArray×Int×Int×Unit) (x1:ByteArray×Int×Int×Unit) (x2:Option Nat):Int:=DZ (Vk x0) (Vk x1)
def bAE:=dR bAD (λ⟨x0,x1,x2,_⟩=>aJR x0 x1 x2) λ⟨x0,x1,x2,_⟩=>[⟨.int .i64,Q4 x0 x1 x2⟩]
theorem aTp:c7 207 bAE:=dF bJl λ⟨x0,x1,x2,_⟩ h _ K q=>by
 obtain ⟨rfl,h⟩:=h;exact tv<|tv<|tv<|rt
noncomputable def KM:dB:=⟨206,Tryz.f206,[.v (.sl fP),.v fP,.fn 207 [(true,.fn)]],[.int .i64,.bool],[],[(207,bAE)],false,[]⟩
theorem aJS:FO KM:=mo Tryz.func206 ⟨aTp,trivial⟩
def aCy (v9:Int) (v10:Int) (x0:List bX) (x2:Option Nat) (x1:ByteArray×Int×Int×Unit):eD×bG:=([eL 0 fP x0,(2,nU 207 [pM aU x2]),eO 4 0 0 [],eI 8 (x0.length:Int),eI 9 v9,eI 10 v10],[some (fY fP [x1] true none (some false))])
mutual
def ZG:Nat->List bX->ByteArray×Int×Int×Unit->Option Nat->List aY->Prop
 | 0,_,_,_,_=>False
 | n+1,x0,x1,x2,ds=>(wK n (0) ((x0.length:Int)) (x0) (x2) (x1) ds)
def wK:Nat->Int->Int->List bX->Option Nat->ByteArray×Int×Int×Unit->List aY->Prop
 | 0,_,_,_,_,_,_=>False
 | n+1,v9,v10,x0,x2,x1,ds=>(if (decide (v9<v10))=true then ((cC .i64 (v9+v10))/\((cC .u64 (v9+v10))/\((cC .u64 (cQ (v9+v10) 2))/\((cC .i64 (cQ (v9+v10) 2))/\((0<=cQ (v9+v10) 2)/\(cQ (v9+v10) 2<(x0.length:Int))/\((aJR (aD x0 (aE (cQ (v9+v10) 2)) (aC,0,0,())) x1 x2)/\(if (decide (Q4 (aD x0 (aE (cQ (v9+v10) 2)) (aC,0,0,())) x1 x2<0))=true then ((cC .i64 (cQ (v9+v10) 2+1))/\(wK n (cQ (v9+v10) 2+1) (v10) (x0) (x2) (x1) ds)) else (wK n (v9) (cQ (v9+v10) 2) (x0) (x2) (x1) ds)))))))) else (if (decide (v9<(x0.length:Int)))=true then ((0<=v9)/\(v9<(x0.length:Int))/\((aJR (aD x0 (aE v9) (aC,0,0,())) x1 x2)/\(ds=[aP (.int .i64) v9,aP .bool (Q4 (aD x0 (aE v9) (aC,0,0,())) x1 x2==0)]))) else (ds=[aP (.int .i64) v9,aP .bool false])))
end
theorem aCz (ds:List aY) (K:jK) (q:Nat->Value):∀ n,(∀ {x0 x1 x2},ZG n x0 x1 x2 ds->St KM (x0,x1,(x2,()),()) ds [] K q)/\(∀ {v9 v10 x0 x2 x1},wK n v9 v10 x0 x2 x1 ds->Cu KM 3 (aCy v9 v10 x0 x2 x1) ds [] K q):=by
 intro n
 induction n with
 | zero=>exact ⟨λh=>h.elim,λh=>h.elim⟩
 | succ n ih =>
 obtain ⟨i,i3⟩:=ih;exact ⟨λh=>jp (i3 h),
  λ{v9} {v10} {x0} {x2} {x1} h=>bR h (λh=>c1 h λh=>c1 h λh=>tP ((by decide):(0:Int)<=(1:Int))<|c1 h λh=>c1 h λh=>c2 h λh=>c1 h λh=>bR h (λh=>c1 h λh=>jp (i3 h)) λh=>jp (i3 h)) λh=>bR h (λh=>c2 h λh=>c1 h λh=>rh h) λh=>rh h⟩
def A5 (x0:List bX) (x1:ByteArray×Int×Int×Unit) (y0:Option Nat) (h:Nat):Bool:=decide (Q4 (x0.getD h (aC,(0:Int),(0:Int),())) x1 y0<0)
def Q6 (x0:List bX) (x1:ByteArray×Int×Int×Unit) (y0:Option Nat):Nat:=gS (A5 x0 x1 y0) (x0.length+1) 0 x0.length
def Ff (x0:List bX) (x1:ByteArray×Int×Int×Unit) (y0:Option Nat) (k:Nat):Bool:=if k<x0.length then Q4 (x0.getD k (aC,(0:Int),(0:Int),())) x1 y0==0 else false
def mB (x0:List bX) (x1:ByteArray×Int×Int×Unit) (y0:Option Nat):Int:=(Q6 x0 x1 y0:Nat)
def mC (x0:List bX) (x1:ByteArray×Int×Int×Unit) (y0:Option Nat):Bool:=Ff x0 x1 y0 (Q6 x0 x1 y0)
def ZH (x0:List bX) (x1:ByteArray×Int×Int×Unit) (y0:Option Nat):Prop:=x0.length<=4611686018427387903/\∀ y∈x0,aJR y x1 y0
theorem Fg (n:Int):cC .u64 n↔0<=n/\n<=18446744073709551615:=by
 have e1:(cL).min=0:=by decide
 have e2:(cL).max=18446744073709551615:=by decide
 simp only [cC,e1,e2]
theorem aC0 (x0:List bX) (x1:ByteArray×Int×Int×Unit) (y0:Option Nat) (hm:x0.length<=4611686018427387903) (hp:∀ y∈x0,aJR y x1 y0):∀ (k i j:Nat),j - i<k->i<=j->j<=x0.length ->
  wK k (i:Int) (j:Int) x0 y0 x1 [⟨.int .i64,((gS (A5 x0 x1 y0) k i j:Nat):Int)⟩,⟨.bool,Ff x0 x1 y0 (gS (A5 x0 x1 y0) k i j)⟩]:=by
 intro k
 induction k with
 | zero=>intro i j h;omega
 | succ k ih =>
  intro i j h hij hj;rw [wK];by_cases hlt:i<j
  ·rw [if_pos (by simpa using hlt)];have e:cQ ((i:Int)+(j:Int)) 2=(((i+j) / 2:Nat):Int):=by
    rw [fG _ (by omega)];omega
   have hP:=hp _ (dN x0 ((i+j) / 2) (aC,(0:Int),(0:Int),()) (by omega));rw [e,aF];refine ⟨by rw [aK];omega,by rw [Fg];omega,by rw [Fg];omega,by rw [aK];omega,by omega,by omega,hP,?_⟩;simp only [gS,if_pos hlt];by_cases hq:A5 x0 x1 y0 ((i+j) / 2)=true
   ·rw [if_pos hq];exact (if_pos hq).mpr ⟨by rw [aK];omega,ih ((i+j) / 2+1) j (by omega) (by omega) hj⟩
   ·rw [if_neg hq];exact (if_neg hq).mpr (ih i ((i+j) / 2) (by omega) (by omega) (by omega))
  ·rw [if_neg (by simpa using hlt)];simp only [gS,if_neg hlt,Ff];by_cases hl:i<x0.length
   ·rw [if_pos (by simpa using hl),if_pos hl];exact ⟨by omega,by omega,hp _ (dN x0 i (aC,(0:Int),(0:Int),()) hl),rfl⟩
   ·rw [if_neg (by simpa using hl),if_neg hl]
def ZI:=dR KM (λ⟨x0,x1,⟨y0,_⟩,_⟩=>ZH x0 x1 y0) λ⟨x0,x1,⟨y0,_⟩,_⟩=>[⟨.int .i64,mB x0 x1 y0⟩,⟨.bool,mC x0 x1 y0⟩]
theorem aC1:c7 206 ZI:=dF aJS (λ⟨x0,x1,⟨y0,_⟩,_⟩ h hwf K q =>
 (aCz _ K q ((x0.length+1+1))).1 (by rw [ZG];exact aC0 x0 x1 y0 h.1 h.2 (x0.length+1) 0 x0.length (by omega) (by omega) (aT _)))
noncomputable def ZJ:dB:=⟨134,Tryz.f134,[.own fP,.v fP,.fn 135 [],.v (.int .i64)],[.sl fP,.int .i64],[],[(79,S79),(208,bAB),(206,ZI),(135,aTo)],false,[]⟩
theorem aJT:FO ZJ:=mo Tryz.func134 ⟨aQd,aTn,aC1,aJQ,trivial⟩
def KN (x0:List bX) (x1:ByteArray×Int×Int×Unit) (x3:Int):Prop:=((ZH x0 x1 (some 135))/\(if (mC x0 x1 (some 135))=true then True else (if (decide ((x0.length:Int)>=x3))=true then True else ((P79 x0)/\(bAA (Yw x0) (mB x0 x1 (some 135)) [x1])/\True))))
def A6 (x0:List bX) (x1:ByteArray×Int×Int×Unit) (x3:Int):List bX:=(if (mC x0 x1 (some 135))=true then x0 else (if (decide ((x0.length:Int)>=x3))=true then x0 else aCx (Yw x0) (mB x0 x1 (some 135)) [x1]))
def qN (x0:List bX) (x1:ByteArray×Int×Int×Unit) (x3:Int):Int:=(if (mC x0 x1 (some 135))=true then 4 else (if (decide ((x0.length:Int)>=x3))=true then 5 else 0))
def ZK:=wD ZJ (λ⟨x0,x1,_,x3,_⟩=>KN x0 x1 x3) (λ⟨x0,x1,_,x3,_⟩=>[none]) λ⟨x0,x1,_,x3,_⟩=>[⟨.sl fP,A6 x0 x1 x3⟩,⟨.int .i64,qN x0 x1 x3⟩]
theorem aC2:c7 134 ZK:=dF aJT λ⟨x0,x1,_,x3,_⟩ h _ K q=>c1 h λh=>o3 h (λh=>rt) λh=>o3 h (λh=>rt) λh=>cS h λs1 h=>cS h λs2 h=>tP s1<|tP s2<|tP (VQ [eW 0 0,eT 1 fP x1,(2,nU 135 []),eI 3 x3,eO 5 1 0 [],eO 6 2 0 [],eW 8 5,eI 9 0,eI 10 (mB x0 x1 (some 135)),eB 11 (mC x0 x1 (some 135)),(12,gO [O9 (mB x0 x1 (some 135)),N2 (mC x0 x1 (some 135))]),eW 13 0,eT 14 fP x1,(15,nU 207 [HY 2 0 []]),(16,gO [O9 (mB x0 x1 (some 135)),N2 (mC x0 x1 (some 135))]),eI 17 (mB x0 x1 (some 135)),eB 18 (mC x0 x1 (some 135)),eB 19 (mC x0 x1 (some 135)),eB 20 (mC x0 x1 (some 135)),eB 22 (decide ((x0.length:Int)>=x3)),eW 23 0,eI 24 (x0.length:Int),eI 25 x3,eB 26 (decide ((x0.length:Int)>=x3)),eW 28 0,eI 30 (mB x0 x1 (some 135)),eT 31 fP x1,eW 33 5] [jB fP x0,some (fY fP [x1] true none (some false)),some (fY aU [some 135] true none (some false)),none,none,jB fP (aCx (Yw x0) (mB x0 x1 (some 135)) [x1])])<|rt
end
def aTq:List AT:=[tW gT,nV (lF .i64),tW gT]
def aC3 (x0:List dG) (x1:Int) (x2:List dG):List dG:=x0.take x1.toNat++(x2++x0.drop x1.toNat)
def bAF (x0:List dG) (x1:Int) (x2:List dG):Prop:=0<=x1/\x1<=x0.length/\x2.length=1/\x0.length<=1048576
def bAG:Am.Spec:={ sig:=aTq,pre:=λ⟨x0,x1,x2,_⟩=>bAF x0 x1 x2,upd:=λ_=>[none,none],res:=λ⟨x0,x1,x2,_⟩=>[⟨p6 gT,aC3 x0 x1 x2⟩] }
theorem aTr:c7 212 bAG:=yB zK<|aTe.contract Fb.2.2.1 KJ.2.2.1 QZ.2.2.1 KI.2.2.1
noncomputable section
noncomputable def bAH:dB:=⟨138,Tryz.f138,[.v gT],[.str],[],[],false,[]⟩
theorem bJm:FO bAH:=mo Tryz.func138 trivial
def bJn (x0:ByteArray×Int×Int×Int×Unit):Prop:=True
def Vl (x0:ByteArray×Int×Int×Int×Unit):ByteArray:=x0.1
def aTs:=dR bAH (λ⟨x0,_⟩=>bJn x0) λ⟨x0,_⟩=>[⟨.str,Vl x0⟩]
theorem aJU:c7 138 aTs:=dF bJm λ⟨x0,_⟩ h _ K q=>rt
noncomputable def bAI:dB:=⟨211,Tryz.f211,[.v gT,.v gT,.p .fn],[.int .i64],[],[(202,aG6),(138,aTs)],false,[]⟩
theorem bJo:FO bAI:=mo Tryz.func211 ⟨Q0,aJU,trivial⟩
def aJV (x0:ByteArray×Int×Int×Int×Unit) (x1:ByteArray×Int×Int×Int×Unit) (x2:Option Nat):Prop:=x2=some 138/\True
def Q7 (x0:ByteArray×Int×Int×Int×Unit) (x1:ByteArray×Int×Int×Int×Unit) (x2:Option Nat):Int:=DZ (Vl x0) (Vl x1)
def bAJ:=dR bAI (λ⟨x0,x1,x2,_⟩=>aJV x0 x1 x2) λ⟨x0,x1,x2,_⟩=>[⟨.int .i64,Q7 x0 x1 x2⟩]
theorem aTt:c7 211 bAJ:=dF bJo λ⟨x0,x1,x2,_⟩ h _ K q=>by
 obtain ⟨rfl,h⟩:=h;exact tv<|tv<|tv<|rt
noncomputable def KO:dB:=⟨210,Tryz.f210,[.v (.sl gT),.v gT,.fn 211 [(true,.fn)]],[.int .i64,.bool],[],[(211,bAJ)],false,[]⟩
theorem aJW:FO KO:=mo Tryz.func210 ⟨aTt,trivial⟩
def aC4 (v9:Int) (v10:Int) (x0:List dG) (x2:Option Nat) (x1:ByteArray×Int×Int×Int×Unit):eD×bG:=([eL 0 gT x0,(2,nU 211 [pM aU x2]),eO 4 0 0 [],eI 8 (x0.length:Int),eI 9 v9,eI 10 v10],[some (fY gT [x1] true none (some false))])
mutual
def ZL:Nat->List dG->ByteArray×Int×Int×Int×Unit->Option Nat->List aY->Prop
 | 0,_,_,_,_=>False
 | n+1,x0,x1,x2,ds=>(wL n (0) ((x0.length:Int)) (x0) (x2) (x1) ds)
def wL:Nat->Int->Int->List dG->Option Nat->ByteArray×Int×Int×Int×Unit->List aY->Prop
 | 0,_,_,_,_,_,_=>False
 | n+1,v9,v10,x0,x2,x1,ds=>(if (decide (v9<v10))=true then ((cC .i64 (v9+v10))/\((cC .u64 (v9+v10))/\((cC .u64 (cQ (v9+v10) 2))/\((cC .i64 (cQ (v9+v10) 2))/\((0<=cQ (v9+v10) 2)/\(cQ (v9+v10) 2<(x0.length:Int))/\((aJV (aD x0 (aE (cQ (v9+v10) 2)) (aC,0,0,0,())) x1 x2)/\(if (decide (Q7 (aD x0 (aE (cQ (v9+v10) 2)) (aC,0,0,0,())) x1 x2<0))=true then ((cC .i64 (cQ (v9+v10) 2+1))/\(wL n (cQ (v9+v10) 2+1) (v10) (x0) (x2) (x1) ds)) else (wL n (v9) (cQ (v9+v10) 2) (x0) (x2) (x1) ds)))))))) else (if (decide (v9<(x0.length:Int)))=true then ((0<=v9)/\(v9<(x0.length:Int))/\((aJV (aD x0 (aE v9) (aC,0,0,0,())) x1 x2)/\(ds=[aP (.int .i64) v9,aP .bool (Q7 (aD x0 (aE v9) (aC,0,0,0,())) x1 x2==0)]))) else (ds=[aP (.int .i64) v9,aP .bool false])))
end
theorem aC5 (ds:List aY) (K:jK) (q:Nat->Value):∀ n,(∀ {x0 x1 x2},ZL n x0 x1 x2 ds->St KO (x0,x1,(x2,()),()) ds [] K q)/\(∀ {v9 v10 x0 x2 x1},wL n v9 v10 x0 x2 x1 ds->Cu KO 3 (aC4 v9 v10 x0 x2 x1) ds [] K q):=by
 intro n
 induction n with
 | zero=>exact ⟨λh=>h.elim,λh=>h.elim⟩
 | succ n ih =>
 obtain ⟨i,i3⟩:=ih;exact ⟨λh=>jp (i3 h),
  λ{v9} {v10} {x0} {x2} {x1} h=>bR h (λh=>c1 h λh=>c1 h λh=>tP ((by decide):(0:Int)<=(1:Int))<|c1 h λh=>c1 h λh=>c2 h λh=>c1 h λh=>bR h (λh=>c1 h λh=>jp (i3 h)) λh=>jp (i3 h)) λh=>bR h (λh=>c2 h λh=>c1 h λh=>rh h) λh=>rh h⟩
def A7 (x0:List dG) (x1:ByteArray×Int×Int×Int×Unit) (y0:Option Nat) (h:Nat):Bool:=decide (Q7 (x0.getD h (aC,(0:Int),(0:Int),(0:Int),())) x1 y0<0)
def Q8 (x0:List dG) (x1:ByteArray×Int×Int×Int×Unit) (y0:Option Nat):Nat:=gS (A7 x0 x1 y0) (x0.length+1) 0 x0.length
def Fh (x0:List dG) (x1:ByteArray×Int×Int×Int×Unit) (y0:Option Nat) (k:Nat):Bool:=if k<x0.length then Q7 (x0.getD k (aC,(0:Int),(0:Int),(0:Int),())) x1 y0==0 else false
def mD (x0:List dG) (x1:ByteArray×Int×Int×Int×Unit) (y0:Option Nat):Int:=(Q8 x0 x1 y0:Nat)
def mE (x0:List dG) (x1:ByteArray×Int×Int×Int×Unit) (y0:Option Nat):Bool:=Fh x0 x1 y0 (Q8 x0 x1 y0)
def ZM (x0:List dG) (x1:ByteArray×Int×Int×Int×Unit) (y0:Option Nat):Prop:=x0.length<=4611686018427387903/\∀ y∈x0,aJV y x1 y0
theorem Fi (n:Int):cC .u64 n↔0<=n/\n<=18446744073709551615:=by
 have e1:(cL).min=0:=by decide
 have e2:(cL).max=18446744073709551615:=by decide
 simp only [cC,e1,e2]
theorem aC6 (x0:List dG) (x1:ByteArray×Int×Int×Int×Unit) (y0:Option Nat) (hm:x0.length<=4611686018427387903) (hp:∀ y∈x0,aJV y x1 y0):∀ (k i j:Nat),j - i<k->i<=j->j<=x0.length ->
  wL k (i:Int) (j:Int) x0 y0 x1 [⟨.int .i64,((gS (A7 x0 x1 y0) k i j:Nat):Int)⟩,⟨.bool,Fh x0 x1 y0 (gS (A7 x0 x1 y0) k i j)⟩]:=by
 intro k
 induction k with
 | zero=>intro i j h;omega
 | succ k ih =>
  intro i j h hij hj;rw [wL];by_cases hlt:i<j
  ·rw [if_pos (by simpa using hlt)];have e:cQ ((i:Int)+(j:Int)) 2=(((i+j) / 2:Nat):Int):=by
    rw [fG _ (by omega)];omega
   have hP:=hp _ (dN x0 ((i+j) / 2) (aC,(0:Int),(0:Int),(0:Int),()) (by omega));rw [e,aF];refine ⟨by rw [aK];omega,by rw [Fi];omega,by rw [Fi];omega,by rw [aK];omega,by omega,by omega,hP,?_⟩;simp only [gS,if_pos hlt];by_cases hq:A7 x0 x1 y0 ((i+j) / 2)=true
   ·rw [if_pos hq];exact (if_pos hq).mpr ⟨by rw [aK];omega,ih ((i+j) / 2+1) j (by omega) (by omega) hj⟩
   ·rw [if_neg hq];exact (if_neg hq).mpr (ih i ((i+j) / 2) (by omega) (by omega) (by omega))
  ·rw [if_neg (by simpa using hlt)];simp only [gS,if_neg hlt,Fh];by_cases hl:i<x0.length
   ·rw [if_pos (by simpa using hl),if_pos hl];exact ⟨by omega,by omega,hp _ (dN x0 i (aC,(0:Int),(0:Int),(0:Int),()) hl),rfl⟩
   ·rw [if_neg (by simpa using hl),if_neg hl]
def ZN:=dR KO (λ⟨x0,x1,⟨y0,_⟩,_⟩=>ZM x0 x1 y0) λ⟨x0,x1,⟨y0,_⟩,_⟩=>[⟨.int .i64,mD x0 x1 y0⟩,⟨.bool,mE x0 x1 y0⟩]
theorem aC7:c7 210 ZN:=dF aJW (λ⟨x0,x1,⟨y0,_⟩,_⟩ h hwf K q =>
 (aC5 _ K q ((x0.length+1+1))).1 (by rw [ZL];exact aC6 x0 x1 y0 h.1 h.2 (x0.length+1) 0 x0.length (by omega) (by omega) (aT _)))
noncomputable def ZO:dB:=⟨137,Tryz.f137,[.own gT,.v gT,.fn 138 [],.v (.int .i64)],[.sl gT,.int .i64],[],[(80,S80),(212,bAG),(210,ZN),(138,aTs)],false,[]⟩
theorem aJX:FO ZO:=mo Tryz.func137 ⟨aQe,aTr,aC7,aJU,trivial⟩
def KP (x0:List dG) (x1:ByteArray×Int×Int×Int×Unit) (x3:Int):Prop:=((ZM x0 x1 (some 138))/\(if (mE x0 x1 (some 138))=true then True else (if (decide ((x0.length:Int)>=x3))=true then True else ((P80 x0)/\(bAF (Yx x0) (mD x0 x1 (some 138)) [x1])/\True))))
def A8 (x0:List dG) (x1:ByteArray×Int×Int×Int×Unit) (x3:Int):List dG:=(if (mE x0 x1 (some 138))=true then x0 else (if (decide ((x0.length:Int)>=x3))=true then x0 else aC3 (Yx x0) (mD x0 x1 (some 138)) [x1]))
def qO (x0:List dG) (x1:ByteArray×Int×Int×Int×Unit) (x3:Int):Int:=(if (mE x0 x1 (some 138))=true then 4 else (if (decide ((x0.length:Int)>=x3))=true then 5 else 0))
def ZP:=wD ZO (λ⟨x0,x1,_,x3,_⟩=>KP x0 x1 x3) (λ⟨x0,x1,_,x3,_⟩=>[none]) λ⟨x0,x1,_,x3,_⟩=>[⟨.sl gT,A8 x0 x1 x3⟩,⟨.int .i64,qO x0 x1 x3⟩]
theorem aC8:c7 137 ZP:=dF aJX λ⟨x0,x1,_,x3,_⟩ h _ K q=>c1 h λh=>o3 h (λh=>rt) λh=>o3 h (λh=>rt) λh=>cS h λs1 h=>cS h λs2 h=>tP s1<|tP s2<|tP (VQ [eW 0 0,eT 1 gT x1,(2,nU 138 []),eI 3 x3,eO 5 1 0 [],eO 6 2 0 [],eW 8 5,eI 9 0,eI 10 (mD x0 x1 (some 138)),eB 11 (mE x0 x1 (some 138)),(12,gO [O9 (mD x0 x1 (some 138)),N2 (mE x0 x1 (some 138))]),eW 13 0,eT 14 gT x1,(15,nU 211 [HY 2 0 []]),(16,gO [O9 (mD x0 x1 (some 138)),N2 (mE x0 x1 (some 138))]),eI 17 (mD x0 x1 (some 138)),eB 18 (mE x0 x1 (some 138)),eB 19 (mE x0 x1 (some 138)),eB 20 (mE x0 x1 (some 138)),eB 22 (decide ((x0.length:Int)>=x3)),eW 23 0,eI 24 (x0.length:Int),eI 25 x3,eB 26 (decide ((x0.length:Int)>=x3)),eW 28 0,eI 30 (mD x0 x1 (some 138)),eT 31 gT x1,eW 33 5] [jB gT x0,some (fY gT [x1] true none (some false)),some (fY aU [some 138] true none (some false)),none,none,jB gT (aC3 (Yx x0) (mD x0 x1 (some 138)) [x1])])<|rt
end
def aTu:List AT:=[tW fP,nV (lF .i64),tW fP]
def aC9 (x0:List bX) (x1:Int) (x2:List bX):List bX:=x0.take x1.toNat++(x2++x0.drop x1.toNat)
def bAK (x0:List bX) (x1:Int) (x2:List bX):Prop:=0<=x1/\x1<=x0.length/\x2.length=1/\x0.length<=1048576
def bAL:Am.Spec:={ sig:=aTu,pre:=λ⟨x0,x1,x2,_⟩=>bAK x0 x1 x2,upd:=λ_=>[none,none],res:=λ⟨x0,x1,x2,_⟩=>[⟨p6 fP,aC9 x0 x1 x2⟩] }
theorem aTv:c7 216 bAL:=yB zL<|aTf.contract Fb.2.2.2.1 KJ.2.2.2.1 QZ.2.2.2.1 KI.2.2.2.1
noncomputable section
noncomputable def bAM:dB:=⟨141,Tryz.f141,[.v fP],[.str],[],[],false,[]⟩
theorem bJp:FO bAM:=mo Tryz.func141 trivial
def bJq (x0:ByteArray×Int×Int×Unit):Prop:=True
def Vm (x0:ByteArray×Int×Int×Unit):ByteArray:=x0.1
def aTw:=dR bAM (λ⟨x0,_⟩=>bJq x0) λ⟨x0,_⟩=>[⟨.str,Vm x0⟩]
theorem aJY:c7 141 aTw:=dF bJp λ⟨x0,_⟩ h _ K q=>rt
noncomputable def bAN:dB:=⟨215,Tryz.f215,[.v fP,.v fP,.p .fn],[.int .i64],[],[(202,aG6),(141,aTw)],false,[]⟩
theorem bJr:FO bAN:=mo Tryz.func215 ⟨Q0,aJY,trivial⟩
def aJZ (x0:ByteArray×Int×Int×Unit) (x1:ByteArray×Int×Int×Unit) (x2:Option Nat):Prop:=x2=some 141/\True
def Q9 (x0:ByteArray×Int×Int×Unit) (x1:ByteArray×Int×Int×Unit) (x2:Option Nat):Int:=DZ (Vm x0) (Vm x1)
def bAO:=dR bAN (λ⟨x0,x1,x2,_⟩=>aJZ x0 x1 x2) λ⟨x0,x1,x2,_⟩=>[⟨.int .i64,Q9 x0 x1 x2⟩]
theorem aTx:c7 215 bAO:=dF bJr λ⟨x0,x1,x2,_⟩ h _ K q=>by
 obtain ⟨rfl,h⟩:=h;exact tv<|tv<|tv<|rt
noncomputable def KR:dB:=⟨214,Tryz.f214,[.v (.sl fP),.v fP,.fn 215 [(true,.fn)]],[.int .i64,.bool],[],[(215,bAO)],false,[]⟩
theorem aKa:FO KR:=mo Tryz.func214 ⟨aTx,trivial⟩
def aCA (v9:Int) (v10:Int) (x0:List bX) (x2:Option Nat) (x1:ByteArray×Int×Int×Unit):eD×bG:=([eL 0 fP x0,(2,nU 215 [pM aU x2]),eO 4 0 0 [],eI 8 (x0.length:Int),eI 9 v9,eI 10 v10],[some (fY fP [x1] true none (some false))])
mutual
def ZQ:Nat->List bX->ByteArray×Int×Int×Unit->Option Nat->List aY->Prop
 | 0,_,_,_,_=>False
 | n+1,x0,x1,x2,ds=>(wM n (0) ((x0.length:Int)) (x0) (x2) (x1) ds)
def wM:Nat->Int->Int->List bX->Option Nat->ByteArray×Int×Int×Unit->List aY->Prop
 | 0,_,_,_,_,_,_=>False
 | n+1,v9,v10,x0,x2,x1,ds=>(if (decide (v9<v10))=true then ((cC .i64 (v9+v10))/\((cC .u64 (v9+v10))/\((cC .u64 (cQ (v9+v10) 2))/\((cC .i64 (cQ (v9+v10) 2))/\((0<=cQ (v9+v10) 2)/\(cQ (v9+v10) 2<(x0.length:Int))/\((aJZ (aD x0 (aE (cQ (v9+v10) 2)) (aC,0,0,())) x1 x2)/\(if (decide (Q9 (aD x0 (aE (cQ (v9+v10) 2)) (aC,0,0,())) x1 x2<0))=true then ((cC .i64 (cQ (v9+v10) 2+1))/\(wM n (cQ (v9+v10) 2+1) (v10) (x0) (x2) (x1) ds)) else (wM n (v9) (cQ (v9+v10) 2) (x0) (x2) (x1) ds)))))))) else (if (decide (v9<(x0.length:Int)))=true then ((0<=v9)/\(v9<(x0.length:Int))/\((aJZ (aD x0 (aE v9) (aC,0,0,())) x1 x2)/\(ds=[aP (.int .i64) v9,aP .bool (Q9 (aD x0 (aE v9) (aC,0,0,())) x1 x2==0)]))) else (ds=[aP (.int .i64) v9,aP .bool false])))
end
theorem aCB (ds:List aY) (K:jK) (q:Nat->Value):∀ n,(∀ {x0 x1 x2},ZQ n x0 x1 x2 ds->St KR (x0,x1,(x2,()),()) ds [] K q)/\(∀ {v9 v10 x0 x2 x1},wM n v9 v10 x0 x2 x1 ds->Cu KR 3 (aCA v9 v10 x0 x2 x1) ds [] K q):=by
 intro n
 induction n with
 | zero=>exact ⟨λh=>h.elim,λh=>h.elim⟩
 | succ n ih =>
 obtain ⟨i,i3⟩:=ih;exact ⟨λh=>jp (i3 h),
  λ{v9} {v10} {x0} {x2} {x1} h=>bR h (λh=>c1 h λh=>c1 h λh=>tP ((by decide):(0:Int)<=(1:Int))<|c1 h λh=>c1 h λh=>c2 h λh=>c1 h λh=>bR h (λh=>c1 h λh=>jp (i3 h)) λh=>jp (i3 h)) λh=>bR h (λh=>c2 h λh=>c1 h λh=>rh h) λh=>rh h⟩
def A9 (x0:List bX) (x1:ByteArray×Int×Int×Unit) (y0:Option Nat) (h:Nat):Bool:=decide (Q9 (x0.getD h (aC,(0:Int),(0:Int),())) x1 y0<0)
def Qa (x0:List bX) (x1:ByteArray×Int×Int×Unit) (y0:Option Nat):Nat:=gS (A9 x0 x1 y0) (x0.length+1) 0 x0.length
def Fj (x0:List bX) (x1:ByteArray×Int×Int×Unit) (y0:Option Nat) (k:Nat):Bool:=if k<x0.length then Q9 (x0.getD k (aC,(0:Int),(0:Int),())) x1 y0==0 else false
def mF (x0:List bX) (x1:ByteArray×Int×Int×Unit) (y0:Option Nat):Int:=(Qa x0 x1 y0:Nat)
def mG (x0:List bX) (x1:ByteArray×Int×Int×Unit) (y0:Option Nat):Bool:=Fj x0 x1 y0 (Qa x0 x1 y0)
def ZR (x0:List bX) (x1:ByteArray×Int×Int×Unit) (y0:Option Nat):Prop:=x0.length<=4611686018427387903/\∀ y∈x0,aJZ y x1 y0
theorem Fk (n:Int):cC .u64 n↔0<=n/\n<=18446744073709551615:=by
 have e1:(cL).min=0:=by decide
 have e2:(cL).max=18446744073709551615:=by decide
 simp only [cC,e1,e2]
theorem aCC (x0:List bX) (x1:ByteArray×Int×Int×Unit) (y0:Option Nat) (hm:x0.length<=4611686018427387903) (hp:∀ y∈x0,aJZ y x1 y0):∀ (k i j:Nat),j - i<k->i<=j->j<=x0.length ->
  wM k (i:Int) (j:Int) x0 y0 x1 [⟨.int .i64,((gS (A9 x0 x1 y0) k i j:Nat):Int)⟩,⟨.bool,Fj x0 x1 y0 (gS (A9 x0 x1 y0) k i j)⟩]:=by
 intro k
 induction k with
 | zero=>intro i j h;omega
 | succ k ih =>
  intro i j h hij hj;rw [wM];by_cases hlt:i<j
  ·rw [if_pos (by simpa using hlt)];have e:cQ ((i:Int)+(j:Int)) 2=(((i+j) / 2:Nat):Int):=by
    rw [fG _ (by omega)];omega
   have hP:=hp _ (dN x0 ((i+j) / 2) (aC,(0:Int),(0:Int),()) (by omega));rw [e,aF];refine ⟨by rw [aK];omega,by rw [Fk];omega,by rw [Fk];omega,by rw [aK];omega,by omega,by omega,hP,?_⟩;simp only [gS,if_pos hlt];by_cases hq:A9 x0 x1 y0 ((i+j) / 2)=true
   ·rw [if_pos hq];exact (if_pos hq).mpr ⟨by rw [aK];omega,ih ((i+j) / 2+1) j (by omega) (by omega) hj⟩
   ·rw [if_neg hq];exact (if_neg hq).mpr (ih i ((i+j) / 2) (by omega) (by omega) (by omega))
  ·rw [if_neg (by simpa using hlt)];simp only [gS,if_neg hlt,Fj];by_cases hl:i<x0.length
   ·rw [if_pos (by simpa using hl),if_pos hl];exact ⟨by omega,by omega,hp _ (dN x0 i (aC,(0:Int),(0:Int),()) hl),rfl⟩
   ·rw [if_neg (by simpa using hl),if_neg hl]
def ZS:=dR KR (λ⟨x0,x1,⟨y0,_⟩,_⟩=>ZR x0 x1 y0) λ⟨x0,x1,⟨y0,_⟩,_⟩=>[⟨.int .i64,mF x0 x1 y0⟩,⟨.bool,mG x0 x1 y0⟩]
theorem aCD:c7 214 ZS:=dF aKa (λ⟨x0,x1,⟨y0,_⟩,_⟩ h hwf K q =>
 (aCB _ K q ((x0.length+1+1))).1 (by rw [ZQ];exact aCC x0 x1 y0 h.1 h.2 (x0.length+1) 0 x0.length (by omega) (by omega) (aT _)))
noncomputable def ZT:dB:=⟨140,Tryz.f140,[.own fP,.v fP,.fn 141 [],.v (.int .i64)],[.sl fP,.int .i64],[],[(82,S82),(216,bAL),(214,ZS),(141,aTw)],false,[]⟩
theorem aKb:FO ZT:=mo Tryz.func140 ⟨aQg,aTv,aCD,aJY,trivial⟩
def KS (x0:List bX) (x1:ByteArray×Int×Int×Unit) (x3:Int):Prop:=((ZR x0 x1 (some 141))/\(if (mG x0 x1 (some 141))=true then True else (if (decide ((x0.length:Int)>=x3))=true then True else ((P82 x0)/\(bAK (Yy x0) (mF x0 x1 (some 141)) [x1])/\True))))
def Aa (x0:List bX) (x1:ByteArray×Int×Int×Unit) (x3:Int):List bX:=(if (mG x0 x1 (some 141))=true then x0 else (if (decide ((x0.length:Int)>=x3))=true then x0 else aC9 (Yy x0) (mF x0 x1 (some 141)) [x1]))
def qP (x0:List bX) (x1:ByteArray×Int×Int×Unit) (x3:Int):Int:=(if (mG x0 x1 (some 141))=true then 4 else (if (decide ((x0.length:Int)>=x3))=true then 5 else 0))
def ZU:=wD ZT (λ⟨x0,x1,_,x3,_⟩=>KS x0 x1 x3) (λ⟨x0,x1,_,x3,_⟩=>[none]) λ⟨x0,x1,_,x3,_⟩=>[⟨.sl fP,Aa x0 x1 x3⟩,⟨.int .i64,qP x0 x1 x3⟩]
theorem aCE:c7 140 ZU:=dF aKb λ⟨x0,x1,_,x3,_⟩ h _ K q=>c1 h λh=>o3 h (λh=>rt) λh=>o3 h (λh=>rt) λh=>cS h λs1 h=>cS h λs2 h=>tP s1<|tP s2<|tP (VQ [eW 0 0,eT 1 fP x1,(2,nU 141 []),eI 3 x3,eO 5 1 0 [],eO 6 2 0 [],eW 8 5,eI 9 0,eI 10 (mF x0 x1 (some 141)),eB 11 (mG x0 x1 (some 141)),(12,gO [O9 (mF x0 x1 (some 141)),N2 (mG x0 x1 (some 141))]),eW 13 0,eT 14 fP x1,(15,nU 215 [HY 2 0 []]),(16,gO [O9 (mF x0 x1 (some 141)),N2 (mG x0 x1 (some 141))]),eI 17 (mF x0 x1 (some 141)),eB 18 (mG x0 x1 (some 141)),eB 19 (mG x0 x1 (some 141)),eB 20 (mG x0 x1 (some 141)),eB 22 (decide ((x0.length:Int)>=x3)),eW 23 0,eI 24 (x0.length:Int),eI 25 x3,eB 26 (decide ((x0.length:Int)>=x3)),eW 28 0,eI 30 (mF x0 x1 (some 141)),eT 31 fP x1,eW 33 5] [jB fP x0,some (fY fP [x1] true none (some false)),some (fY aU [some 141] true none (some false)),none,none,jB fP (aC9 (Yy x0) (mF x0 x1 (some 141)) [x1])])<|rt
end
def aTy:List AT:=[tW fP,nV (lF .i64),tW fP]
def aCF (x0:List bX) (x1:Int) (x2:List bX):List bX:=x0.take x1.toNat++(x2++x0.drop x1.toNat)
def bAP (x0:List bX) (x1:Int) (x2:List bX):Prop:=0<=x1/\x1<=x0.length/\x2.length=1/\x0.length<=1048576
def bAQ:Am.Spec:={ sig:=aTy,pre:=λ⟨x0,x1,x2,_⟩=>bAP x0 x1 x2,upd:=λ_=>[none,none],res:=λ⟨x0,x1,x2,_⟩=>[⟨p6 fP,aCF x0 x1 x2⟩] }
theorem aTz:c7 219 bAQ:=yB zM<|aTg.contract Fb.2.2.2.2 KJ.2.2.2.2 QZ.2.2.2.2 KI.2.2.2.2
noncomputable section
noncomputable def bAR:dB:=⟨144,Tryz.f144,[.v fP],[.str],[],[],false,[]⟩
theorem bJs:FO bAR:=mo Tryz.func144 trivial
def bJt (x0:ByteArray×Int×Int×Unit):Prop:=True
def Vn (x0:ByteArray×Int×Int×Unit):ByteArray:=x0.1
def aT0:=dR bAR (λ⟨x0,_⟩=>bJt x0) λ⟨x0,_⟩=>[⟨.str,Vn x0⟩]
theorem aKc:c7 144 aT0:=dF bJs λ⟨x0,_⟩ h _ K q=>rt
noncomputable def bAS:dB:=⟨218,Tryz.f218,[.v fP,.v fP,.p .fn],[.int .i64],[],[(202,aG6),(144,aT0)],false,[]⟩
theorem bJu:FO bAS:=mo Tryz.func218 ⟨Q0,aKc,trivial⟩
def aKd (x0:ByteArray×Int×Int×Unit) (x1:ByteArray×Int×Int×Unit) (x2:Option Nat):Prop:=x2=some 144/\True
def Qb (x0:ByteArray×Int×Int×Unit) (x1:ByteArray×Int×Int×Unit) (x2:Option Nat):Int:=DZ (Vn x0) (Vn x1)
def bAT:=dR bAS (λ⟨x0,x1,x2,_⟩=>aKd x0 x1 x2) λ⟨x0,x1,x2,_⟩=>[⟨.int .i64,Qb x0 x1 x2⟩]
theorem aT1:c7 218 bAT:=dF bJu λ⟨x0,x1,x2,_⟩ h _ K q=>by
 obtain ⟨rfl,h⟩:=h;exact tv<|tv<|tv<|rt
noncomputable def KT:dB:=⟨217,Tryz.f217,[.v (.sl fP),.v fP,.fn 218 [(true,.fn)]],[.int .i64,.bool],[],[(218,bAT)],false,[]⟩
theorem aKe:FO KT:=mo Tryz.func217 ⟨aT1,trivial⟩
def aCG (v9:Int) (v10:Int) (x0:List bX) (x2:Option Nat) (x1:ByteArray×Int×Int×Unit):eD×bG:=([eL 0 fP x0,(2,nU 218 [pM aU x2]),eO 4 0 0 [],eI 8 (x0.length:Int),eI 9 v9,eI 10 v10],[some (fY fP [x1] true none (some false))])
mutual
def ZV:Nat->List bX->ByteArray×Int×Int×Unit->Option Nat->List aY->Prop
 | 0,_,_,_,_=>False
 | n+1,x0,x1,x2,ds=>(wN n (0) ((x0.length:Int)) (x0) (x2) (x1) ds)
def wN:Nat->Int->Int->List bX->Option Nat->ByteArray×Int×Int×Unit->List aY->Prop
 | 0,_,_,_,_,_,_=>False
 | n+1,v9,v10,x0,x2,x1,ds=>(if (decide (v9<v10))=true then ((cC .i64 (v9+v10))/\((cC .u64 (v9+v10))/\((cC .u64 (cQ (v9+v10) 2))/\((cC .i64 (cQ (v9+v10) 2))/\((0<=cQ (v9+v10) 2)/\(cQ (v9+v10) 2<(x0.length:Int))/\((aKd (aD x0 (aE (cQ (v9+v10) 2)) (aC,0,0,())) x1 x2)/\(if (decide (Qb (aD x0 (aE (cQ (v9+v10) 2)) (aC,0,0,())) x1 x2<0))=true then ((cC .i64 (cQ (v9+v10) 2+1))/\(wN n (cQ (v9+v10) 2+1) (v10) (x0) (x2) (x1) ds)) else (wN n (v9) (cQ (v9+v10) 2) (x0) (x2) (x1) ds)))))))) else (if (decide (v9<(x0.length:Int)))=true then ((0<=v9)/\(v9<(x0.length:Int))/\((aKd (aD x0 (aE v9) (aC,0,0,())) x1 x2)/\(ds=[aP (.int .i64) v9,aP .bool (Qb (aD x0 (aE v9) (aC,0,0,())) x1 x2==0)]))) else (ds=[aP (.int .i64) v9,aP .bool false])))
end
theorem aCH (ds:List aY) (K:jK) (q:Nat->Value):∀ n,(∀ {x0 x1 x2},ZV n x0 x1 x2 ds->St KT (x0,x1,(x2,()),()) ds [] K q)/\(∀ {v9 v10 x0 x2 x1},wN n v9 v10 x0 x2 x1 ds->Cu KT 3 (aCG v9 v10 x0 x2 x1) ds [] K q):=by
 intro n
 induction n with
 | zero=>exact ⟨λh=>h.elim,λh=>h.elim⟩
 | succ n ih =>
 obtain ⟨i,i3⟩:=ih;exact ⟨λh=>jp (i3 h),
  λ{v9} {v10} {x0} {x2} {x1} h=>bR h (λh=>c1 h λh=>c1 h λh=>tP ((by decide):(0:Int)<=(1:Int))<|c1 h λh=>c1 h λh=>c2 h λh=>c1 h λh=>bR h (λh=>c1 h λh=>jp (i3 h)) λh=>jp (i3 h)) λh=>bR h (λh=>c2 h λh=>c1 h λh=>rh h) λh=>rh h⟩
def Ab (x0:List bX) (x1:ByteArray×Int×Int×Unit) (y0:Option Nat) (h:Nat):Bool:=decide (Qb (x0.getD h (aC,(0:Int),(0:Int),())) x1 y0<0)
def Qc (x0:List bX) (x1:ByteArray×Int×Int×Unit) (y0:Option Nat):Nat:=gS (Ab x0 x1 y0) (x0.length+1) 0 x0.length
def Fl (x0:List bX) (x1:ByteArray×Int×Int×Unit) (y0:Option Nat) (k:Nat):Bool:=if k<x0.length then Qb (x0.getD k (aC,(0:Int),(0:Int),())) x1 y0==0 else false
def mH (x0:List bX) (x1:ByteArray×Int×Int×Unit) (y0:Option Nat):Int:=(Qc x0 x1 y0:Nat)
def mI (x0:List bX) (x1:ByteArray×Int×Int×Unit) (y0:Option Nat):Bool:=Fl x0 x1 y0 (Qc x0 x1 y0)
def ZW (x0:List bX) (x1:ByteArray×Int×Int×Unit) (y0:Option Nat):Prop:=x0.length<=4611686018427387903/\∀ y∈x0,aKd y x1 y0
theorem Fm (n:Int):cC .u64 n↔0<=n/\n<=18446744073709551615:=by
 have e1:(cL).min=0:=by decide
 have e2:(cL).max=18446744073709551615:=by decide
 simp only [cC,e1,e2]
theorem aCI (x0:List bX) (x1:ByteArray×Int×Int×Unit) (y0:Option Nat) (hm:x0.length<=4611686018427387903) (hp:∀ y∈x0,aKd y x1 y0):∀ (k i j:Nat),j - i<k->i<=j->j<=x0.length ->
  wN k (i:Int) (j:Int) x0 y0 x1 [⟨.int .i64,((gS (Ab x0 x1 y0) k i j:Nat):Int)⟩,⟨.bool,Fl x0 x1 y0 (gS (Ab x0 x1 y0) k i j)⟩]:=by
 intro k
 induction k with
 | zero=>intro i j h;omega
 | succ k ih =>
  intro i j h hij hj;rw [wN];by_cases hlt:i<j
  ·rw [if_pos (by simpa using hlt)];have e:cQ ((i:Int)+(j:Int)) 2=(((i+j) / 2:Nat):Int):=by
    rw [fG _ (by omega)];omega
   have hP:=hp _ (dN x0 ((i+j) / 2) (aC,(0:Int),(0:Int),()) (by omega));rw [e,aF];refine ⟨by rw [aK];omega,by rw [Fm];omega,by rw [Fm];omega,by rw [aK];omega,by omega,by omega,hP,?_⟩;simp only [gS,if_pos hlt];by_cases hq:Ab x0 x1 y0 ((i+j) / 2)=true
   ·rw [if_pos hq];exact (if_pos hq).mpr ⟨by rw [aK];omega,ih ((i+j) / 2+1) j (by omega) (by omega) hj⟩
   ·rw [if_neg hq];exact (if_neg hq).mpr (ih i ((i+j) / 2) (by omega) (by omega) (by omega))
  ·rw [if_neg (by simpa using hlt)];simp only [gS,if_neg hlt,Fl];by_cases hl:i<x0.length
   ·rw [if_pos (by simpa using hl),if_pos hl];exact ⟨by omega,by omega,hp _ (dN x0 i (aC,(0:Int),(0:Int),()) hl),rfl⟩
   ·rw [if_neg (by simpa using hl),if_neg hl]
def ZX:=dR KT (λ⟨x0,x1,⟨y0,_⟩,_⟩=>ZW x0 x1 y0) λ⟨x0,x1,⟨y0,_⟩,_⟩=>[⟨.int .i64,mH x0 x1 y0⟩,⟨.bool,mI x0 x1 y0⟩]
theorem aCJ:c7 217 ZX:=dF aKe (λ⟨x0,x1,⟨y0,_⟩,_⟩ h hwf K q =>
 (aCH _ K q ((x0.length+1+1))).1 (by rw [ZV];exact aCI x0 x1 y0 h.1 h.2 (x0.length+1) 0 x0.length (by omega) (by omega) (aT _)))
noncomputable def ZY:dB:=⟨143,Tryz.f143,[.own fP,.v fP,.fn 144 [],.v (.int .i64)],[.sl fP,.int .i64],[],[(83,S83),(219,bAQ),(217,ZX),(144,aT0)],false,[]⟩
theorem aKf:FO ZY:=mo Tryz.func143 ⟨aQh,aTz,aCJ,aKc,trivial⟩
def KU (x0:List bX) (x1:ByteArray×Int×Int×Unit) (x3:Int):Prop:=((ZW x0 x1 (some 144))/\(if (mI x0 x1 (some 144))=true then True else (if (decide ((x0.length:Int)>=x3))=true then True else ((P83 x0)/\(bAP (Yz x0) (mH x0 x1 (some 144)) [x1])/\True))))
def Ac (x0:List bX) (x1:ByteArray×Int×Int×Unit) (x3:Int):List bX:=(if (mI x0 x1 (some 144))=true then x0 else (if (decide ((x0.length:Int)>=x3))=true then x0 else aCF (Yz x0) (mH x0 x1 (some 144)) [x1]))
def qQ (x0:List bX) (x1:ByteArray×Int×Int×Unit) (x3:Int):Int:=(if (mI x0 x1 (some 144))=true then 4 else (if (decide ((x0.length:Int)>=x3))=true then 5 else 0))
def ZZ:=wD ZY (λ⟨x0,x1,_,x3,_⟩=>KU x0 x1 x3) (λ⟨x0,x1,_,x3,_⟩=>[none]) λ⟨x0,x1,_,x3,_⟩=>[⟨.sl fP,Ac x0 x1 x3⟩,⟨.int .i64,qQ x0 x1 x3⟩]
theorem aCK:c7 143 ZZ:=dF aKf λ⟨x0,x1,_,x3,_⟩ h _ K q=>c1 h λh=>o3 h (λh=>rt) λh=>o3 h (λh=>rt) λh=>cS h λs1 h=>cS h λs2 h=>tP s1<|tP s2<|tP (VQ [eW 0 0,eT 1 fP x1,(2,nU 144 []),eI 3 x3,eO 5 1 0 [],eO 6 2 0 [],eW 8 5,eI 9 0,eI 10 (mH x0 x1 (some 144)),eB 11 (mI x0 x1 (some 144)),(12,gO [O9 (mH x0 x1 (some 144)),N2 (mI x0 x1 (some 144))]),eW 13 0,eT 14 fP x1,(15,nU 218 [HY 2 0 []]),(16,gO [O9 (mH x0 x1 (some 144)),N2 (mI x0 x1 (some 144))]),eI 17 (mH x0 x1 (some 144)),eB 18 (mI x0 x1 (some 144)),eB 19 (mI x0 x1 (some 144)),eB 20 (mI x0 x1 (some 144)),eB 22 (decide ((x0.length:Int)>=x3)),eW 23 0,eI 24 (x0.length:Int),eI 25 x3,eB 26 (decide ((x0.length:Int)>=x3)),eW 28 0,eI 30 (mH x0 x1 (some 144)),eT 31 fP x1,eW 33 5] [jB fP x0,some (fY fP [x1] true none (some false)),some (fY aU [some 144] true none (some false)),none,none,jB fP (aCF (Yz x0) (mH x0 x1 (some 144)) [x1])])<|rt
noncomputable def d84:dB:=⟨84,Tryz.f84,[.po vP,.v Gl],[.bool,.int .i64],[],[(130,aZF),(133,aZR),(136,aZV),(139,bAb),(142,bAd),(145,bAg),(146,bAi),(147,bAt),(148,bAv),(149,bAx),(150,bAz),(151,bA1),(131,ZF),(134,ZK),(137,ZP),(140,ZU),(143,ZZ)],false,[]⟩
theorem o84:FO d84:=mo Tryz.func84 ⟨aSd,aSu,aSw,aSA,aSC,aSD,aSE,aSW,aSY,aSZ,aTa,aTb,aCw,aC2,aC8,aCE,aCK,trivial⟩
def P84 (x0:fV) (x1:ByteArray×ByteArray×List Int×List Int×Unit):Prop:=(if (aB x1.1==aB (aA #[98,101,110,100]))=true then ((aN9 x1.2.1)/\((KL x0.1 (rW x1.2.1) 12)/\True)) else (if (aB x1.1==aB (aA #[119,111,114,107,101,114]))=true then ((aND x1.2.1)/\((KN x0.2.2.2.2.2.2.1 (rX x1.2.1) 12)/\True)) else (if (aB x1.1==aB (aA #[102,97,114,101]))=true then ((aNF x1.2.1)/\((KP x0.2.2.2.2.2.2.2.2.1 (rY x1.2.1) 8)/\True)) else (if (aB x1.1==aB (aA #[104,101,108,112,101,114]))=true then ((aS9 x1.2.1)/\((KS x0.2.2.2.2.2.2.2.2.2.2.1 (rZ x1.2.1) 10)/\True)) else (if (aB x1.1==aB (aA #[116,97,115,107]))=true then ((aSB x1.2.1)/\((KU x0.2.2.2.2.2.2.2.2.2.2.2.1 (r9 x1.2.1) 8)/\True)) else (if (aB x1.1==aB (aA #[104,111,117,114]))=true then ((aNI x1.2.1)/\((aNJ x0.2.2.1 (sA x1.2.1) 48)/\True)) else (if (aB x1.1==aB (aA #[116,101,115,116]))=true then ((aNO x1.2.1)/\((aSX x0.2.2.2.2.2.2.2.2.2.1 (MY x1.2.1))/\True)) else (if (aB x1.1==aB (aA #[114,111,112,101]))=true then ((aNP x1.2.1)/\True) else (if (aB x1.1==aB (aA #[109,111,116,111,114]))=true then ((aNQ x1.2.1)/\True) else ((aNR x1.2.1)/\True))))))))))
def Z0 (x0:fV) (x1:ByteArray×ByteArray×List Int×List Int×Unit):Bool:=(if (aB x1.1==aB (aA #[98,101,110,100]))=true then F1 x1.2.1 else (if (aB x1.1==aB (aA #[119,111,114,107,101,114]))=true then F3 x1.2.1 else (if (aB x1.1==aB (aA #[102,97,114,101]))=true then F4 x1.2.1 else (if (aB x1.1==aB (aA #[104,101,108,112,101,114]))=true then F5 x1.2.1 else (if (aB x1.1==aB (aA #[116,97,115,107]))=true then F6 x1.2.1 else (if (aB x1.1==aB (aA #[104,111,117,114]))=true then F7 x1.2.1 else (if (aB x1.1==aB (aA #[116,101,115,116]))=true then V9 x1.2.1 else (if (aB x1.1==aB (aA #[114,111,112,101]))=true then Ve x1.2.1 else (if (aB x1.1==aB (aA #[109,111,116,111,114]))=true then Vg x1.2.1 else Vi x1.2.1)))))))))
def Z1 (x0:fV) (x1:ByteArray×ByteArray×List Int×List Int×Unit):Int:=(if (aB x1.1==aB (aA #[98,101,110,100]))=true then qM x0.1 (rW x1.2.1) 12 else (if (aB x1.1==aB (aA #[119,111,114,107,101,114]))=true then qN x0.2.2.2.2.2.2.1 (rX x1.2.1) 12 else (if (aB x1.1==aB (aA #[102,97,114,101]))=true then qO x0.2.2.2.2.2.2.2.2.1 (rY x1.2.1) 8 else (if (aB x1.1==aB (aA #[104,101,108,112,101,114]))=true then qP x0.2.2.2.2.2.2.2.2.2.2.1 (rZ x1.2.1) 10 else (if (aB x1.1==aB (aA #[116,97,115,107]))=true then qQ x0.2.2.2.2.2.2.2.2.2.2.2.1 (r9 x1.2.1) 8 else (if (aB x1.1==aB (aA #[104,111,117,114]))=true then F8 x0.2.2.1 (sA x1.2.1) 48 else (if (aB x1.1==aB (aA #[116,101,115,116]))=true then Vb x0.2.2.2.2.2.2.2.2.2.1 (MY x1.2.1) else (if (aB x1.1==aB (aA #[114,111,112,101]))=true then 0 else (if (aB x1.1==aB (aA #[109,111,116,111,114]))=true then 0 else 0)))))))))
def Z2 (x0:fV) (x1:ByteArray×ByteArray×List Int×List Int×Unit):fV:=(if (aB x1.1==aB (aA #[98,101,110,100]))=true then (A4 x0.1 (rW x1.2.1) 12,x0.2.1,x0.2.2.1,x0.2.2.2.1,x0.2.2.2.2.1,x0.2.2.2.2.2.1,x0.2.2.2.2.2.2.1,x0.2.2.2.2.2.2.2.1,x0.2.2.2.2.2.2.2.2.1,x0.2.2.2.2.2.2.2.2.2.1,x0.2.2.2.2.2.2.2.2.2.2.1,x0.2.2.2.2.2.2.2.2.2.2.2.1,()) else (if (aB x1.1==aB (aA #[119,111,114,107,101,114]))=true then (x0.1,x0.2.1,x0.2.2.1,x0.2.2.2.1,x0.2.2.2.2.1,x0.2.2.2.2.2.1,A6 x0.2.2.2.2.2.2.1 (rX x1.2.1) 12,x0.2.2.2.2.2.2.2.1,x0.2.2.2.2.2.2.2.2.1,x0.2.2.2.2.2.2.2.2.2.1,x0.2.2.2.2.2.2.2.2.2.2.1,x0.2.2.2.2.2.2.2.2.2.2.2.1,()) else (if (aB x1.1==aB (aA #[102,97,114,101]))=true then (x0.1,x0.2.1,x0.2.2.1,x0.2.2.2.1,x0.2.2.2.2.1,x0.2.2.2.2.2.1,x0.2.2.2.2.2.2.1,x0.2.2.2.2.2.2.2.1,A8 x0.2.2.2.2.2.2.2.2.1 (rY x1.2.1) 8,x0.2.2.2.2.2.2.2.2.2.1,x0.2.2.2.2.2.2.2.2.2.2.1,x0.2.2.2.2.2.2.2.2.2.2.2.1,()) else (if (aB x1.1==aB (aA #[104,101,108,112,101,114]))=true then (x0.1,x0.2.1,x0.2.2.1,x0.2.2.2.1,x0.2.2.2.2.1,x0.2.2.2.2.2.1,x0.2.2.2.2.2.2.1,x0.2.2.2.2.2.2.2.1,x0.2.2.2.2.2.2.2.2.1,x0.2.2.2.2.2.2.2.2.2.1,Aa x0.2.2.2.2.2.2.2.2.2.2.1 (rZ x1.2.1) 10,x0.2.2.2.2.2.2.2.2.2.2.2.1,()) else (if (aB x1.1==aB (aA #[116,97,115,107]))=true then (x0.1,x0.2.1,x0.2.2.1,x0.2.2.2.1,x0.2.2.2.2.1,x0.2.2.2.2.2.1,x0.2.2.2.2.2.2.1,x0.2.2.2.2.2.2.2.1,x0.2.2.2.2.2.2.2.2.1,x0.2.2.2.2.2.2.2.2.2.1,x0.2.2.2.2.2.2.2.2.2.2.1,Ac x0.2.2.2.2.2.2.2.2.2.2.2.1 (r9 x1.2.1) 8,()) else (if (aB x1.1==aB (aA #[104,111,117,114]))=true then (x0.1,x0.2.1,QW x0.2.2.1 (sA x1.2.1) 48,x0.2.2.2.1,x0.2.2.2.2.1,x0.2.2.2.2.2.1,x0.2.2.2.2.2.2.1,x0.2.2.2.2.2.2.2.1,x0.2.2.2.2.2.2.2.2.1,x0.2.2.2.2.2.2.2.2.2.1,x0.2.2.2.2.2.2.2.2.2.2.1,x0.2.2.2.2.2.2.2.2.2.2.2.1,()) else (if (aB x1.1==aB (aA #[116,101,115,116]))=true then (x0.1,x0.2.1,x0.2.2.1,x0.2.2.2.1,x0.2.2.2.2.1,x0.2.2.2.2.2.1,x0.2.2.2.2.2.2.1,x0.2.2.2.2.2.2.2.1,x0.2.2.2.2.2.2.2.2.1,Va x0.2.2.2.2.2.2.2.2.2.1 (MY x1.2.1),x0.2.2.2.2.2.2.2.2.2.2.1,x0.2.2.2.2.2.2.2.2.2.2.2.1,()) else (if (aB x1.1==aB (aA #[114,111,112,101]))=true then (x0.1,(Vc x1.2.1),x0.2.2.1,x0.2.2.2.1,x0.2.2.2.2.1,x0.2.2.2.2.2.1,x0.2.2.2.2.2.2.1,x0.2.2.2.2.2.2.2.1,x0.2.2.2.2.2.2.2.2.1,x0.2.2.2.2.2.2.2.2.2.1,x0.2.2.2.2.2.2.2.2.2.2.1,x0.2.2.2.2.2.2.2.2.2.2.2.1,()) else (if (aB x1.1==aB (aA #[109,111,116,111,114]))=true then (x0.1,x0.2.1,x0.2.2.1,x0.2.2.2.1,(Vf x1.2.1),x0.2.2.2.2.2.1,x0.2.2.2.2.2.2.1,x0.2.2.2.2.2.2.2.1,x0.2.2.2.2.2.2.2.2.1,x0.2.2.2.2.2.2.2.2.2.1,x0.2.2.2.2.2.2.2.2.2.2.1,x0.2.2.2.2.2.2.2.2.2.2.2.1,()) else (x0.1,x0.2.1,x0.2.2.1,x0.2.2.2.1,x0.2.2.2.2.1,x0.2.2.2.2.2.1,x0.2.2.2.2.2.2.1,(Vh x1.2.1),x0.2.2.2.2.2.2.2.2.1,x0.2.2.2.2.2.2.2.2.2.1,x0.2.2.2.2.2.2.2.2.2.2.1,x0.2.2.2.2.2.2.2.2.2.2.2.1,()))))))))))
def S84:=wD d84 (λ⟨x0,x1,_⟩=>P84 x0 x1) (λ⟨x0,x1,_⟩=>[some ⟨.cons (.sl gT) YA1,[Z2 x0 x1]⟩]) λ⟨x0,x1,_⟩=>[⟨.bool,Z0 x0 x1⟩,⟨.int .i64,Z1 x0 x1⟩]
theorem bAU:c7 84 S84:=dF o84 λ⟨x0,x1,_⟩ h _ K q=>OF h (λh=>c1 h λh=>cS h λs1 h=>tP s1<|tP (VQ [eP 0 8 0 vP,eT 1 Gl x1,eO 3 9 0 [],eB 4 false,eI 5 0,eB 6 (F1 x1.2.1),eI 7 (qM x0.1 (rW x1.2.1) 12),eO 8 10 0 [],eO 15 9 0 [0],eS 16 x1.1,eB 26 (aB x1.1==aB (aA #[98,101,110,100])),eB 27 (aB x1.1==aB (aA #[98,101,110,100])),(28,gO [pE gT (rW x1.2.1),N2 (F1 x1.2.1)]),eO 29 9 0 [1],eS 30 x1.2.1,(31,gO [pE gT (rW x1.2.1),N2 (F1 x1.2.1)]),eT 32 gT (rW x1.2.1),eB 33 (F1 x1.2.1),(34,gO [oF 11 none,O9 (qM x0.1 (rW x1.2.1) 12)]),eP 35 8 0 vP,eP 36 8 0 vP,eP 37 8 0 vP,eP 38 8 0 (.sl gT),eT 40 gT (rW x1.2.1),(41,gO [oF 11 none,O9 (qM x0.1 (rW x1.2.1) 12)]),eW 42 11,eI 43 (qM x0.1 (rW x1.2.1) 12),eP 44 8 0 vP,eP 45 8 0 (.sl gT)] [none,jB fL x0.2.2.1,jB fL x0.2.2.2.1,jB fP x0.2.2.2.2.2.2.1,jB gT x0.2.2.2.2.2.2.2.2.1,jB fL x0.2.2.2.2.2.2.2.2.2.1,jB fP x0.2.2.2.2.2.2.2.2.2.2.1,jB fP x0.2.2.2.2.2.2.2.2.2.2.2.1,hB_ vP [vI 11,lM x0.2.1.1,lM x0.2.1.2.1,lM x0.2.1.2.2.1,lM x0.2.1.2.2.2.1,vI 1,vI 2,lM x0.2.2.2.2.1.1,lM x0.2.2.2.2.1.2.1,lM x0.2.2.2.2.1.2.2.1,lM x0.2.2.2.2.2.1.1,lM x0.2.2.2.2.2.1.2.1,lM x0.2.2.2.2.2.1.2.2.1,vI 3,lM x0.2.2.2.2.2.2.2.1.1,lM x0.2.2.2.2.2.2.2.1.2.1,lM x0.2.2.2.2.2.2.2.1.2.2.1,lM x0.2.2.2.2.2.2.2.1.2.2.2.1,vI 4,vI 5,vI 6,vI 7],some (fY Gl [x1] true none (some false)),some (fY gT [rW x1.2.1] true none (some false)),jB gT (A4 x0.1 (rW x1.2.1) 12)])<|rt) λh=>OF h (λh=>c1 h λh=>cS h λs1 h=>tP s1<|tP (VQ [eP 0 8 0 vP,eT 1 Gl x1,eO 3 9 0 [],eB 4 false,eI 5 0,eB 6 (F3 x1.2.1),eI 7 (qN x0.2.2.2.2.2.2.1 (rX x1.2.1) 12),eO 9 10 0 [],eO 15 9 0 [0],eS 16 x1.1,eB 26 (aB x1.1==aB (aA #[98,101,110,100])),eB 27 (aB x1.1==aB (aA #[98,101,110,100])),eB 46 (aB x1.1==aB (aA #[119,111,114,107,101,114])),eB 47 (aB x1.1==aB (aA #[119,111,114,107,101,114])),(48,gO [pE fP (rX x1.2.1),N2 (F3 x1.2.1)]),eO 49 9 0 [1],eS 50 x1.2.1,(51,gO [pE fP (rX x1.2.1),N2 (F3 x1.2.1)]),eT 52 fP (rX x1.2.1),eB 53 (F3 x1.2.1),(54,gO [oF 11 none,O9 (qN x0.2.2.2.2.2.2.1 (rX x1.2.1) 12)]),eP 55 8 0 vP,eP 56 8 0 vP,eP 57 8 0 vP,eP 58 8 13 (.sl fP),eT 60 fP (rX x1.2.1),(61,gO [oF 11 none,O9 (qN x0.2.2.2.2.2.2.1 (rX x1.2.1) 12)]),eW 62 11,eI 63 (qN x0.2.2.2.2.2.2.1 (rX x1.2.1) 12),eP 64 8 0 vP,eP 65 8 13 (.sl fP)] [jB gT x0.1,jB fL x0.2.2.1,jB fL x0.2.2.2.1,none,jB gT x0.2.2.2.2.2.2.2.2.1,jB fL x0.2.2.2.2.2.2.2.2.2.1,jB fP x0.2.2.2.2.2.2.2.2.2.2.1,jB fP x0.2.2.2.2.2.2.2.2.2.2.2.1,hB_ vP [vI 0,lM x0.2.1.1,lM x0.2.1.2.1,lM x0.2.1.2.2.1,lM x0.2.1.2.2.2.1,vI 1,vI 2,lM x0.2.2.2.2.1.1,lM x0.2.2.2.2.1.2.1,lM x0.2.2.2.2.1.2.2.1,lM x0.2.2.2.2.2.1.1,lM x0.2.2.2.2.2.1.2.1,lM x0.2.2.2.2.2.1.2.2.1,vI 11,lM x0.2.2.2.2.2.2.2.1.1,lM x0.2.2.2.2.2.2.2.1.2.1,lM x0.2.2.2.2.2.2.2.1.2.2.1,lM x0.2.2.2.2.2.2.2.1.2.2.2.1,vI 4,vI 5,vI 6,vI 7],some (fY Gl [x1] true none (some false)),some (fY fP [rX x1.2.1] true none (some false)),jB fP (A6 x0.2.2.2.2.2.2.1 (rX x1.2.1) 12)])<|rt) λh=>OF h (λh=>c1 h λh=>cS h λs1 h=>tP s1<|tP (VQ [eP 0 8 0 vP,eT 1 Gl x1,eO 3 9 0 [],eB 4 false,eI 5 0,eB 6 (F4 x1.2.1),eI 7 (qO x0.2.2.2.2.2.2.2.2.1 (rY x1.2.1) 8),eO 10 10 0 [],eO 15 9 0 [0],eS 16 x1.1,eB 26 (aB x1.1==aB (aA #[98,101,110,100])),eB 27 (aB x1.1==aB (aA #[98,101,110,100])),eB 46 (aB x1.1==aB (aA #[119,111,114,107,101,114])),eB 47 (aB x1.1==aB (aA #[119,111,114,107,101,114])),eB 66 (aB x1.1==aB (aA #[102,97,114,101])),eB 67 (aB x1.1==aB (aA #[102,97,114,101])),(68,gO [pE gT (rY x1.2.1),N2 (F4 x1.2.1)]),eO 69 9 0 [1],eS 70 x1.2.1,(71,gO [pE gT (rY x1.2.1),N2 (F4 x1.2.1)]),eT 72 gT (rY x1.2.1),eB 73 (F4 x1.2.1),(74,gO [oF 11 none,O9 (qO x0.2.2.2.2.2.2.2.2.1 (rY x1.2.1) 8)]),eP 75 8 0 vP,eP 76 8 0 vP,eP 77 8 0 vP,eP 78 8 18 (.sl gT),eT 80 gT (rY x1.2.1),(81,gO [oF 11 none,O9 (qO x0.2.2.2.2.2.2.2.2.1 (rY x1.2.1) 8)]),eW 82 11,eI 83 (qO x0.2.2.2.2.2.2.2.2.1 (rY x1.2.1) 8),eP 84 8 0 vP,eP 85 8 18 (.sl gT)] [jB gT x0.1,jB fL x0.2.2.1,jB fL x0.2.2.2.1,jB fP x0.2.2.2.2.2.2.1,none,jB fL x0.2.2.2.2.2.2.2.2.2.1,jB fP x0.2.2.2.2.2.2.2.2.2.2.1,jB fP x0.2.2.2.2.2.2.2.2.2.2.2.1,hB_ vP [vI 0,lM x0.2.1.1,lM x0.2.1.2.1,lM x0.2.1.2.2.1,lM x0.2.1.2.2.2.1,vI 1,vI 2,lM x0.2.2.2.2.1.1,lM x0.2.2.2.2.1.2.1,lM x0.2.2.2.2.1.2.2.1,lM x0.2.2.2.2.2.1.1,lM x0.2.2.2.2.2.1.2.1,lM x0.2.2.2.2.2.1.2.2.1,vI 3,lM x0.2.2.2.2.2.2.2.1.1,lM x0.2.2.2.2.2.2.2.1.2.1,lM x0.2.2.2.2.2.2.2.1.2.2.1,lM x0.2.2.2.2.2.2.2.1.2.2.2.1,vI 11,vI 5,vI 6,vI 7],some (fY Gl [x1] true none (some false)),some (fY gT [rY x1.2.1] true none (some false)),jB gT (A8 x0.2.2.2.2.2.2.2.2.1 (rY x1.2.1) 8)])<|rt) λh=>OF h (λh=>c1 h λh=>cS h λs1 h=>tP s1<|tP (VQ [eP 0 8 0 vP,eT 1 Gl x1,eO 3 9 0 [],eB 4 false,eI 5 0,eB 6 (F5 x1.2.1),eI 7 (qP x0.2.2.2.2.2.2.2.2.2.2.1 (rZ x1.2.1) 10),eO 11 10 0 [],eO 15 9 0 [0],eS 16 x1.1,eB 26 (aB x1.1==aB (aA #[98,101,110,100])),eB 27 (aB x1.1==aB (aA #[98,101,110,100])),eB 46 (aB x1.1==aB (aA #[119,111,114,107,101,114])),eB 47 (aB x1.1==aB (aA #[119,111,114,107,101,114])),eB 66 (aB x1.1==aB (aA #[102,97,114,101])),eB 67 (aB x1.1==aB (aA #[102,97,114,101])),eB 86 (aB x1.1==aB (aA #[104,101,108,112,101,114])),eB 87 (aB x1.1==aB (aA #[104,101,108,112,101,114])),(88,gO [pE fP (rZ x1.2.1),N2 (F5 x1.2.1)]),eO 89 9 0 [1],eS 90 x1.2.1,(91,gO [pE fP (rZ x1.2.1),N2 (F5 x1.2.1)]),eT 92 fP (rZ x1.2.1),eB 93 (F5 x1.2.1),(94,gO [oF 11 none,O9 (qP x0.2.2.2.2.2.2.2.2.2.2.1 (rZ x1.2.1) 10)]),eP 95 8 0 vP,eP 96 8 0 vP,eP 97 8 0 vP,eP 98 8 20 (.sl fP),eT 100 fP (rZ x1.2.1),(101,gO [oF 11 none,O9 (qP x0.2.2.2.2.2.2.2.2.2.2.1 (rZ x1.2.1) 10)]),eW 102 11,eI 103 (qP x0.2.2.2.2.2.2.2.2.2.2.1 (rZ x1.2.1) 10),eP 104 8 0 vP,eP 105 8 20 (.sl fP)] [jB gT x0.1,jB fL x0.2.2.1,jB fL x0.2.2.2.1,jB fP x0.2.2.2.2.2.2.1,jB gT x0.2.2.2.2.2.2.2.2.1,jB fL x0.2.2.2.2.2.2.2.2.2.1,none,jB fP x0.2.2.2.2.2.2.2.2.2.2.2.1,hB_ vP [vI 0,lM x0.2.1.1,lM x0.2.1.2.1,lM x0.2.1.2.2.1,lM x0.2.1.2.2.2.1,vI 1,vI 2,lM x0.2.2.2.2.1.1,lM x0.2.2.2.2.1.2.1,lM x0.2.2.2.2.1.2.2.1,lM x0.2.2.2.2.2.1.1,lM x0.2.2.2.2.2.1.2.1,lM x0.2.2.2.2.2.1.2.2.1,vI 3,lM x0.2.2.2.2.2.2.2.1.1,lM x0.2.2.2.2.2.2.2.1.2.1,lM x0.2.2.2.2.2.2.2.1.2.2.1,lM x0.2.2.2.2.2.2.2.1.2.2.2.1,vI 4,vI 5,vI 11,vI 7],some (fY Gl [x1] true none (some false)),some (fY fP [rZ x1.2.1] true none (some false)),jB fP (Aa x0.2.2.2.2.2.2.2.2.2.2.1 (rZ x1.2.1) 10)])<|rt) λh=>OF h (λh=>c1 h λh=>cS h λs1 h=>tP s1<|tP (VQ [eP 0 8 0 vP,eT 1 Gl x1,eO 3 9 0 [],eB 4 false,eI 5 0,eB 6 (F6 x1.2.1),eI 7 (qQ x0.2.2.2.2.2.2.2.2.2.2.2.1 (r9 x1.2.1) 8),eO 12 10 0 [],eO 15 9 0 [0],eS 16 x1.1,eB 26 (aB x1.1==aB (aA #[98,101,110,100])),eB 27 (aB x1.1==aB (aA #[98,101,110,100])),eB 46 (aB x1.1==aB (aA #[119,111,114,107,101,114])),eB 47 (aB x1.1==aB (aA #[119,111,114,107,101,114])),eB 66 (aB x1.1==aB (aA #[102,97,114,101])),eB 67 (aB x1.1==aB (aA #[102,97,114,101])),eB 86 (aB x1.1==aB (aA #[104,101,108,112,101,114])),eB 87 (aB x1.1==aB (aA #[104,101,108,112,101,114])),eB 106 (aB x1.1==aB (aA #[116,97,115,107])),eB 107 (aB x1.1==aB (aA #[116,97,115,107])),(108,gO [pE fP (r9 x1.2.1),N2 (F6 x1.2.1)]),eO 109 9 0 [1],eS 110 x1.2.1,(111,gO [pE fP (r9 x1.2.1),N2 (F6 x1.2.1)]),eT 112 fP (r9 x1.2.1),eB 113 (F6 x1.2.1),(114,gO [oF 11 none,O9 (qQ x0.2.2.2.2.2.2.2.2.2.2.2.1 (r9 x1.2.1) 8)]),eP 115 8 0 vP,eP 116 8 0 vP,eP 117 8 0 vP,eP 118 8 21 (.sl fP),eT 120 fP (r9 x1.2.1),(121,gO [oF 11 none,O9 (qQ x0.2.2.2.2.2.2.2.2.2.2.2.1 (r9 x1.2.1) 8)]),eW 122 11,eI 123 (qQ x0.2.2.2.2.2.2.2.2.2.2.2.1 (r9 x1.2.1) 8),eP 124 8 0 vP,eP 125 8 21 (.sl fP)] [jB gT x0.1,jB fL x0.2.2.1,jB fL x0.2.2.2.1,jB fP x0.2.2.2.2.2.2.1,jB gT x0.2.2.2.2.2.2.2.2.1,jB fL x0.2.2.2.2.2.2.2.2.2.1,jB fP x0.2.2.2.2.2.2.2.2.2.2.1,none,hB_ vP [vI 0,lM x0.2.1.1,lM x0.2.1.2.1,lM x0.2.1.2.2.1,lM x0.2.1.2.2.2.1,vI 1,vI 2,lM x0.2.2.2.2.1.1,lM x0.2.2.2.2.1.2.1,lM x0.2.2.2.2.1.2.2.1,lM x0.2.2.2.2.2.1.1,lM x0.2.2.2.2.2.1.2.1,lM x0.2.2.2.2.2.1.2.2.1,vI 3,lM x0.2.2.2.2.2.2.2.1.1,lM x0.2.2.2.2.2.2.2.1.2.1,lM x0.2.2.2.2.2.2.2.1.2.2.1,lM x0.2.2.2.2.2.2.2.1.2.2.2.1,vI 4,vI 5,vI 6,vI 11],some (fY Gl [x1] true none (some false)),some (fY fP [r9 x1.2.1] true none (some false)),jB fP (Ac x0.2.2.2.2.2.2.2.2.2.2.2.1 (r9 x1.2.1) 8)])<|rt) λh=>OF h (λh=>c1 h λh=>cS h λs1 h=>tP s1<|tP (VQ [eP 0 8 0 vP,eT 1 Gl x1,eO 3 9 0 [],eB 4 false,eI 5 0,eB 6 (F7 x1.2.1),eI 7 (F8 x0.2.2.1 (sA x1.2.1) 48),eO 13 10 0 [],eO 15 9 0 [0],eS 16 x1.1,eB 26 (aB x1.1==aB (aA #[98,101,110,100])),eB 27 (aB x1.1==aB (aA #[98,101,110,100])),eB 46 (aB x1.1==aB (aA #[119,111,114,107,101,114])),eB 47 (aB x1.1==aB (aA #[119,111,114,107,101,114])),eB 66 (aB x1.1==aB (aA #[102,97,114,101])),eB 67 (aB x1.1==aB (aA #[102,97,114,101])),eB 86 (aB x1.1==aB (aA #[104,101,108,112,101,114])),eB 87 (aB x1.1==aB (aA #[104,101,108,112,101,114])),eB 106 (aB x1.1==aB (aA #[116,97,115,107])),eB 107 (aB x1.1==aB (aA #[116,97,115,107])),eB 126 (aB x1.1==aB (aA #[104,111,117,114])),eB 127 (aB x1.1==aB (aA #[104,111,117,114])),(128,gO [pE fL (sA x1.2.1),N2 (F7 x1.2.1)]),eO 129 9 0 [1],eS 130 x1.2.1,(131,gO [pE fL (sA x1.2.1),N2 (F7 x1.2.1)]),eT 132 fL (sA x1.2.1),eB 133 (F7 x1.2.1),(134,gO [oF 11 none,O9 (F8 x0.2.2.1 (sA x1.2.1) 48)]),eP 135 8 0 vP,eP 136 8 0 vP,eP 137 8 0 vP,eP 138 8 5 (.sl fL),eT 140 fL (sA x1.2.1),(141,gO [oF 11 none,O9 (F8 x0.2.2.1 (sA x1.2.1) 48)]),eW 142 11,eI 143 (F8 x0.2.2.1 (sA x1.2.1) 48),eP 144 8 0 vP,eP 145 8 5 (.sl fL)] [jB gT x0.1,none,jB fL x0.2.2.2.1,jB fP x0.2.2.2.2.2.2.1,jB gT x0.2.2.2.2.2.2.2.2.1,jB fL x0.2.2.2.2.2.2.2.2.2.1,jB fP x0.2.2.2.2.2.2.2.2.2.2.1,jB fP x0.2.2.2.2.2.2.2.2.2.2.2.1,hB_ vP [vI 0,lM x0.2.1.1,lM x0.2.1.2.1,lM x0.2.1.2.2.1,lM x0.2.1.2.2.2.1,vI 11,vI 2,lM x0.2.2.2.2.1.1,lM x0.2.2.2.2.1.2.1,lM x0.2.2.2.2.1.2.2.1,lM x0.2.2.2.2.2.1.1,lM x0.2.2.2.2.2.1.2.1,lM x0.2.2.2.2.2.1.2.2.1,vI 3,lM x0.2.2.2.2.2.2.2.1.1,lM x0.2.2.2.2.2.2.2.1.2.1,lM x0.2.2.2.2.2.2.2.1.2.2.1,lM x0.2.2.2.2.2.2.2.1.2.2.2.1,vI 4,vI 5,vI 6,vI 7],some (fY Gl [x1] true none (some false)),some (fY fL [sA x1.2.1] true none (some false)),jB fL (QW x0.2.2.1 (sA x1.2.1) 48)])<|rt) λh=>OF h (λh=>c1 h λh=>c1 h λh=>rt) λh=>OF h (λh=>c1 h λh=>rt) λh=>OF h (λh=>c1 h λh=>rt) λh=>c1 h λh=>rt
noncomputable def bAV:dB:=⟨223,Tryz.f223,[.v (.int .i64)],[.bool],[],[(108,p8)],false,[]⟩
theorem bJw:FO bAV:=mo Tryz.func223 ⟨iA,trivial⟩
def bJx (x0:Int):Prop:=True
def Vo (x0:Int):Bool:=cD x0 1 4
def bAW:=dR bAV (λ⟨x0,_⟩=>bJx x0) λ⟨x0,_⟩=>[⟨.bool,Vo x0⟩]
theorem aT2:c7 223 bAW:=dF bJw λ⟨x0,_⟩ h _ K q=>tv<|rt
noncomputable def bAX:dB:=⟨291,Tryz.f291,[.v fL],[.cons (.int .i64) JZ],[],[(115,aR0)],false,[]⟩
theorem bJy:FO bAX:=mo Tryz.func291 ⟨aIW,trivial⟩
def aT3 (x0:Int×Int×Int×Unit):Prop:=(if (!FU x0)=true then True else ((cC .i64 (x0.2.1+1))/\True))
def Vp (x0:Int×Int×Int×Unit):Int×Int×Int×Unit:=(if (!FU x0)=true then x0 else (if (decide (x0.2.1+1<3))=true then (x0.1,x0.2.1+1,x0.2.2) else (if (x0.1==3)=true then (0,0,0,()) else (if (x0.2.2.1==0)=true then (2,0,0,()) else (3,0,x0.2.2.1,())))))
def bAY:=dR bAX (λ⟨x0,_⟩=>aT3 x0) λ⟨x0,_⟩=>[⟨.cons (.int .i64) JZ,Vp x0⟩]
theorem aT4:c7 291 bAY:=dF bJy λ⟨x0,_⟩ h _ K q=>tv<|N1 h (λh=>rt) λh=>c1 h λh=>e1 (rt) (e1 (rt) (e1 (rt) (rt)))
noncomputable def bAZ:dB:=⟨224,Tryz.f224,[.v fL,.v (.int .i64)],[.cons (.int .i64) JZ,.bool],[],[(291,bAY)],false,[]⟩
theorem bJz:FO bAZ:=mo Tryz.func224 ⟨aT4,trivial⟩
def aT5 (x0:Int×Int×Int×Unit) (x1:Int):Prop:=(if (x1==4)=true then ((aT3 x0)/\True) else (if (x1==1)=true then True else (if (x1==2)=true then (if (x0.1==2)=true then True else (if (x1==3)=true then (if (x0.1==3)=true then (if (decide (x0.2.2.1<3))=true then ((cC .i64 (x0.2.2.1+1))/\True) else True) else True) else True)) else (if (x1==3)=true then (if (x0.1==3)=true then (if (decide (x0.2.2.1<3))=true then ((cC .i64 (x0.2.2.1+1))/\True) else True) else True) else True))))
def Vq (x0:Int×Int×Int×Unit) (x1:Int):Int×Int×Int×Unit:=(if (x1==4)=true then Vp x0 else (if (x1==1)=true then (if (x0.1==0)=true then (1,0,0,()) else (if (x0.1==3)=true then (1,0,0,()) else (if (x1==2)=true then (if (x0.1==2)=true then (3,0,0,()) else (if (x1==3)=true then x0 else x0)) else (if (x1==3)=true then x0 else x0)))) else (if (x1==2)=true then (if (x0.1==2)=true then (3,0,0,()) else (if (x1==3)=true then (if (x0.1==3)=true then (if (decide (x0.2.2.1<3))=true then (1,0,x0.2.2.1+1,()) else x0) else x0) else x0)) else (if (x1==3)=true then (if (x0.1==3)=true then (if (decide (x0.2.2.1<3))=true then (1,0,x0.2.2.1+1,()) else x0) else x0) else x0))))
def aCL (x0:Int×Int×Int×Unit) (x1:Int):Bool:=(if (x1==4)=true then true else (if (x1==1)=true then (if (x0.1==0)=true then true else (if (x0.1==3)=true then true else (if (x1==2)=true then (if (x0.1==2)=true then true else (if (x1==3)=true then false else false)) else (if (x1==3)=true then false else false)))) else (if (x1==2)=true then (if (x0.1==2)=true then true else (if (x1==3)=true then (if (x0.1==3)=true then (if (decide (x0.2.2.1<3))=true then true else false) else false) else false)) else (if (x1==3)=true then (if (x0.1==3)=true then (if (decide (x0.2.2.1<3))=true then true else false) else false) else false))))
def bBa:=dR bAZ (λ⟨x0,x1,_⟩=>aT5 x0 x1) λ⟨x0,x1,_⟩=>[⟨.cons (.int .i64) JZ,Vq x0 x1⟩,⟨.bool,aCL x0 x1⟩]
theorem aT6:c7 224 bBa:=dF bJz λ⟨x0,x1,_⟩ h _ K q=>o3 h (λh=>c1 h λh=>rt) λh=>o3 h (λh=>e2 (tT<|rt) (e2k (λb3=>rt) λb3=>e2 (e2 (rt) (e2 (kF b3<|tF<|rt) (tF<|tF<|rt))) (tF<|e2 (kF b3<|tF<|rt) (tF<|tF<|rt)))) λh=>tF<|o3 h (λh=>o3 h (λh=>rt) λh=>o3 h (λh=>o3 h (λh=>o3 h (λh=>c1 h λh=>rt) λh=>rt) λh=>tF<|rt) λh=>tF<|tF<|rt) λh=>tF<|o3 h (λh=>o3 h (λh=>o3 h (λh=>c1 h λh=>rt) λh=>rt) λh=>tF<|rt) λh=>tF<|tF<|rt
noncomputable def bBb:dB:=⟨152,Tryz.f152,[.v fL,.v (.int .i64)],[.cons (.int .i64) JZ,.int .i64],[],[(62,S62),(223,bAW),(224,bBa)],false,[]⟩
theorem bJ0:FO bBb:=mo Tryz.func152 ⟨aIX,aT2,aT6,trivial⟩
def aNS (x0:Int×Int×Int×Unit) (x1:Int):Prop:=(if (!kW x0)=true then True else (if (!Vo x1)=true then True else ((aT5 x0 x1)/\True)))
def M0 (x0:Int×Int×Int×Unit) (x1:Int):Int×Int×Int×Unit:=(if (!kW x0)=true then (0,0,0,()) else (if (!Vo x1)=true then (0,0,0,()) else (if (!aCL x0 x1)=true then (0,0,0,()) else Vq x0 x1)))
def Fo (x0:Int×Int×Int×Unit) (x1:Int):Int:=(if (!kW x0)=true then 1 else (if (!Vo x1)=true then 2 else (if (!aCL x0 x1)=true then 6 else 0)))
def bBc:=dR bBb (λ⟨x0,x1,_⟩=>aNS x0 x1) λ⟨x0,x1,_⟩=>[⟨.cons (.int .i64) JZ,M0 x0 x1⟩,⟨.int .i64,Fo x0 x1⟩]
theorem aT7:c7 152 bBc:=dF bJ0 λ⟨x0,x1,_⟩ h _ K q=>tv<|o3 h (λh=>rt) λh=>tv<|o3 h (λh=>rt) λh=>c1 h λh=>e2 (rt) (rt)
noncomputable def bBd:dB:=⟨225,Tryz.f225,[.v (.int .i64)],[.str],[],[(108,p8)],false,[]⟩
theorem bJ1:FO bBd:=mo Tryz.func225 ⟨iA,trivial⟩
def aNT (x0:Int):Prop:=(if (!cD x0 0 3)=true then True else ((0<=x0)/\(x0<4)/\True))
def qR (x0:Int):ByteArray:=(if (!cD x0 0 3)=true then aA #[] else aD [aA #[115,104,117,116],aA #[111,112,101,110,105,110,103],aA #[111,112,101,110],aA #[115,104,117,116,116,105,110,103]] (aE x0) aC)
def bBe:=dR bBd (λ⟨x0,_⟩=>aNT x0) λ⟨x0,_⟩=>[⟨.str,qR x0⟩]
theorem aT8:c7 225 bBe:=dF bJ1 λ⟨x0,_⟩ h _ K q=>tv<|N1 h (λh=>rt) λh=>c2 h λh=>rt
noncomputable def bBf:dB:=⟨153,Tryz.f153,[.v fL],[.str],[],[(62,S62),(225,bBe),(126,V0)],false,[]⟩
theorem bJ2:FO bBf:=mo Tryz.func153 ⟨aIX,aT8,DX,trivial⟩
def aNU (x0:Int×Int×Int×Unit):Prop:=(if (!kW x0)=true then True else ((aNT x0.1)/\((aH (qR x0.1)+1<=9223372036854775807)/\((BG x0.2.1)/\((aH (qR x0.1++aA #[47])+aH (dU x0.2.1)<=9223372036854775807)/\((aH (qR x0.1++aA #[47]++dU x0.2.1)+1<=9223372036854775807)/\((BG x0.2.2.1)/\((aH (qR x0.1++aA #[47]++dU x0.2.1++aA #[47])+aH (dU x0.2.2.1)<=9223372036854775807)/\True))))))))
def M1 (x0:Int×Int×Int×Unit):ByteArray:=(if (!kW x0)=true then aA #[] else qR x0.1++aA #[47]++dU x0.2.1++aA #[47]++dU x0.2.2.1)
def bBg:=dR bBf (λ⟨x0,_⟩=>aNU x0) λ⟨x0,_⟩=>[⟨.str,M1 x0⟩]
theorem aT9:c7 153 bBg:=dF bJ2 λ⟨x0,_⟩ h _ K q=>tv<|N1 h (λh=>rt) λh=>c1 h λh=>c1 h λh=>c1 h λh=>c1 h λh=>c1 h λh=>c1 h λh=>c1 h λh=>rt
noncomputable def bBh:dB:=⟨154,Tryz.f154,[.own fL,.v fL,.v (.int .i64)],[.sl fL,.int .i64],[],[(78,S78)],false,[]⟩
theorem bJ3:FO bBh:=mo Tryz.func154 ⟨aQc,trivial⟩
def aNV (x0:List cU) (x1:Int×Int×Int×Unit) (x2:Int):Prop:=(if (decide ((x0.length:Int)>=x2))=true then True else ((P78 x0)/\((aN (Yv x0)+1)*24<=140737488355328)/\True))
def Qd (x0:List cU) (x1:Int×Int×Int×Unit) (x2:Int):List cU:=(if (decide ((x0.length:Int)>=x2))=true then x0 else Yv x0++[x1])
def Fp (x0:List cU) (x1:Int×Int×Int×Unit) (x2:Int):Int:=(if (decide ((x0.length:Int)>=x2))=true then 5 else 0)
def bBi:=wD bBh (λ⟨x0,x1,x2,_⟩=>aNV x0 x1 x2) (λ⟨x0,x1,x2,_⟩=>[none]) λ⟨x0,x1,x2,_⟩=>[⟨.sl fL,Qd x0 x1 x2⟩,⟨.int .i64,Fp x0 x1 x2⟩]
theorem aTA:c7 154 bBi:=dF bJ3 λ⟨x0,x1,x2,_⟩ h _ K q=>o3 h (λh=>rt) λh=>cS h λs0 h=>cS h λs1 h=>tP s0<|tP s1<|tP (VQ [eW 0 0,eT 1 fL x1,eI 2 x2,eO 4 1 0 [],eW 6 2,eI 7 0,eW 8 0,eI 9 (x0.length:Int),eI 10 x2,eB 11 (decide ((x0.length:Int)>=x2)),eW 13 0,eT 15 fL x1,eW 16 3,eW 17 2] [jB fL x0,some (fY fL [x1] true none (some false)),jB fL (Yv x0++[x1]),jB fL [x1]])<|rt
noncomputable def d85:dB:=⟨85,Tryz.f85,[.po vP,.v Gl],[.sl .str,.int .i64],[],[(152,bBc),(153,bBg),(114,aRy),(154,bBi)],false,[]⟩
theorem o85:FO d85:=mo Tryz.func85 ⟨aT7,aT9,aIP,aTA,trivial⟩
def P85 (x0:fV) (x1:ByteArray×ByteArray×List Int×List Int×Unit):Prop:=(if (aB x1.1==aB (aA #[101,118,101,110,116]))=true then ((0<(x1.2.2.1.length:Int))/\((aNS x0.2.2.2.2.2.1 (aD x1.2.2.1 0 0))/\(if (Fo x0.2.2.2.2.2.1 (aD x1.2.2.1 0 0) != 0)=true then True else ((aNU (M0 x0.2.2.2.2.2.1 (aD x1.2.2.1 0 0)))/\True)))) else ((0<(x1.2.2.1.length:Int))/\((1<(x1.2.2.1.length:Int))/\((2<(x1.2.2.1.length:Int))/\(if (!rT (aD x1.2.2.1 0 0,aD x1.2.2.1 1 0,aD x1.2.2.1 2 0,()))=true then True else ((aNV x0.2.2.2.1 (aD x1.2.2.1 0 0,aD x1.2.2.1 1 0,aD x1.2.2.1 2 0,()) 8)/\True))))))
def Z3 (x0:fV) (x1:ByteArray×ByteArray×List Int×List Int×Unit):List ByteArray:=(if (aB x1.1==aB (aA #[101,118,101,110,116]))=true then (if (Fo x0.2.2.2.2.2.1 (aD x1.2.2.1 0 0) != 0)=true then [] else [M1 (M0 x0.2.2.2.2.2.1 (aD x1.2.2.1 0 0))]) else (if (!rT (aD x1.2.2.1 0 0,aD x1.2.2.1 1 0,aD x1.2.2.1 2 0,()))=true then [] else [aA #[111,107]]))
def Z4 (x0:fV) (x1:ByteArray×ByteArray×List Int×List Int×Unit):Int:=(if (aB x1.1==aB (aA #[101,118,101,110,116]))=true then (if (Fo x0.2.2.2.2.2.1 (aD x1.2.2.1 0 0) != 0)=true then Fo x0.2.2.2.2.2.1 (aD x1.2.2.1 0 0) else 0) else (if (!rT (aD x1.2.2.1 0 0,aD x1.2.2.1 1 0,aD x1.2.2.1 2 0,()))=true then 2 else Fp x0.2.2.2.1 (aD x1.2.2.1 0 0,aD x1.2.2.1 1 0,aD x1.2.2.1 2 0,()) 8))
def Z5 (x0:fV) (x1:ByteArray×ByteArray×List Int×List Int×Unit):fV:=(if (aB x1.1==aB (aA #[101,118,101,110,116]))=true then (if (Fo x0.2.2.2.2.2.1 (aD x1.2.2.1 0 0) != 0)=true then x0 else (x0.1,x0.2.1,x0.2.2.1,x0.2.2.2.1,x0.2.2.2.2.1,(M0 x0.2.2.2.2.2.1 (aD x1.2.2.1 0 0)),x0.2.2.2.2.2.2.1,x0.2.2.2.2.2.2.2.1,x0.2.2.2.2.2.2.2.2.1,x0.2.2.2.2.2.2.2.2.2.1,x0.2.2.2.2.2.2.2.2.2.2.1,x0.2.2.2.2.2.2.2.2.2.2.2.1,())) else (if (!rT (aD x1.2.2.1 0 0,aD x1.2.2.1 1 0,aD x1.2.2.1 2 0,()))=true then x0 else (x0.1,x0.2.1,x0.2.2.1,Qd x0.2.2.2.1 (aD x1.2.2.1 0 0,aD x1.2.2.1 1 0,aD x1.2.2.1 2 0,()) 8,x0.2.2.2.2.1,x0.2.2.2.2.2.1,x0.2.2.2.2.2.2.1,x0.2.2.2.2.2.2.2.1,x0.2.2.2.2.2.2.2.2.1,x0.2.2.2.2.2.2.2.2.2.1,x0.2.2.2.2.2.2.2.2.2.2.1,x0.2.2.2.2.2.2.2.2.2.2.2.1,())))
def S85:=wD d85 (λ⟨x0,x1,_⟩=>P85 x0 x1) (λ⟨x0,x1,_⟩=>[some ⟨.cons (.sl gT) YA1,[Z5 x0 x1]⟩]) λ⟨x0,x1,_⟩=>[⟨.sl .str,Z3 x0 x1⟩,⟨.int .i64,Z4 x0 x1⟩]
theorem bBj:c7 85 S85:=dF o85 λ⟨x0,x1,_⟩ h _ K q=>OF h (λh=>tP ((by decide):(0:Int)<=(0:Int))<|c1 h λh=>c1 h λh=>OF h (λh=>rt) λh=>c1 h λh=>rt) λh=>tP ((by decide):(0:Int)<=(0:Int))<|c1 h λh=>tP ((by decide):(0:Int)<=(1:Int))<|c1 h λh=>tP ((by decide):(0:Int)<=(2:Int))<|c1 h λh=>tv<|OF h (λh=>rt) λh=>cS h λs3 h=>tP s3<|tP (VQ [eP 0 8 0 vP,eT 1 Gl x1,eO 3 9 0 [],(4,.a (.val (.slice none 0 0))),eI 5 0,eO 8 10 0 [],eI 9 (Fp x0.2.2.2.1 (aD x1.2.2.1 0 0,aD x1.2.2.1 1 0,aD x1.2.2.1 2 0,()) 8),eO 10 9 0 [0],eS 11 x1.1,eB 12 (aB x1.1==aB (aA #[101,118,101,110,116])),eO 35 9 0 [2],eL 36 (.int .i64) x1.2.2.1,(37,.a (.ptr (.int .i64) (aD x1.2.2.1 0 0))),eI 38 (aD x1.2.2.1 0 0),eO 39 9 0 [2],eL 40 (.int .i64) x1.2.2.1,(41,.a (.ptr (.int .i64) (aD x1.2.2.1 1 0))),eI 42 (aD x1.2.2.1 1 0),eO 43 9 0 [2],eL 44 (.int .i64) x1.2.2.1,(45,.a (.ptr (.int .i64) (aD x1.2.2.1 2 0))),eI 46 (aD x1.2.2.1 2 0),eT 47 fL (aD x1.2.2.1 0 0,aD x1.2.2.1 1 0,aD x1.2.2.1 2 0,()),eT 48 fL (aD x1.2.2.1 0 0,aD x1.2.2.1 1 0,aD x1.2.2.1 2 0,()),eB 49 (rT (aD x1.2.2.1 0 0,aD x1.2.2.1 1 0,aD x1.2.2.1 2 0,())),eB 50 (!rT (aD x1.2.2.1 0 0,aD x1.2.2.1 1 0,aD x1.2.2.1 2 0,())),(51,gO [oF 11 none,O9 (Fp x0.2.2.2.1 (aD x1.2.2.1 0 0,aD x1.2.2.1 1 0,aD x1.2.2.1 2 0,()) 8)]),eP 52 8 0 vP,eP 53 8 0 vP,eP 54 8 0 vP,eP 55 8 6 (.sl fL),eT 57 fL (aD x1.2.2.1 0 0,aD x1.2.2.1 1 0,aD x1.2.2.1 2 0,()),(58,gO [oF 11 none,O9 (Fp x0.2.2.2.1 (aD x1.2.2.1 0 0,aD x1.2.2.1 1 0,aD x1.2.2.1 2 0,()) 8)]),eW 59 11,eI 60 (Fp x0.2.2.2.1 (aD x1.2.2.1 0 0,aD x1.2.2.1 1 0,aD x1.2.2.1 2 0,()) 8),eP 61 8 0 vP,eP 62 8 6 (.sl fL)] [jB gT x0.1,jB fL x0.2.2.1,none,jB fP x0.2.2.2.2.2.2.1,jB gT x0.2.2.2.2.2.2.2.2.1,jB fL x0.2.2.2.2.2.2.2.2.2.1,jB fP x0.2.2.2.2.2.2.2.2.2.2.1,jB fP x0.2.2.2.2.2.2.2.2.2.2.2.1,hB_ vP [vI 0,lM x0.2.1.1,lM x0.2.1.2.1,lM x0.2.1.2.2.1,lM x0.2.1.2.2.2.1,vI 1,vI 11,lM x0.2.2.2.2.1.1,lM x0.2.2.2.2.1.2.1,lM x0.2.2.2.2.1.2.2.1,lM x0.2.2.2.2.2.1.1,lM x0.2.2.2.2.2.1.2.1,lM x0.2.2.2.2.2.1.2.2.1,vI 3,lM x0.2.2.2.2.2.2.2.1.1,lM x0.2.2.2.2.2.2.2.1.2.1,lM x0.2.2.2.2.2.2.2.1.2.2.1,lM x0.2.2.2.2.2.2.2.1.2.2.2.1,vI 4,vI 5,vI 6,vI 7],some (fY Gl [x1] true none (some false)),some (fY fL [(aD x1.2.2.1 0 0,aD x1.2.2.1 1 0,aD x1.2.2.1 2 0,())] true none (some false)),jB fL (Qd x0.2.2.2.1 (aD x1.2.2.1 0 0,aD x1.2.2.1 1 0,aD x1.2.2.1 2 0,()) 8)])<|rt
noncomputable def bBk:dB:=⟨292,Tryz.f292,[.v (.int .i64)],[.bool],[],[(108,p8)],false,[]⟩
theorem bJ4:FO bBk:=mo Tryz.func292 ⟨iA,trivial⟩
def bJ5 (x0:Int):Prop:=True
def Vr (x0:Int):Bool:=cD x0 0 5000
def bBl:=dR bBk (λ⟨x0,_⟩=>bJ5 x0) λ⟨x0,_⟩=>[⟨.bool,Vr x0⟩]
theorem aTB:c7 292 bBl:=dF bJ4 λ⟨x0,_⟩ h _ K q=>tv<|rt
noncomputable def bBm:dB:=⟨359,Tryz.f359,[.v (.int .i64)],[.int .i64],[],[],false,[]⟩
theorem bJ6:FO bBm:=mo Tryz.func359 trivial
def OJ (x0:Int):Prop:=(if (decide (x0<0))=true then ((cC .i64 (0 - x0))/\True) else True)
def nN (x0:Int):Int:=(if (decide (x0<0))=true then 0 - x0 else x0)
def aTC:=dR bBm (λ⟨x0,_⟩=>OJ x0) λ⟨x0,_⟩=>[⟨.int .i64,nN x0⟩]
theorem aKg:c7 359 aTC:=dF bJ6 λ⟨x0,_⟩ h _ K q=>N1 h (λh=>c1 h λh=>rt) λh=>rt
noncomputable def bBn:dB:=⟨370,Tryz.f370,[.v (.int .i64),.v (.int .i64)],[.int .i64],[],[(359,aTC)],false,[]⟩
theorem bJ7:FO bBn:=mo Tryz.func370 ⟨aKg,trivial⟩
def M2 (x0:Int) (x1:Int):Prop:=((x1≠0)/\(cC .i64 (bM x0 x1))/\((x1≠0)/\(cC .i64 (c8 x0 x1))/\((OJ (c8 x0 x1))/\((OJ x1)/\((cC .i64 (nN x1 - nN (c8 x0 x1)))/\(if (decide (nN (c8 x0 x1)>=nN x1 - nN (c8 x0 x1)))=true then (if (!decide (x0<0)==decide (x1<0))=true then ((cC .i64 (bM x0 x1 - 1))/\True) else ((cC .i64 (bM x0 x1+1))/\True)) else True))))))
def pT (x0:Int) (x1:Int):Int:=(if (decide (nN (c8 x0 x1)>=nN x1 - nN (c8 x0 x1)))=true then (if (!decide (x0<0)==decide (x1<0))=true then bM x0 x1 - 1 else bM x0 x1+1) else bM x0 x1)
def aTD:=dR bBn (λ⟨x0,x1,_⟩=>M2 x0 x1) λ⟨x0,x1,_⟩=>[⟨.int .i64,pT x0 x1⟩]
theorem aCM:c7 370 aTD:=dF bJ7 λ⟨x0,x1,_⟩ h _ K q=>c2 h λh=>c2 h λh=>c1 h λh=>c1 h λh=>c1 h λh=>N1 h (λh=>N1 h (λh=>c1 h λh=>rt) λh=>c1 h λh=>rt) λh=>rt
noncomputable def bBo:dB:=⟨355,Tryz.f355,[.v (.int .i64),.v (.int .i64),.v (.int .i64)],[.int .i64],[],[(370,aTD)],false,[]⟩
theorem bJ8:FO bBo:=mo Tryz.func355 ⟨aCM,trivial⟩
def bBp (x0:Int) (x1:Int) (x2:Int):Prop:=((cC .i64 (x2*x2))/\((M2 (x2*x2) x0)/\((cC .i64 (981*x1))/\((M2 (981*x1) 100)/\((cC .i64 (pT (x2*x2) x0 - pT (981*x1) 100))/\True)))))
def aKh (x0:Int) (x1:Int) (x2:Int):Int:=pT (x2*x2) x0 - pT (981*x1) 100
def bBq:=dR bBo (λ⟨x0,x1,x2,_⟩=>bBp x0 x1 x2) λ⟨x0,x1,x2,_⟩=>[⟨.int .i64,aKh x0 x1 x2⟩]
theorem aTE:c7 355 bBq:=dF bJ8 λ⟨x0,x1,x2,_⟩ h _ K q=>c1 h λh=>c1 h λh=>c1 h λh=>c1 h λh=>c1 h λh=>rt
noncomputable def bBr:dB:=⟨354,Tryz.f354,[.v (.int .i64),.p (.cons .str (.cons (.int .i64) (.cons (.int .i64) (.cons (.int .i64) .unit)))),.p (.int .i64)],[.bool],[],[(355,bBq)],false,[]⟩
theorem bJ9:FO bBr:=mo Tryz.func354 ⟨aTE,trivial⟩
def aNW (x0:Int) (x1:ByteArray×Int×Int×Int×Unit) (x2:Int):Prop:=((bBp x1.2.1 x1.2.2.2.1 x0)/\True)
def D0 (x0:Int) (x1:ByteArray×Int×Int×Int×Unit) (x2:Int):Bool:=decide (aKh x1.2.1 x1.2.2.2.1 x0>x2)
def bBs:=dR bBr (λ⟨x0,x1,x2,_⟩=>aNW x0 x1 x2) λ⟨x0,x1,x2,_⟩=>[⟨.bool,D0 x0 x1 x2⟩]
theorem aTF:c7 354 bBs:=dF bJ9 λ⟨x0,x1,x2,_⟩ h _ K q=>c1 h λh=>rt
end
def bsI (C:Int->Bool):Nat->Int->Int->Int
 | 0,lo,_=>lo
 | n+1,lo,e=>if lo<e then (if C (bM (lo+e) 2)=true then bsI C n lo (bM (lo+e) 2) else bsI C n (bM (lo+e) 2+1) e) else lo
theorem Vs {lo e:Int} (h0:0<=lo) (h:lo<e):lo<=bM (lo+e) 2/\bM (lo+e) 2<e:=by
 rw [gF (by omega)];omega
noncomputable section
noncomputable def KV:dB:=⟨353,Tryz.f353,[.v (.int .i64),.v (.int .i64),.fn 354 [(true,(.cons .str (.cons (.int .i64) (.cons (.int .i64) (.cons (.int .i64) .unit))))),(true,(.int .i64))]],[.int .i64],[],[(354,bBs)],false,[]⟩
theorem aKi:FO KV:=mo XR ⟨aTF,trivial⟩
def aCO (v7:Int) (x0:Int) (x2:ByteArray×Int×Int×Int×Unit) (x2c:Int):eD×bG:=([eI 0 x0,(2,nU 354 [pM gT x2,pM (.int .i64) x2c]),eI 7 v7],[])
mutual
def Qe:Nat->Int->Int->ByteArray×Int×Int×Int×Unit->Int->List aY->Prop
 | 0,_,_,_,_,_=>False
 | n+1,x0,x1,x2,x2c,ds=>((cC .i64 (x1+1))/\(qS n (x1+1) (x0) (x2) (x2c) ds))
def qS:Nat->Int->Int->ByteArray×Int×Int×Int×Unit->Int->List aY->Prop
 | 0,_,_,_,_,_=>False
 | n+1,v7,x0,x2,x2c,ds=>(if (decide (x0<v7))=true then ((cC .i64 (x0+v7))/\((cC .i64 (bM (x0+v7) 2))/\((aNW (bM (x0+v7) 2) x2 x2c)/\(if (D0 (bM (x0+v7) 2) x2 x2c)=true then (qS n (bM (x0+v7) 2) (x0) (x2) (x2c) ds) else ((cC .i64 (bM (x0+v7) 2+1))/\(qS n (v7) (bM (x0+v7) 2+1) (x2) (x2c) ds)))))) else (ds=[aP (.int .i64) x0]))
end
theorem aCP (ds:List aY) (K:jK) (q:Nat->Value):∀ n,(∀ {x0 x1 x2 x2c},Qe n x0 x1 x2 x2c ds->St KV (x0,x1,(x2,x2c,()),()) ds [] K q)/\(∀ {v7 x0 x2 x2c},qS n v7 x0 x2 x2c ds->Cu KV 2 (aCO v7 x0 x2 x2c) ds [] K q):=by
 intro n
 induction n with
 | zero=>exact ⟨λh=>h.elim,λh=>h.elim⟩
 | succ n ih =>
 obtain ⟨i,i2⟩:=ih;exact ⟨λh=>c1 h λh=>jp (i2 h),
  λ{v7} {x0} {x2} {x2c} h=>bR h (λh=>c1 h λh=>tP ((by decide):(2:Int)≠(0:Int))<|c1 h λh=>c1 h λh=>bR h (λh=>jp (i2 h)) λh=>c1 h λh=>jp (i2 h)) λh=>rh h⟩
def D3 (x0 x1:Int) (y0:ByteArray×Int×Int×Int×Unit) (y1:Int):Int:=bsI (λx=>D0 x y0 y1) (x1+1 - x0).toNat x0 (x1+1)
def Qf (x0 x1:Int) (y0:ByteArray×Int×Int×Int×Unit) (y1:Int):Prop:=(0<=x0/\x0<=x1+1/\x1<=1000000000)/\∀ v,0<=v->v<=x1->aNW v y0 y1
theorem aCQ (y0:ByteArray×Int×Int×Int×Unit) (y1:Int) (e9:Int) (he:e9<=1000000000) (hp:∀ v,0<=v->v<=e9->aNW v y0 y1):∀ (k:Nat) (lo e:Int),0<=lo->lo<=e->e<=e9+1->e - lo<=(k:Int)->qS (k+1) e lo y0 y1 [⟨.int .i64,bsI (λx=>D0 x y0 y1) k lo e⟩]:=by
 intro k
 induction k with
 | zero =>
  intro lo e h0 h1 h2 h3;rw [qS,if_neg (by simp only [decide_eq_true_eq];omega)];rfl
 | succ k ih =>
  intro lo e h0 h1 h2 h3;unfold bsI;by_cases hlt:lo<e
  ·obtain ⟨m1,m2⟩:=Vs h0 hlt;rw [qS,if_pos (by simpa using hlt),if_pos hlt];refine ⟨by rw [aK];omega,by rw [aK];omega,hp _ (by omega) (by omega),?_⟩;split
   ·exact ih lo _ h0 m1 (by omega) (by omega)
   ·exact ⟨by rw [aK];omega,ih _ e (by omega) (by omega) h2 (by omega)⟩
  ·rw [qS,if_neg (by simpa using hlt),if_neg hlt]
theorem aCR (x0 x1:Int) (y0:ByteArray×Int×Int×Int×Unit) (y1:Int) (h:Qf x0 x1 y0 y1):Qe ((x1+1 - x0).toNat+1+1) x0 x1 y0 y1 [⟨.int .i64,D3 x0 x1 y0 y1⟩]:=by
 obtain ⟨⟨h1,h2,h3⟩,hp⟩:=h;rw [Qe];exact ⟨by rw [aK];omega,aCQ y0 y1 x1 h3 hp _ _ _ h1 h2 (by omega) (by omega)⟩
def Z6:=dR KV (λ⟨x0,x1,⟨y0,y1,_⟩,_⟩=>Qf x0 x1 y0 y1) λ⟨x0,x1,⟨y0,y1,_⟩,_⟩=>[⟨.int .i64,D3 x0 x1 y0 y1⟩]
theorem aCS:c7 353 Z6:=dF aKi (λ⟨x0,x1,⟨y0,y1,_⟩,_⟩ h hwf K q =>
 (aCP _ K q _).1 (aCR x0 x1 y0 y1 h))
noncomputable def bBt:dB:=⟨293,Tryz.f293,[.v gT,.v (.int .i64)],[.int .i64],[],[(353,Z6)],false,[]⟩
theorem bJA:FO bBt:=mo Tryz.func293 ⟨aCS,trivial⟩
def aCT (x0:ByteArray×Int×Int×Int×Unit) (x1:Int):Prop:=((Qf 0 20000 x0 x1)/\((cC .i64 (D3 0 20000 x0 x1 - 1))/\True))
def D4 (x0:ByteArray×Int×Int×Int×Unit) (x1:Int):Int:=D3 0 20000 x0 x1 - 1
def bBu:=dR bBt (λ⟨x0,x1,_⟩=>aCT x0 x1) λ⟨x0,x1,_⟩=>[⟨.int .i64,D4 x0 x1⟩]
theorem aTG:c7 293 bBu:=dF bJA λ⟨x0,x1,_⟩ h _ K q=>c1 h λh=>c1 h λh=>rt
end
end Go.Proofs.YtmhpnodnljbnjaaGreatDoor
set_option maxRecDepth 100000
namespace Go.Proofs.YtmhpnodnljbnjaaGreatDoor
open Go Go.Am Go.Proofs
noncomputable section
noncomputable def aNX:dB:=⟨226,Tryz.f226,[.v (.sl gT),.v (.int .i64)],[.int .i64,.int .i64,.int .i64],[],[(57,S57),(292,bBl),(293,bBu)],false,[]⟩
theorem bJB:FO aNX:=mo Tryz.func226 ⟨aPM,aTB,aTG,trivial⟩
def aTH (v7:Int) (v24:Int) (x0:List dG) (x1:Int):eD×bG:=([eL 0 gT x0,eI 1 x1,eI 7 v7,eL 22 gT x0,eI 23 (x0.length:Int),eI 24 v24],[])
mutual
def aG7:Nat->List dG->Int->List aY->Prop
 | 0,_,_,_=>False
 | n+1,x0,x1,ds=>(if (!sL x0)=true then (ds=[aP (.int .i64) 0,aP (.int .i64) 0,aP (.int .i64) 1]) else (if (!Vr x1)=true then (ds=[aP (.int .i64) 0,aP (.int .i64) 0,aP (.int .i64) 2]) else (if ((x0.length:Int)==0)=true then (ds=[aP (.int .i64) 0,aP (.int .i64) 0,aP (.int .i64) 3]) else (If n (0) (0) (x0) (x1) ds))))
def If:Nat->Int->Int->List dG->Int->List aY->Prop
 | 0,_,_,_,_,_=>False
 | n+1,v7,v24,x0,x1,ds=>(if (decide (v24<(x0.length:Int)))=true then ((0<=v24)/\(v24<(x0.length:Int))/\((aCT (aD x0 (aE v24) (aC,0,0,0,())) x1)/\((0<=v7)/\(v7<(x0.length:Int))/\((aCT (aD x0 (aE v7) (aC,0,0,0,())) x1)/\(if (decide (D4 (aD x0 (aE v24) (aC,0,0,0,())) x1<D4 (aD x0 (aE v7) (aC,0,0,0,())) x1))=true then ((cC .i64 (v24+1))/\(If n (v24) (v24+1) (x0) (x1) ds)) else ((cC .i64 (v24+1))/\(If n (v7) (v24+1) (x0) (x1) ds))))))) else ((0<=v7)/\(v7<(x0.length:Int))/\((aCT (aD x0 (aE v7) (aC,0,0,0,())) x1)/\(ds=[aP (.int .i64) v7,aP (.int .i64) (D4 (aD x0 (aE v7) (aC,0,0,0,())) x1),aP (.int .i64) 0]))))
end
theorem aTI (ds:List aY) (K:jK) (q:Nat->Value):∀ n,(∀ {x0 x1},aG7 n x0 x1 ds->St aNX (x0,x1,()) ds [] K q)/\(∀ {v7 v24 x0 x1},If n v7 v24 x0 x1 ds->Cu aNX 9 (aTH v7 v24 x0 x1) ds [] K q):=by
 intro n
 induction n with
 | zero=>exact ⟨λh=>h.elim,λh=>h.elim⟩
 | succ n ih =>
 obtain ⟨i,i9⟩:=ih;exact ⟨λh=>tv<|bR h (λh=>rh h) λh=>tv<|bR h (λh=>rh h) λh=>bR h (λh=>rh h) λh=>jp (i9 h),
  λh=>bR h (λh=>c2 h λh=>c1 h λh=>c2 h λh=>c1 h λh=>bR h (λh=>c1 h λh=>jp (i9 h)) λh=>c1 h λh=>jp (i9 h)) λh=>c2 h λh=>c1 h λh=>rh h⟩
abbrev KW:=ByteArray×Int×Int×Int×Unit
def Qg (x0:List KW) (x1:Int) (i:Int):Int:=D4 (x0.getD i.toNat (aC,0,0,0,())) x1
def y7 (x0:List KW) (x1:Int):Nat->Nat->Int->Int
 | 0,_,s=>s
 | k+1,i,s=>y7 x0 x1 k (i+1) (if decide (Qg x0 x1 (i:Int)<Qg x0 x1 s)=true then (i:Int) else s)
def Gn (x0:List KW) (x1:Int):Int:=if (!sL x0)=true then 1 else if (!Vr x1)=true then 2 else if ((x0.length:Int)==0)=true then 3 else 0
def aCU (x0:List KW) (x1:Int):Int:=if Gn x0 x1=0 then y7 x0 x1 x0.length 0 0 else 0
def M3 (x0:List KW) (x1:Int):Int:=if Gn x0 x1=0 then Qg x0 x1 (y7 x0 x1 x0.length 0 0) else 0
def Vt (x0:List KW) (x1:Int):Int:=Gn x0 x1
def aKj (x0:List KW) (x1:Int):Prop:=Gn x0 x1=0->∀ b∈x0,aCT b x1
theorem aTJ (x0:List KW) (x1:Int) (hm:x0.length<=maxLen) (hp:∀ b∈x0,aCT b x1):∀ (k i:Nat) (s:Int),i+k=x0.length->0<=s->s<(x0.length:Int)->If (k+1) s (i:Int) x0 x1 [⟨.int .i64,y7 x0 x1 k i s⟩,⟨.int .i64,Qg x0 x1 (y7 x0 x1 k i s)⟩,⟨.int .i64,0⟩]:=by
 intro k
 induction k with
 | zero =>
  intro i s hi h1 h2;rw [If,if_neg (by simp only [decide_eq_true_eq];omega)];exact ⟨h1,h2,hp _ (dN x0 s.toNat _ (by omega)),rfl⟩
 | succ k ih =>
  intro i s hi h1 h2;have hlt:i<x0.length:=by omega
  have hu:=fC hm hlt;have e3:(i:Int)+1=((i+1:Nat):Int):=by omega
  rw [e3] at hu;rw [If,if_pos (by simp only [decide_eq_true_eq];omega),e3];refine ⟨by omega,by omega,hp _ (dN x0 _ _ (by omega)),h1,h2,hp _ (dN x0 _ _ (by omega)),?_⟩;unfold y7;by_cases c:decide (Qg x0 x1 (i:Int)<Qg x0 x1 s)=true
  ·rw [if_pos c];exact (if_pos c).mpr ⟨hu,ih (i+1) _ (by omega) (by omega) (by omega)⟩
  ·rw [if_neg c];exact (if_neg c).mpr ⟨hu,ih (i+1) _ (by omega) h1 h2⟩
theorem aTK (x0:List KW) (x1:Int) (hm:x0.length<=maxLen) (h:aKj x0 x1):∃ n,aG7 n x0 x1 [⟨.int .i64,aCU x0 x1⟩,⟨.int .i64,M3 x0 x1⟩,⟨.int .i64,Vt x0 x1⟩]:=by
 unfold aKj at h;unfold aCU M3 Vt;unfold Gn at h ⊢;by_cases c1:(!sL x0)=true
 ·exact ⟨1,by rw [aG7,if_pos c1,if_pos c1,if_neg (by decide),if_neg (by decide)]⟩
 ·rw [if_neg c1] at h ⊢;by_cases c2:(!Vr x1)=true
  ·exact ⟨1,by rw [aG7,if_neg c1,if_pos c2,if_pos c2,if_neg (by decide),if_neg (by decide)]⟩
  ·rw [if_neg c2] at h ⊢;by_cases c3:((x0.length:Int)==0)=true
   ·exact ⟨1,by rw [aG7,if_neg c1,if_neg c2,if_pos c3,if_pos c3,if_neg (by decide),if_neg (by decide)]⟩
   ·rw [if_neg c3] at h ⊢;have hn:x0.length≠0:=λe=>c3 (by rw [e];rfl);refine ⟨x0.length+1+1,?_⟩;rw [aG7,if_neg c1,if_neg c2,if_neg c3,if_pos rfl,if_pos rfl];exact aTJ x0 x1 hm (h rfl) x0.length 0 0 (by omega) (gA _) (by omega)
def bBv:=dR aNX (λ⟨x0,x1,_⟩=>aKj x0 x1) λ⟨x0,x1,_⟩=>[⟨.int .i64,aCU x0 x1⟩,⟨.int .i64,M3 x0 x1⟩,⟨.int .i64,Vt x0 x1⟩]
theorem aTL:c7 226 bBv:=dF bJB (λ⟨x0,x1,_⟩ h hwf K q =>
 let ⟨n,hn⟩:=aTK x0 x1 hwf.1.1 h
 (aTI _ K q n).1 hn)
noncomputable def bBw:dB:=⟨295,Tryz.f295,[.v (.int .i64)],[.bool],[],[(108,p8)],false,[]⟩
theorem bJC:FO bBw:=mo Tryz.func295 ⟨iA,trivial⟩
def bJD (x0:Int):Prop:=True
def M4 (x0:Int):Bool:=cD x0 1 10000000
def bBx:=dR bBw (λ⟨x0,_⟩=>bJD x0) λ⟨x0,_⟩=>[⟨.bool,M4 x0⟩]
theorem aTM:c7 295 bBx:=dF bJC λ⟨x0,_⟩ h _ K q=>tv<|rt
noncomputable def bBy:dB:=⟨294,Tryz.f294,[.v X1,.v (.bool)],[.int .i64],[],[(58,S58)],false,[]⟩
theorem bJE:FO bBy:=mo Tryz.func294 ⟨aIH,trivial⟩
def bJF (x0:Int×Int×Int×Int×Unit) (x1:Bool):Prop:=True
def M5 (x0:Int×Int×Int×Int×Unit) (x1:Bool):Int:=(if (!BV x0)=true then 1 else (if (!x1)=true then 2 else 0))
def bBz:=dR bBy (λ⟨x0,x1,_⟩=>bJF x0 x1) λ⟨x0,x1,_⟩=>[⟨.int .i64,M5 x0 x1⟩]
theorem aTN:c7 294 bBz:=dF bJE λ⟨x0,x1,_⟩ h _ K q=>tv<|e1 (rt) (e1 (rt) (rt))
noncomputable def bB0:dB:=⟨227,Tryz.f227,[.v X1,.v (.int .i64)],[.int .i64,.int .i64],[],[(295,bBx),(294,bBz)],false,[]⟩
theorem bJG:FO bB0:=mo Tryz.func227 ⟨aTM,aTN,trivial⟩
def aNY (x0:Int×Int×Int×Int×Unit) (x1:Int):Prop:=(if (M5 x0 (M4 x1) != 0)=true then True else ((cC .i64 (1000*x0.2.2.2.1))/\((x1≠0)/\(cC .i64 (bM (1000*x0.2.2.2.1) x1))/\True)))
def Vu (x0:Int×Int×Int×Int×Unit) (x1:Int):Int:=(if (M5 x0 (M4 x1) != 0)=true then 0 else bM (1000*x0.2.2.2.1) x1)
def aKk (x0:Int×Int×Int×Int×Unit) (x1:Int):Int:=(if (M5 x0 (M4 x1) != 0)=true then M5 x0 (M4 x1) else 0)
def bB1:=dR bB0 (λ⟨x0,x1,_⟩=>aNY x0 x1) λ⟨x0,x1,_⟩=>[⟨.int .i64,Vu x0 x1⟩,⟨.int .i64,aKk x0 x1⟩]
theorem aTO:c7 227 bB1:=dF bJG λ⟨x0,x1,_⟩ h _ K q=>tv<|tv<|o3 h (λh=>rt) λh=>c1 h λh=>c2 h λh=>rt
noncomputable def bB2:dB:=⟨297,Tryz.f297,[.v (.int .i64)],[.bool],[],[(108,p8)],false,[]⟩
theorem bJH:FO bB2:=mo Tryz.func297 ⟨iA,trivial⟩
def bJI (x0:Int):Prop:=True
def Vv (x0:Int):Bool:=cD x0 (-1000000) 1000000
def bB3:=dR bB2 (λ⟨x0,_⟩=>bJI x0) λ⟨x0,_⟩=>[⟨.bool,Vv x0⟩]
theorem aTP:c7 297 bB3:=dF bJH λ⟨x0,_⟩ h _ K q=>tv<|rt
noncomputable def bB4:dB:=⟨296,Tryz.f296,[.v fL,.v (.bool)],[.int .i64],[],[(61,S61)],false,[]⟩
theorem bJJ:FO bB4:=mo Tryz.func296 ⟨aIV,trivial⟩
def bJK (x0:Int×Int×Int×Unit) (x1:Bool):Prop:=True
def Ad (x0:Int×Int×Int×Unit) (x1:Bool):Int:=(if (!vQ x0)=true then 1 else (if (!x1)=true then 2 else 0))
def bB5:=dR bB4 (λ⟨x0,x1,_⟩=>bJK x0 x1) λ⟨x0,x1,_⟩=>[⟨.int .i64,Ad x0 x1⟩]
theorem aTQ:c7 296 bB5:=dF bJJ λ⟨x0,x1,_⟩ h _ K q=>tv<|e1 (rt) (e1 (rt) (rt))
noncomputable def bB6:dB:=⟨356,Tryz.f356,[.v (.int .i64),.v (.int .i64)],[.int .i64],[],[],false,[]⟩
theorem bJL:FO bB6:=mo Tryz.func356 trivial
def bB7 (x0:Int) (x1:Int):Prop:=((cC .i64 (x0+x1))/\((cC .i64 (x0+x1 - 1))/\((x1≠0)/\(cC .i64 (bM (x0+x1 - 1) x1))/\True)))
def aCV (x0:Int) (x1:Int):Int:=bM (x0+x1 - 1) x1
def bB8:=dR bB6 (λ⟨x0,x1,_⟩=>bB7 x0 x1) λ⟨x0,x1,_⟩=>[⟨.int .i64,aCV x0 x1⟩]
theorem aTR:c7 356 bB8:=dF bJL λ⟨x0,x1,_⟩ h _ K q=>c1 h λh=>c1 h λh=>c2 h λh=>rt
noncomputable def bB9:dB:=⟨299,Tryz.f299,[.v fL,.v (.int .i64),.v (.int .i64)],[.int .i64],[],[(356,bB8)],false,[]⟩
theorem bJM:FO bB9:=mo Tryz.func299 ⟨aTR,trivial⟩
def aG8 (x0:Int×Int×Int×Unit) (x1:Int) (x2:Int):Prop:=((cC .i64 (x1*x2))/\((cC .i64 (bM (x1*x2) 1000))/\(if (decide (bM (x1*x2) 1000>0))=true then ((cC .i64 (1000*bM (x1*x2) 1000))/\((cC .i64 (1000 - x0.2.2.1))/\((bB7 (1000*bM (x1*x2) 1000) (1000 - x0.2.2.1))/\True))) else ((cC .i64 (0 - bM (x1*x2) 1000))/\((cC .i64 (1000 - x0.2.2.1))/\((cC .i64 ((0 - bM (x1*x2) 1000)*(1000 - x0.2.2.1)))/\((cC .i64 (bM ((0 - bM (x1*x2) 1000)*(1000 - x0.2.2.1)) 1000))/\((cC .i64 (0 - bM ((0 - bM (x1*x2) 1000)*(1000 - x0.2.2.1)) 1000))/\True))))))))
def Qh (x0:Int×Int×Int×Unit) (x1:Int) (x2:Int):Int:=(if (decide (bM (x1*x2) 1000>0))=true then aCV (1000*bM (x1*x2) 1000) (1000 - x0.2.2.1) else 0 - bM ((0 - bM (x1*x2) 1000)*(1000 - x0.2.2.1)) 1000)
def aTS:=dR bB9 (λ⟨x0,x1,x2,_⟩=>aG8 x0 x1 x2) λ⟨x0,x1,x2,_⟩=>[⟨.int .i64,Qh x0 x1 x2⟩]
theorem aKl:c7 299 aTS:=dF bJM λ⟨x0,x1,x2,_⟩ h _ K q=>c1 h λh=>tP ((by decide):(1000:Int)≠(0:Int))<|c1 h λh=>N1 h (λh=>c1 h λh=>c1 h λh=>c1 h λh=>rt) λh=>c1 h λh=>c1 h λh=>c1 h λh=>tP ((by decide):(1000:Int)≠(0:Int))<|c1 h λh=>c1 h λh=>rt
noncomputable def bBA:dB:=⟨298,Tryz.f298,[.v fL,.v (.int .i64),.v (.int .i64)],[.bool],[],[(299,aTS)],false,[]⟩
theorem bJN:FO bBA:=mo Tryz.func298 ⟨aKl,trivial⟩
def aNZ (x0:Int×Int×Int×Unit) (x1:Int) (x2:Int):Prop:=(if (decide (x1<=x0.2.1))=true then ((aG8 x0 x1 x2)/\True) else True)
def Ig (x0:Int×Int×Int×Unit) (x1:Int) (x2:Int):Bool:=(if (decide (x1<=x0.2.1))=true then decide (Qh x0 x1 x2<=x0.1) else false)
def bBB:=dR bBA (λ⟨x0,x1,x2,_⟩=>aNZ x0 x1 x2) λ⟨x0,x1,x2,_⟩=>[⟨.bool,Ig x0 x1 x2⟩]
theorem aTT:c7 298 bBB:=dF bJN λ⟨x0,x1,x2,_⟩ h _ K q=>N1 h (λh=>c1 h λh=>rt) λh=>rt
noncomputable def bBC:dB:=⟨228,Tryz.f228,[.v fL,.v (.int .i64),.v (.int .i64)],[.int .i64,.int .i64],[],[(297,bB3),(182,aRx),(296,bB5),(298,bBB),(299,aTS)],false,[]⟩
theorem bJO:FO bBC:=mo Tryz.func228 ⟨aTP,aIO,aTQ,aTT,aKl,trivial⟩
def aOa (x0:Int×Int×Int×Unit) (x1:Int) (x2:Int):Prop:=(if (Vv x1)=true then (if (Ad x0 (I0 x2) != 0)=true then True else ((aNZ x0 x1 x2)/\(if (!Ig x0 x1 x2)=true then True else ((aG8 x0 x1 x2)/\True)))) else (if (Ad x0 false != 0)=true then True else ((aNZ x0 x1 x2)/\(if (!Ig x0 x1 x2)=true then True else ((aG8 x0 x1 x2)/\True)))))
def Vw (x0:Int×Int×Int×Unit) (x1:Int) (x2:Int):Int:=(if (Vv x1)=true then (if (Ad x0 (I0 x2) != 0)=true then 0 else (if (!Ig x0 x1 x2)=true then 0 else Qh x0 x1 x2)) else (if (Ad x0 false != 0)=true then 0 else (if (!Ig x0 x1 x2)=true then 0 else Qh x0 x1 x2)))
def aKm (x0:Int×Int×Int×Unit) (x1:Int) (x2:Int):Int:=(if (Vv x1)=true then (if (Ad x0 (I0 x2) != 0)=true then Ad x0 (I0 x2) else (if (!Ig x0 x1 x2)=true then 6 else 0)) else (if (Ad x0 false != 0)=true then Ad x0 false else (if (!Ig x0 x1 x2)=true then 6 else 0)))
def bBD:=dR bBC (λ⟨x0,x1,x2,_⟩=>aOa x0 x1 x2) λ⟨x0,x1,x2,_⟩=>[⟨.int .i64,Vw x0 x1 x2⟩,⟨.int .i64,aKm x0 x1 x2⟩]
theorem aTU:c7 228 bBD:=dF bJO λ⟨x0,x1,x2,_⟩ h _ K q=>tv<|o3 h (λh=>tv<|tv<|o3 h (λh=>rt) λh=>c1 h λh=>o3 h (λh=>rt) λh=>c1 h λh=>rt) λh=>tv<|o3 h (λh=>rt) λh=>c1 h λh=>o3 h (λh=>rt) λh=>c1 h λh=>rt
noncomputable def bBE:dB:=⟨358,Tryz.f358,[.v (.int .i64)],[.bool],[],[(108,p8)],false,[]⟩
theorem bJP:FO bBE:=mo Tryz.func358 ⟨iA,trivial⟩
def bJQ (x0:Int):Prop:=True
def aCW (x0:Int):Bool:=cD x0 (-1000000000) 1000000000
def bBF:=dR bBE (λ⟨x0,_⟩=>bJQ x0) λ⟨x0,_⟩=>[⟨.bool,aCW x0⟩]
theorem aTV:c7 358 bBF:=dF bJP λ⟨x0,_⟩ h _ K q=>tv<|rt
noncomputable def bBG:dB:=⟨357,Tryz.f357,[.v (.int .i64)],[.bool],[],[(358,bBF)],false,[]⟩
theorem bJR:FO bBG:=mo Tryz.func357 ⟨aTV,trivial⟩
def bJS (x0:Int):Prop:=True
def Fq (x0:Int):Bool := !aCW x0
def aTW:=dR bBG (λ⟨x0,_⟩=>bJS x0) λ⟨x0,_⟩=>[⟨.bool,Fq x0⟩]
theorem aKn:c7 357 aTW:=dF bJR λ⟨x0,_⟩ h _ K q=>tv<|rt
noncomputable def KX:dB:=⟨273,Tryz.f273,[.v (.sl (.int .i64)),.fn 357 []],[.int .i64],[],[(357,aTW)],false,[]⟩
theorem aKo:FO KX:=mo EG ⟨aKn,trivial⟩
def aCX (v8:Int) (x0:List Int):eD×bG:=([eL 0 (.int .i64) x0,(1,nU 357 []),eI 7 (x0.length:Int),eI 8 v8],[])
mutual
def Qi:Nat->List Int->List aY->Prop
 | 0,_,_=>False
 | n+1,x0,ds=>(tI n (0) (x0) ds)
def tI:Nat->Int->List Int->List aY->Prop
 | 0,_,_,_=>False
 | n+1,v8,x0,ds=>(if (decide (v8<(x0.length:Int)))=true then ((0<=v8)/\(v8<(x0.length:Int))/\(if (Fq (aD x0 (aE v8) 0))=true then (ds=[aP (.int .i64) v8]) else ((cC .i64 (v8+1))/\(tI n (v8+1) (x0) ds)))) else (ds=[aP (.int .i64) (-1)]))
end
theorem aCY (ds:List aY) (K:jK) (q:Nat->Value):∀ n,(∀ {x0},Qi n x0 ds->St KX (x0,(),()) ds [] K q)/\(∀ {v8 x0},tI n v8 x0 ds->Cu KX 2 (aCX v8 x0) ds [] K q):=by
 intro n
 induction n with
 | zero=>exact ⟨λh=>h.elim,λh=>h.elim⟩
 | succ n ih =>
 obtain ⟨i,i2⟩:=ih;exact ⟨λh=>jp (i2 h),
  λh=>bR h (λh=>c2 h λh=>tv<|bR h (λh=>rh h) λh=>c1 h λh=>jp (i2 h)) λh=>rh h⟩
def wO (x0:List (Int)):Int:=X0 (x0.findIdx? Fq)
def aKp (x0:List (Int)):Prop:=True
theorem aCZ (x0:List (Int)) (hm:x0.length<=maxLen):Qi (x0.length+1+1) x0 [⟨.int .i64,wO x0⟩]:=by
 rw [Qi];have key:=kJ x0 (0:Int) Fq [(⟨.int .i64, -1⟩:aY)] (λk=>[⟨.int .i64,k⟩]) (λn i ds=>tI n i x0 ds) (λn => ?_) (λn i hi hok ds hr => ?_) (λn i hi hok => ?_)
 ·unfold wO;cases h:x0.findIdx? Fq <;> rw [h] at key <;> exact key
 ·rw [tI,if_neg (by simp)]
 ·rw [tI,if_pos (by simp;omega)];simp only [aF];refine ⟨by omega,by omega,?_⟩;rw [if_neg (by rw [hok];simp)];exact ⟨fC hm hi,hr⟩
 ·rw [tI,if_pos (by simp;omega)];simp only [aF];refine ⟨by omega,by omega,?_⟩;rw [if_pos hok] <;> trivial
def Z7:=dR KX (λ⟨x0,_⟩=>aKp x0) λ⟨x0,_⟩=>[⟨.int .i64,wO x0⟩]
theorem aDa:c7 273 Z7:=dF aKo (λ⟨x0,_⟩ h hwf K q =>
 (aCY _ K q _).1 (aCZ x0 hwf.1.1))
theorem aDb (x0:List (Int)):decide (wO x0>=0)=x0.any Fq:=by
 have:=qG Fq x0;unfold wO;cases h:x0.any Fq with
 | true=>rw [h] at this;simpa using this
 | false=>rw [h] at this;simpa using this
noncomputable def Z8:dB:=⟨192,Tryz.f192,[.v (.sl (.int .i64)),.fn 357 []],[.bool],[],[(273,Z7),(357,aTW)],false,[]⟩
theorem aKq:FO Z8:=mo EH ⟨aDa,aKn,trivial⟩
def aKr (x0:List Int):Prop:=True
def Ih (x0:List Int):Bool:=decide (wO x0>=0)
def Z9:=dR Z8 (λ⟨x0,_⟩=>aKr x0) λ⟨x0,_⟩=>[⟨.bool,Ih x0⟩]
theorem aDc:c7 192 Z9:=dF aKq λ⟨x0,_⟩ h _ K q=>tv<|rt
noncomputable def bBH:dB:=⟨300,Tryz.f300,[.v (.sl (.int .i64)),.v (.int .i64)],[.bool],[],[(192,Z9)],false,[]⟩
theorem bJT:FO bBH:=mo Tryz.func300 ⟨aDc,trivial⟩
def bJU (x0:List Int) (x1:Int):Prop:=True
def Ii (x0:List Int) (x1:Int):Bool:=(if (decide ((x0.length:Int)>=x1))=true then (if (decide ((x0.length:Int)<=32))=true then !Ih x0 else false) else false)
def bBI:=dR bBH (λ⟨x0,x1,_⟩=>bJU x0 x1) λ⟨x0,x1,_⟩=>[⟨.bool,Ii x0 x1⟩]
theorem aTX:c7 300 bBI:=dF bJT λ⟨x0,x1,_⟩ h _ K q=>e1 (e1 (tv<|rt) (rt)) (tF<|rt)
noncomputable def aKs:dB:=⟨301,Tryz.f301,[.v (.sl (.int .i64)),.v (.int .i64)],[.sl (.int .i64)],[],[(359,aTC)],false,[]⟩
theorem bJV:FO aKs:=mo Tryz.func301 ⟨aKg,trivial⟩
def aTY (v13:Int) (h0:List Int) (x0:List Int) (x1:Int):eD×bG:=([eL 0 (.int .i64) x0,eI 1 x1,eW 5 0,eL 11 (.int .i64) x0,eI 12 (x0.length:Int),eI 13 v13],[jB (.int .i64) h0])
def aTZ (v8:Int) (v19:Int) (x0:List Int) (x1:Int) (v13:Int) (h0:List Int):eD×bG:=([eL 0 (.int .i64) x0,eI 1 x1,eW 5 0,eI 7 (aD x0 (aE v13) 0),eI 8 v8,eL 11 (.int .i64) x0,eI 12 (x0.length:Int),eI 13 v13,eL 17 (.int .i64) x0,eI 18 (x0.length:Int),eI 19 v19],[jB (.int .i64) h0])
mutual
def aUa:Nat->List Int->Int->List aY->Prop
 | 0,_,_,_=>False
 | n+1,x0,x1,ds=>(Ij n (0) ([]) (x0) (x1) ds)
def Ij:Nat->Int->List Int->List Int->Int->List aY->Prop
 | 0,_,_,_,_,_=>False
 | n+1,v13,h0,x0,x1,ds=>(if (decide (v13<(x0.length:Int)))=true then ((0<=v13)/\(v13<(x0.length:Int))/\(Fs n (0) (0) (x0) (x1) (v13) (h0) ds)) else (ds=[aP (.sl (.int .i64)) h0]))
def Fs:Nat->Int->Int->List Int->Int->Int->List Int->List aY->Prop
 | 0,_,_,_,_,_,_,_=>False
 | n+1,v8,v19,x0,x1,v13,h0,ds=>(if (decide (v19<(x0.length:Int)))=true then ((0<=v19)/\(v19<(x0.length:Int))/\((cC .i64 (aD x0 (aE v13) 0 - aD x0 (aE v19) 0))/\((OJ (aD x0 (aE v13) 0 - aD x0 (aE v19) 0))/\(if (decide (nN (aD x0 (aE v13) 0 - aD x0 (aE v19) 0)<=x1))=true then ((cC .i64 (v8+1))/\((cC .i64 (v19+1))/\(Fs n (v8+1) (v19+1) (x0) (x1) (v13) (h0) ds))) else ((cC .i64 (v19+1))/\(Fs n (v8) (v19+1) (x0) (x1) (v13) (h0) ds)))))) else (((aN h0+1)*8<=140737488355328)/\((cC .i64 (v13+1))/\(Ij n (v13+1) (h0++[v8]) (x0) (x1) ds))))
end
theorem aUb (ds:List aY) (K:jK) (q:Nat->Value):∀ n,(∀ {x0 x1},aUa n x0 x1 ds->St aKs (x0,x1,()) ds [] K q)/\(∀ {v13 h0 x0 x1},Ij n v13 h0 x0 x1 ds->Cu aKs 3 (aTY v13 h0 x0 x1) ds [] K q)/\(∀ {v8 v19 x0 x1 v13 h0},Fs n v8 v19 x0 x1 v13 h0 ds->Cu aKs 7 (aTZ v8 v19 x0 x1 v13 h0) ds [] K q):=by
 intro n
 induction n with
 | zero=>exact ⟨λh=>h.elim,λh=>h.elim,λh=>h.elim⟩
 | succ n ih =>
 obtain ⟨i,i3,i7⟩:=ih;exact ⟨λh=>jn [(5,.int .i64)] (i3 h),
  λh=>bR h (λh=>c2 h λh=>jp (i7 h)) λh=>rh h,
  λh=>bR h (λh=>c2 h λh=>c1 h λh=>c1 h λh=>bR h (λh=>c1 h λh=>c1 h λh=>jp (i7 h)) λh=>c1 h λh=>jp (i7 h)) λh=>c1 h λh=>c1 h λh=>jn [(5,.int .i64)] (i3 h)⟩
def Ft (a x1:Int) (l:List Int):Nat:=(l.filter λb=>decide (nN (a - b)<=x1)).length
def jW (x0:List Int) (x1:Int):List Int:=x0.map λa=>(Ft a x1 x0:Int)
def aKt (x0:List Int) (x1:Int):Prop:=x0.length<=1000000/\∀ x∈x0, -1000000000<=x/\x<=1000000000
theorem aUc {x:Int} (h1 : -9000000000<=x) (h2:x<=9000000000):OJ x:=by
 unfold OJ;split
 ·exact ⟨by rw [aK];omega,trivial⟩
 ·trivial
theorem aKu (x0:List Int) (x1:Int) (h:aKt x0 x1) (v13:Nat) (hv:v13<x0.length) (h0:List Int) (ds:List aY) (n:Nat):∀ (k j:Nat) (c:Nat),j+k=x0.length->c<=j->(Ij n ((v13:Int)+1) (h0++[((c+Ft (x0.getD v13 0) x1 (x0.drop j):Nat):Int)]) x0 x1 ds)->h0.length<=1000000->Fs (n+k+1) (c:Int) (j:Int) x0 x1 (v13:Int) h0 ds:=by
 obtain ⟨hl,hb⟩:=h;have ha:=hb _ (dN x0 v13 0 hv);intro k
 induction k with
 | zero =>
  intro j c hj hc hr hh;rw [dS (by omega)] at hr;rw [lE,Fs,if_neg (by simp only [decide_eq_true_eq];omega)];exact ⟨by omega,by rw [aK];omega,hr⟩
 | succ k ih =>
  intro j c hj hc hr hh;have hlt:j<x0.length:=by omega
  have hx:=hb _ (dN x0 j 0 hlt);have e3:(j:Int)+1=((j+1:Nat):Int):=by omega
  have e4:(c:Int)+1=((c+1:Nat):Int):=by omega
  rw [eH x0 j 0 hlt] at hr;show Fs (n+k+1+1) _ _ _ _ _ _ _;rw [Fs,if_pos (by simp only [decide_eq_true_eq];omega),e3,e4,aF,aF];refine ⟨by omega,by omega,by rw [aK];omega,aUc (by omega) (by omega),?_⟩;unfold Ft at hr ih;rw [List.filter_cons] at hr;by_cases d:decide (nN (x0.getD v13 0 - x0.getD j 0)<=x1)=true
  ·rw [if_pos d,bA] at hr;exact (if_pos d).mpr ⟨by rw [aK];omega,by rw [aK];omega,ih (j+1) (c+1) (by omega) (by omega) (by rw [Nat.add_assoc,Nat.add_comm 1];exact hr) hh⟩
  ·rw [if_neg d] at hr;exact (if_neg d).mpr ⟨by rw [aK];omega,ih (j+1) c (by omega) (by omega) hr hh⟩
theorem aKv (x0:List Int) (x1:Int) (h:aKt x0 x1):∀ (k i:Nat) (h0:List Int),i+k=x0.length->h0.length=i->∃ n,Ij n (i:Int) h0 x0 x1 [⟨.sl (.int .i64),h0++(x0.drop i).map λa=>(Ft a x1 x0:Int)⟩]:=by
 intro k
 induction k with
 | zero =>
  intro i h0 hi hh;refine ⟨1,?_⟩;rw [Ij,if_neg (by simp only [decide_eq_true_eq];omega),dS (by omega),List.map_nil,c6]
 | succ k ih =>
  intro i h0 hi hh;have hlt:i<x0.length:=by omega
  have hl:=h.1;have e3:(i:Int)+1=((i+1:Nat):Int):=by omega
  obtain ⟨n,hn⟩:=ih (i+1) (h0++[((0+Ft (x0.getD i 0) x1 (x0.drop 0):Nat):Int)]) (by omega) (by rw [aO,cP];omega);refine ⟨n+x0.length+1+1,?_⟩;rw [Ij,if_pos (by simp only [decide_eq_true_eq];omega),eH x0 i 0 hlt];refine ⟨by omega,by omega,?_⟩;have:=aKu x0 x1 h i hlt h0 [⟨.sl (.int .i64),h0++(x0.getD i 0 :: x0.drop (i+1)).map λa=>(Ft a x1 x0:Int)⟩] n x0.length 0 0 (by omega) (aT _) (by
   rw [List.drop_zero,cV] at hn ⊢;rw [bS] at hn;rw [e3];exact hn) (by omega)
  exact this
def bBJ:=dR aKs (λ⟨x0,x1,_⟩=>aKt x0 x1) λ⟨x0,x1,_⟩=>[⟨.sl (.int .i64),jW x0 x1⟩]
theorem aUd (x0:List Int) (x1:Int) (h:aKt x0 x1):∃ n,aUa n x0 x1 [⟨.sl (.int .i64),jW x0 x1⟩]:=by
 obtain ⟨n,hn⟩:=aKv x0 x1 h x0.length 0 [] (by omega) rfl;exact ⟨n+1,by rw [aUa];exact hn⟩
theorem aUe:c7 301 bBJ:=dF bJV (λ⟨x0,x1,_⟩ h hwf K q =>
 let ⟨n,hn⟩:=aUd x0 x1 h
 (aUb _ K q n).1 hn)
noncomputable def aOb:dB:=⟨302,Tryz.f302,[.v (.sl (.int .i64))],[.int .i64],[],[],false,[]⟩
theorem bJW:FO aOb:=mo Tryz.func302 trivial
def aUf (v3:Int) (v4:Int) (x0:List Int):eD×bG:=([eL 0 (.int .i64) x0,eI 3 v3,eI 4 v4],[])
mutual
def aUg:Nat->List Int->List aY->Prop
 | 0,_,_=>False
 | n+1,x0,ds=>((decide ((x0.length:Int)<1)=false)/\((0<(x0.length:Int))/\(M6 n (aD x0 0 0) (1) (x0) ds)))
def M6:Nat->Int->Int->List Int->List aY->Prop
 | 0,_,_,_,_=>False
 | n+1,v3,v4,x0,ds=>(if (decide (v4<(x0.length:Int)))=true then ((0<=v4)/\(v4<(x0.length:Int))/\((cC .i64 (v4+1))/\(M6 n (if v3<aD x0 (aE v4) 0 then aD x0 (aE v4) 0 else v3) (v4+1) (x0) ds))) else (ds=[aP (.int .i64) v3]))
end
theorem aUh (ds:List aY) (K:jK) (q:Nat->Value):∀ n,(∀ {x0},aUg n x0 ds->St aOb (x0,()) ds [] K q)/\(∀ {v3 v4 x0},M6 n v3 v4 x0 ds->Cu aOb 5 (aUf v3 v4 x0) ds [] K q):=by
 intro n
 induction n with
 | zero=>exact ⟨λh=>h.elim,λh=>h.elim⟩
 | succ n ih =>
 obtain ⟨i,i5⟩:=ih;exact ⟨λ{x0} h=>cF h λh=>tP ((by decide):(0:Int)<=(0:Int))<|c1 h λh=>jp (i5 h),
  λh=>bR h (λh=>c2 h λh=>c1 h λh=>jp (i5 h)) λh=>rh h⟩
def UE (s y:Int):Int:=if s<y then y else s
def u3 (x0:List Int):Int:=(x0.drop 1).foldl UE (x0.getD 0 0)
def bBK (x0:List Int):Prop:=1<=x0.length
theorem aUi (x0:List Int) (hm:x0.length<=maxLen):∀ (k i:Nat) (s:Int),i+k=x0.length->M6 (k+1) s (i:Int) x0 [⟨.int .i64,(x0.drop i).foldl UE s⟩]:=by
 intro k
 induction k with
 | zero =>
  intro i s hi;rw [M6,if_neg (by simp only [decide_eq_true_eq];omega),dS (by omega)];rfl
 | succ k ih =>
  intro i s hi;have hlt:i<x0.length:=by omega
  have hu:=fC hm hlt;have e3:(i:Int)+1=((i+1:Nat):Int):=by omega
  rw [e3] at hu;rw [M6,if_pos (by simp only [decide_eq_true_eq];omega),eH x0 i 0 hlt,dY,e3,aF];exact ⟨by omega,by omega,hu,ih (i+1) _ (by omega)⟩
def bBL:=dR aOb (λ⟨x0,_⟩=>bBK x0) λ⟨x0,_⟩=>[⟨.int .i64,u3 x0⟩]
theorem aUj (x0:List Int) (hm:x0.length<=maxLen) (h:1<=x0.length):aUg (x0.length - 1+1+1) x0 [⟨.int .i64,u3 x0⟩]:=by
 rw [aUg];exact ⟨by simp only [decide_eq_false_iff_not];omega,by omega,aUi x0 hm (x0.length - 1) 1 (x0.getD 0 0) (by omega)⟩
theorem aUk:c7 302 bBL:=dF bJW (λ⟨x0,_⟩ h hwf K q =>
 (aUh _ K q _).1 (aUj x0 hwf.1.1 h))
noncomputable def aOc:dB:=⟨303,Tryz.f303,[.v (.sl (.int .i64)),.v (.int .i64)],[.int .i64],[],[],false,[]⟩
theorem bJX:FO aOc:=mo Tryz.func303 trivial
def aUl (v8:Int) (x0:List Int) (x1:Int):eD×bG:=([eL 0 (.int .i64) x0,eI 1 x1,eI 7 (x0.length:Int),eI 8 v8],[])
mutual
def aUm:Nat->List Int->Int->List aY->Prop
 | 0,_,_,_=>False
 | n+1,x0,x1,ds=>(Ik n (0) (x0) (x1) ds)
def Ik:Nat->Int->List Int->Int->List aY->Prop
 | 0,_,_,_,_=>False
 | n+1,v8,x0,x1,ds=>(if (decide (v8<(x0.length:Int)))=true then ((0<=v8)/\(v8<(x0.length:Int))/\(if (x1==aD x0 (aE v8) 0)=true then (ds=[aP (.int .i64) v8]) else ((cC .i64 (v8+1))/\(Ik n (v8+1) (x0) (x1) ds)))) else (ds=[aP (.int .i64) (-1)]))
end
theorem aUn (ds:List aY) (K:jK) (q:Nat->Value):∀ n,(∀ {x0 x1},aUm n x0 x1 ds->St aOc (x0,x1,()) ds [] K q)/\(∀ {v8 x0 x1},Ik n v8 x0 x1 ds->Cu aOc 2 (aUl v8 x0 x1) ds [] K q):=by
 intro n
 induction n with
 | zero=>exact ⟨λh=>h.elim,λh=>h.elim⟩
 | succ n ih =>
 obtain ⟨i,i2⟩:=ih;exact ⟨λh=>jp (i2 h),
  λh=>bR h (λh=>c2 h λh=>bR h (λh=>rh h) λh=>c1 h λh=>jp (i2 h)) λh=>rh h⟩
def N7 (x1:Int) (y:Int):Bool:=x1==y
def Fu (x0:List Int) (x1:Int):Int:=X0 (x0.findIdx? (N7 x1))
def bJY (x0:List Int) (x1:Int):Prop:=True
theorem aUo (x0:List Int) (x1:Int) (hm:x0.length<=maxLen):aUm (x0.length+1+1) x0 x1 [⟨.int .i64,Fu x0 x1⟩]:=by
 rw [aUm];have key:=kJ x0 0 (N7 x1) [(⟨.int .i64, -1⟩:aY)] (λk=>[⟨.int .i64,k⟩]) (λn i ds=>Ik n i x0 x1 ds) (λn => ?_) (λn i hi hok ds hr => ?_) (λn i hi hok => ?_)
 ·unfold Fu;cases h:x0.findIdx? (N7 x1) <;> rw [h] at key <;> exact key
 ·rw [Ik,if_neg (by simp)]
 ·rw [Ik,if_pos (by simp;omega)];simp only [aF];refine ⟨by omega,by omega,?_⟩;unfold N7 at hok;rw [if_neg (by rw [hok];simp)];exact ⟨fC hm hi,hr⟩
 ·rw [Ik,if_pos (by simp;omega)];simp only [aF];refine ⟨by omega,by omega,?_⟩;unfold N7 at hok;rw [if_pos hok] <;> trivial
def bBM:=dR aOc (λ⟨x0,x1,_⟩=>bJY x0 x1) λ⟨x0,x1,_⟩=>[⟨.int .i64,Fu x0 x1⟩]
theorem aUp:c7 303 bBM:=dF bJX (λ⟨x0,x1,_⟩ h hwf K q =>
 (aUn _ K q _).1 (aUo x0 x1 hwf.1.1))
noncomputable def bBN:dB:=⟨229,Tryz.f229,[.v (.sl (.int .i64)),.v (.int .i64)],[.int .i64,.int .i64],[],[(300,bBI),(108,p8),(301,bBJ),(302,bBL),(303,bBM)],false,[]⟩
theorem bJZ:FO bBN:=mo Tryz.func229 ⟨aTX,iA,aUe,aUk,aUp,trivial⟩
def aOd (x0:List Int) (x1:Int):Prop:=(if (!Ii x0 3)=true then True else (if (!cD x1 0 1000000)=true then True else ((aKt x0 x1)/\((bBK (jW x0 x1))/\((cC .i64 (2*u3 (jW x0 x1)))/\(if (decide (2*u3 (jW x0 x1)<=(x0.length:Int)))=true then True else ((0<=Fu (jW x0 x1) (u3 (jW x0 x1)))/\(Fu (jW x0 x1) (u3 (jW x0 x1))<(x0.length:Int))/\True)))))))
def Vx (x0:List Int) (x1:Int):Int:=(if (!Ii x0 3)=true then 0 else (if (!cD x1 0 1000000)=true then 0 else (if (decide (2*u3 (jW x0 x1)<=(x0.length:Int)))=true then 0 else aD x0 (aE (Fu (jW x0 x1) (u3 (jW x0 x1)))) 0)))
def aKw (x0:List Int) (x1:Int):Int:=(if (!Ii x0 3)=true then 2 else (if (!cD x1 0 1000000)=true then 2 else (if (decide (2*u3 (jW x0 x1)<=(x0.length:Int)))=true then 3 else 0)))
def bBO:=dR bBN (λ⟨x0,x1,_⟩=>aOd x0 x1) λ⟨x0,x1,_⟩=>[⟨.int .i64,Vx x0 x1⟩,⟨.int .i64,aKw x0 x1⟩]
theorem aUq:c7 229 bBO:=dF bJZ λ⟨x0,x1,_⟩ h _ K q=>tv<|o3 h (λh=>tT<|rt) λh=>tv<|o3 h (λh=>rt) λh=>c1 h λh=>c1 h λh=>c1 h λh=>o3 h (λh=>rt) λh=>tv<|c2 h λh=>rt
noncomputable def bBP:dB:=⟨361,Tryz.f361,[.v (.int .i64)],[.bool],[],[(108,p8)],false,[]⟩
theorem bKa:FO bBP:=mo Tryz.func361 ⟨iA,trivial⟩
def bKb (x0:Int):Prop:=True
def aDd (x0:Int):Bool:=cD x0 0 100000
def aUr:=dR bBP (λ⟨x0,_⟩=>bKb x0) λ⟨x0,_⟩=>[⟨.bool,aDd x0⟩]
theorem aKx:c7 361 aUr:=dF bKa λ⟨x0,_⟩ h _ K q=>tv<|rt
noncomputable def bBQ:dB:=⟨360,Tryz.f360,[.v (.int .i64)],[.bool],[],[(361,aUr)],false,[]⟩
theorem bKc:FO bBQ:=mo Tryz.func360 ⟨aKx,trivial⟩
def bKd (x0:Int):Prop:=True
def Ae (x0:Int):Bool := !aDd x0
def aUs:=dR bBQ (λ⟨x0,_⟩=>bKd x0) λ⟨x0,_⟩=>[⟨.bool,Ae x0⟩]
theorem aKy:c7 360 aUs:=dF bKc λ⟨x0,_⟩ h _ K q=>tv<|rt
noncomputable def KY:dB:=⟨273,Tryz.f273,[.v (.sl (.int .i64)),.fn 360 []],[.int .i64],[],[(360,aUs)],false,[]⟩
theorem aKz:FO KY:=mo EG ⟨aKy,trivial⟩
def aDe (v8:Int) (x0:List Int):eD×bG:=([eL 0 (.int .i64) x0,(1,nU 360 []),eI 7 (x0.length:Int),eI 8 v8],[])
mutual
def Qj:Nat->List Int->List aY->Prop
 | 0,_,_=>False
 | n+1,x0,ds=>(tJ n (0) (x0) ds)
def tJ:Nat->Int->List Int->List aY->Prop
 | 0,_,_,_=>False
 | n+1,v8,x0,ds=>(if (decide (v8<(x0.length:Int)))=true then ((0<=v8)/\(v8<(x0.length:Int))/\(if (Ae (aD x0 (aE v8) 0))=true then (ds=[aP (.int .i64) v8]) else ((cC .i64 (v8+1))/\(tJ n (v8+1) (x0) ds)))) else (ds=[aP (.int .i64) (-1)]))
end
theorem aDf (ds:List aY) (K:jK) (q:Nat->Value):∀ n,(∀ {x0},Qj n x0 ds->St KY (x0,(),()) ds [] K q)/\(∀ {v8 x0},tJ n v8 x0 ds->Cu KY 2 (aDe v8 x0) ds [] K q):=by
 intro n
 induction n with
 | zero=>exact ⟨λh=>h.elim,λh=>h.elim⟩
 | succ n ih =>
 obtain ⟨i,i2⟩:=ih;exact ⟨λh=>jp (i2 h),
  λh=>bR h (λh=>c2 h λh=>tv<|bR h (λh=>rh h) λh=>c1 h λh=>jp (i2 h)) λh=>rh h⟩
def wP (x0:List (Int)):Int:=X0 (x0.findIdx? Ae)
def aK0 (x0:List (Int)):Prop:=True
theorem aDg (x0:List (Int)) (hm:x0.length<=maxLen):Qj (x0.length+1+1) x0 [⟨.int .i64,wP x0⟩]:=by
 rw [Qj];have key:=kJ x0 (0:Int) Ae [(⟨.int .i64, -1⟩:aY)] (λk=>[⟨.int .i64,k⟩]) (λn i ds=>tJ n i x0 ds) (λn => ?_) (λn i hi hok ds hr => ?_) (λn i hi hok => ?_)
 ·unfold wP;cases h:x0.findIdx? Ae <;> rw [h] at key <;> exact key
 ·rw [tJ,if_neg (by simp)]
 ·rw [tJ,if_pos (by simp;omega)];simp only [aF];refine ⟨by omega,by omega,?_⟩;rw [if_neg (by rw [hok];simp)];exact ⟨fC hm hi,hr⟩
 ·rw [tJ,if_pos (by simp;omega)];simp only [aF];refine ⟨by omega,by omega,?_⟩;rw [if_pos hok] <;> trivial
def Za:=dR KY (λ⟨x0,_⟩=>aK0 x0) λ⟨x0,_⟩=>[⟨.int .i64,wP x0⟩]
theorem aDh:c7 273 Za:=dF aKz (λ⟨x0,_⟩ h hwf K q =>
 (aDf _ K q _).1 (aDg x0 hwf.1.1))
theorem aDi (x0:List (Int)):decide (wP x0>=0)=x0.any Ae:=by
 have:=qG Ae x0;unfold wP;cases h:x0.any Ae with
 | true=>rw [h] at this;simpa using this
 | false=>rw [h] at this;simpa using this
noncomputable def Zb:dB:=⟨192,Tryz.f192,[.v (.sl (.int .i64)),.fn 360 []],[.bool],[],[(273,Za),(360,aUs)],false,[]⟩
theorem aK1:FO Zb:=mo EH ⟨aDh,aKy,trivial⟩
def aK2 (x0:List Int):Prop:=True
def Il (x0:List Int):Bool:=decide (wP x0>=0)
def Zc:=dR Zb (λ⟨x0,_⟩=>aK2 x0) λ⟨x0,_⟩=>[⟨.bool,Il x0⟩]
theorem aDj:c7 192 Zc:=dF aK1 λ⟨x0,_⟩ h _ K q=>tv<|rt
noncomputable def bBR:dB:=⟨305,Tryz.f305,[.v (.int .i64),.v (.int .i64),.v (.sl (.int .i64))],[.bool],[],[(361,aUr),(108,p8),(192,Zc)],false,[]⟩
theorem bKe:FO bBR:=mo Tryz.func305 ⟨aKx,iA,aDj,trivial⟩
def bKf (x0:Int) (x1:Int) (x2:List Int):Prop:=True
def Im (x0:Int) (x1:Int) (x2:List Int):Bool:=(if (!Il x2)=true then (if (aDd x0)=true then cD x1 1 900 else false) else false)
def bBS:=dR bBR (λ⟨x0,x1,x2,_⟩=>bKf x0 x1 x2) λ⟨x0,x1,x2,_⟩=>[⟨.bool,Im x0 x1 x2⟩]
theorem aUt:c7 305 bBS:=dF bKe λ⟨x0,x1,x2,_⟩ h _ K q=>tv<|e1 (tv<|e1 (tv<|rt) (rt)) (tF<|rt)
noncomputable def bBT:dB:=⟨306,Tryz.f306,[.v (.int .i64)],[.bool],[],[(108,p8)],false,[]⟩
theorem bKg:FO bBT:=mo Tryz.func306 ⟨iA,trivial⟩
def bKh (x0:Int):Prop:=True
def Qk (x0:Int):Bool:=cD x0 0 1000000
def bBU:=dR bBT (λ⟨x0,_⟩=>bKh x0) λ⟨x0,_⟩=>[⟨.bool,Qk x0⟩]
theorem aUu:c7 306 bBU:=dF bKg λ⟨x0,_⟩ h _ K q=>tv<|rt
noncomputable def bBV:dB:=⟨304,Tryz.f304,[.v X1,.v (.bool)],[.int .i64],[],[(64,S64)],false,[]⟩
theorem bKi:FO bBV:=mo Tryz.func304 ⟨aJc,trivial⟩
def bKj (x0:Int×Int×Int×Int×Unit) (x1:Bool):Prop:=True
def yL (x0:Int×Int×Int×Int×Unit) (x1:Bool):Int:=(if (!uG x0)=true then 1 else (if (!x1)=true then 2 else 0))
def bBW:=dR bBV (λ⟨x0,x1,_⟩=>bKj x0 x1) λ⟨x0,x1,_⟩=>[⟨.int .i64,yL x0 x1⟩]
theorem aUv:c7 304 bBW:=dF bKi λ⟨x0,x1,_⟩ h _ K q=>tv<|e1 (rt) (e1 (rt) (rt))
noncomputable def bBX:dB:=⟨363,Tryz.f363,[.v (.int .i64),.v (.int .i64),.v (.int .i64),.v (.int .i64)],[.int .i64],[],[(370,aTD)],false,[]⟩
theorem bKk:FO bBX:=mo Tryz.func363 ⟨aCM,trivial⟩
def bBY (x0:Int) (x1:Int) (x2:Int) (x3:Int):Prop:=((cC .i64 (x0 - x1))/\((cC .i64 (x0 - x1 - x2))/\((cC .i64 ((x0 - x1 - x2)*x3))/\((cC .i64 ((x0 - x1 - x2)*x3*981))/\((M2 ((x0 - x1 - x2)*x3*981) 100000)/\True)))))
def aK3 (x0:Int) (x1:Int) (x2:Int) (x3:Int):Int:=pT ((x0 - x1 - x2)*x3*981) 100000
def bBZ:=dR bBX (λ⟨x0,x1,x2,x3,_⟩=>bBY x0 x1 x2 x3) λ⟨x0,x1,x2,x3,_⟩=>[⟨.int .i64,aK3 x0 x1 x2 x3⟩]
theorem aUw:c7 363 bBZ:=dF bKk λ⟨x0,x1,x2,x3,_⟩ h _ K q=>c1 h λh=>c1 h λh=>c1 h λh=>c1 h λh=>c1 h λh=>rt
noncomputable def bCa:dB:=⟨362,Tryz.f362,[.v (.int .i64),.p (.int .i64),.p (.int .i64),.p (.int .i64),.p (.int .i64),.p (.int .i64)],[.bool],[],[(363,bBZ)],false,[]⟩
theorem bKl:FO bCa:=mo Tryz.func362 ⟨aUw,trivial⟩
def aOe (x0:Int) (x1:Int) (x2:Int) (x3:Int) (x4:Int) (x5:Int):Prop:=((cC .i64 (x1+x0))/\((bBY (x1+x0) x2 x3 x4)/\True))
def M7 (x0:Int) (x1:Int) (x2:Int) (x3:Int) (x4:Int) (x5:Int):Bool:=decide (aK3 (x1+x0) x2 x3 x4>=x5)
def bCb:=dR bCa (λ⟨x0,x1,x2,x3,x4,x5,_⟩=>aOe x0 x1 x2 x3 x4 x5) λ⟨x0,x1,x2,x3,x4,x5,_⟩=>[⟨.bool,M7 x0 x1 x2 x3 x4 x5⟩]
theorem aUx:c7 362 bCb:=dF bKl λ⟨x0,x1,x2,x3,x4,x5,_⟩ h _ K q=>c1 h λh=>c1 h λh=>rt
noncomputable def KZ:dB:=⟨353,Tryz.f353,[.v (.int .i64),.v (.int .i64),.fn 362 [(true,(.int .i64)),(true,(.int .i64)),(true,(.int .i64)),(true,(.int .i64)),(true,(.int .i64))]],[.int .i64],[],[(362,bCb)],false,[]⟩
theorem aK4:FO KZ:=mo XR ⟨aUx,trivial⟩
def aDk (v7:Int) (x0:Int) (x2:Int) (x2c:Int) (x2cc:Int) (x2ccc:Int) (x2cccc:Int):eD×bG:=([eI 0 x0,(2,nU 362 [pM (.int .i64) x2,pM (.int .i64) x2c,pM (.int .i64) x2cc,pM (.int .i64) x2ccc,pM (.int .i64) x2cccc]),eI 7 v7],[])
mutual
def Ql:Nat->Int->Int->Int->Int->Int->Int->Int->List aY->Prop
 | 0,_,_,_,_,_,_,_,_=>False
 | n+1,x0,x1,x2,x2c,x2cc,x2ccc,x2cccc,ds=>((cC .i64 (x1+1))/\(qT n (x1+1) (x0) (x2) (x2c) (x2cc) (x2ccc) (x2cccc) ds))
def qT:Nat->Int->Int->Int->Int->Int->Int->Int->List aY->Prop
 | 0,_,_,_,_,_,_,_,_=>False
 | n+1,v7,x0,x2,x2c,x2cc,x2ccc,x2cccc,ds=>(if (decide (x0<v7))=true then ((cC .i64 (x0+v7))/\((cC .i64 (bM (x0+v7) 2))/\((aOe (bM (x0+v7) 2) x2 x2c x2cc x2ccc x2cccc)/\(if (M7 (bM (x0+v7) 2) x2 x2c x2cc x2ccc x2cccc)=true then (qT n (bM (x0+v7) 2) (x0) (x2) (x2c) (x2cc) (x2ccc) (x2cccc) ds) else ((cC .i64 (bM (x0+v7) 2+1))/\(qT n (v7) (bM (x0+v7) 2+1) (x2) (x2c) (x2cc) (x2ccc) (x2cccc) ds)))))) else (ds=[aP (.int .i64) x0]))
end
theorem aDl (ds:List aY) (K:jK) (q:Nat->Value):∀ n,(∀ {x0 x1 x2 x2c x2cc x2ccc x2cccc},Ql n x0 x1 x2 x2c x2cc x2ccc x2cccc ds->St KZ (x0,x1,(x2,x2c,x2cc,x2ccc,x2cccc,()),()) ds [] K q)/\(∀ {v7 x0 x2 x2c x2cc x2ccc x2cccc},qT n v7 x0 x2 x2c x2cc x2ccc x2cccc ds->Cu KZ 2 (aDk v7 x0 x2 x2c x2cc x2ccc x2cccc) ds [] K q):=by
 intro n
 induction n with
 | zero=>exact ⟨λh=>h.elim,λh=>h.elim⟩
 | succ n ih =>
 obtain ⟨i,i2⟩:=ih;exact ⟨λh=>c1 h λh=>jp (i2 h),
  λ{v7} {x0} {x2} {x2c} {x2cc} {x2ccc} {x2cccc} h=>bR h (λh=>c1 h λh=>tP ((by decide):(2:Int)≠(0:Int))<|c1 h λh=>c1 h λh=>bR h (λh=>jp (i2 h)) λh=>c1 h λh=>jp (i2 h)) λh=>rh h⟩
def D7 (x0 x1:Int) (y0:Int) (y1:Int) (y2:Int) (y3:Int) (y4:Int):Int:=bsI (λx=>M7 x y0 y1 y2 y3 y4) (x1+1 - x0).toNat x0 (x1+1)
def Qm (x0 x1:Int) (y0:Int) (y1:Int) (y2:Int) (y3:Int) (y4:Int):Prop:=(0<=x0/\x0<=x1+1/\x1<=1000000000)/\∀ v,0<=v->v<=x1->aOe v y0 y1 y2 y3 y4
theorem aDm (y0:Int) (y1:Int) (y2:Int) (y3:Int) (y4:Int) (e9:Int) (he:e9<=1000000000) (hp:∀ v,0<=v->v<=e9->aOe v y0 y1 y2 y3 y4):∀ (k:Nat) (lo e:Int),0<=lo->lo<=e->e<=e9+1->e - lo<=(k:Int)->qT (k+1) e lo y0 y1 y2 y3 y4 [⟨.int .i64,bsI (λx=>M7 x y0 y1 y2 y3 y4) k lo e⟩]:=by
 intro k
 induction k with
 | zero =>
  intro lo e h0 h1 h2 h3;rw [qT,if_neg (by simp only [decide_eq_true_eq];omega)];rfl
 | succ k ih =>
  intro lo e h0 h1 h2 h3;unfold bsI;by_cases hlt:lo<e
  ·obtain ⟨m1,m2⟩:=Vs h0 hlt;rw [qT,if_pos (by simpa using hlt),if_pos hlt];refine ⟨by rw [aK];omega,by rw [aK];omega,hp _ (by omega) (by omega),?_⟩;split
   ·exact ih lo _ h0 m1 (by omega) (by omega)
   ·exact ⟨by rw [aK];omega,ih _ e (by omega) (by omega) h2 (by omega)⟩
  ·rw [qT,if_neg (by simpa using hlt),if_neg hlt]
theorem aDn (x0 x1:Int) (y0:Int) (y1:Int) (y2:Int) (y3:Int) (y4:Int) (h:Qm x0 x1 y0 y1 y2 y3 y4):Ql ((x1+1 - x0).toNat+1+1) x0 x1 y0 y1 y2 y3 y4 [⟨.int .i64,D7 x0 x1 y0 y1 y2 y3 y4⟩]:=by
 obtain ⟨⟨h1,h2,h3⟩,hp⟩:=h;rw [Ql];exact ⟨by rw [aK];omega,aDm y0 y1 y2 y3 y4 x1 h3 hp _ _ _ h1 h2 (by omega) (by omega)⟩
def Zd:=dR KZ (λ⟨x0,x1,⟨y0,y1,y2,y3,y4,_⟩,_⟩=>Qm x0 x1 y0 y1 y2 y3 y4) λ⟨x0,x1,⟨y0,y1,y2,y3,y4,_⟩,_⟩=>[⟨.int .i64,D7 x0 x1 y0 y1 y2 y3 y4⟩]
theorem aDo:c7 353 Zd:=dF aK4 (λ⟨x0,x1,⟨y0,y1,y2,y3,y4,_⟩,_⟩ h hwf K q =>
 (aDl _ K q _).1 (aDn x0 x1 y0 y1 y2 y3 y4 h))
noncomputable def bCc:dB:=⟨307,Tryz.f307,[.v X1,.v (.int .i64),.v (.int .i64),.v (.int .i64),.v (.int .i64),.v (.int .i64)],[.int .i64,.bool],[],[(353,Zd)],false,[]⟩
theorem bKm:FO bCc:=mo Tryz.func307 ⟨aDo,trivial⟩
def aOf (x0:Int×Int×Int×Int×Unit) (x1:Int) (x2:Int) (x3:Int) (x4:Int) (x5:Int):Prop:=((Qm 0 x0.1 x1 x2 x3 x4 x5)/\True)
def Qn (x0:Int×Int×Int×Int×Unit) (x1:Int) (x2:Int) (x3:Int) (x4:Int) (x5:Int):Int:=D7 0 x0.1 x1 x2 x3 x4 x5
def Qo (x0:Int×Int×Int×Int×Unit) (x1:Int) (x2:Int) (x3:Int) (x4:Int) (x5:Int):Bool:=decide (D7 0 x0.1 x1 x2 x3 x4 x5<=x0.1)
def bCd:=dR bCc (λ⟨x0,x1,x2,x3,x4,x5,_⟩=>aOf x0 x1 x2 x3 x4 x5) λ⟨x0,x1,x2,x3,x4,x5,_⟩=>[⟨.int .i64,Qn x0 x1 x2 x3 x4 x5⟩,⟨.bool,Qo x0 x1 x2 x3 x4 x5⟩]
theorem aUy:c7 307 bCd:=dF bKm λ⟨x0,x1,x2,x3,x4,x5,_⟩ h _ K q=>c1 h λh=>rt
noncomputable def bCe:dB:=⟨230,Tryz.f230,[.v X1,.v (.int .i64),.v (.int .i64),.v (.int .i64),.v (.int .i64),.v (.int .i64)],[.int .i64,.int .i64],[],[(305,bBS),(306,bBU),(304,bBW),(307,bCd)],false,[]⟩
theorem bKn:FO bCe:=mo Tryz.func230 ⟨aUt,aUu,aUv,aUy,trivial⟩
def aOg (x0:Int×Int×Int×Int×Unit) (x1:Int) (x2:Int) (x3:Int) (x4:Int) (x5:Int):Prop:=(if (Im x3 x4 [x1,x2])=true then (if (yL x0 (Qk x5) != 0)=true then True else ((aOf x0 x1 x2 x3 x4 x5)/\True)) else (if (yL x0 false != 0)=true then True else ((aOf x0 x1 x2 x3 x4 x5)/\True)))
def Vy (x0:Int×Int×Int×Int×Unit) (x1:Int) (x2:Int) (x3:Int) (x4:Int) (x5:Int):Int:=(if (Im x3 x4 [x1,x2])=true then (if (yL x0 (Qk x5) != 0)=true then 0 else (if (!Qo x0 x1 x2 x3 x4 x5)=true then 0 else Qn x0 x1 x2 x3 x4 x5)) else (if (yL x0 false != 0)=true then 0 else (if (!Qo x0 x1 x2 x3 x4 x5)=true then 0 else Qn x0 x1 x2 x3 x4 x5)))
def aK5 (x0:Int×Int×Int×Int×Unit) (x1:Int) (x2:Int) (x3:Int) (x4:Int) (x5:Int):Int:=(if (Im x3 x4 [x1,x2])=true then (if (yL x0 (Qk x5) != 0)=true then yL x0 (Qk x5) else (if (!Qo x0 x1 x2 x3 x4 x5)=true then 3 else 0)) else (if (yL x0 false != 0)=true then yL x0 false else (if (!Qo x0 x1 x2 x3 x4 x5)=true then 3 else 0)))
def bCf:=dR bCe (λ⟨x0,x1,x2,x3,x4,x5,_⟩=>aOg x0 x1 x2 x3 x4 x5) λ⟨x0,x1,x2,x3,x4,x5,_⟩=>[⟨.int .i64,Vy x0 x1 x2 x3 x4 x5⟩,⟨.int .i64,aK5 x0 x1 x2 x3 x4 x5⟩]
theorem aUz:c7 230 bCf:=dF bKn λ⟨x0,x1,x2,x3,x4,x5,_⟩ h _ K q=>tv<|o3 h (λh=>tv<|tv<|o3 h (λh=>rt) λh=>c1 h λh=>e2 (rt) (rt)) λh=>tv<|o3 h (λh=>rt) λh=>c1 h λh=>e2 (rt) (rt)
noncomputable def bCg:dB:=⟨155,Tryz.f155,[.p vP,.v Gl],[.int .i64,.int .i64],[],[(226,bBv),(227,bB1),(228,bBD),(229,bBO),(230,bCf)],false,[]⟩
theorem bKo:FO bCg:=mo Tryz.func155 ⟨aTL,aTO,aTU,aUq,aUz,trivial⟩
def Ze (x0:fV) (x1:ByteArray×ByteArray×List Int×List Int×Unit):Prop:=(if (aB x1.1==aB (aA #[115,108,111,119,101,115,116]))=true then ((0<(x1.2.2.1.length:Int))/\((aKj x0.1 (aD x1.2.2.1 0 0))/\True)) else (if (aB x1.1==aB (aA #[114,101,115,101,114,118,101]))=true then ((0<(x1.2.2.1.length:Int))/\((aNY x0.2.1 (aD x1.2.2.1 0 0))/\True)) else (if (aB x1.1==aB (aA #[112,111,119,101,114]))=true then ((0<(x1.2.2.1.length:Int))/\((1<(x1.2.2.1.length:Int))/\((aOa x0.2.2.2.2.1 (aD x1.2.2.1 0 0) (aD x1.2.2.1 1 0))/\True))) else (if (aB x1.1==aB (aA #[118,111,116,101]))=true then ((0<(x1.2.2.1.length:Int))/\((aOd x1.2.2.2.1 (aD x1.2.2.1 0 0))/\True)) else ((0<(x1.2.2.1.length:Int))/\((1<(x1.2.2.1.length:Int))/\((2<(x1.2.2.1.length:Int))/\((3<(x1.2.2.1.length:Int))/\((4<(x1.2.2.1.length:Int))/\((aOg x0.2.2.2.2.2.2.2.1 (aD x1.2.2.1 0 0) (aD x1.2.2.1 1 0) (aD x1.2.2.1 2 0) (aD x1.2.2.1 3 0) (aD x1.2.2.1 4 0))/\True))))))))))
def wQ (x0:fV) (x1:ByteArray×ByteArray×List Int×List Int×Unit):Int:=(if (aB x1.1==aB (aA #[115,108,111,119,101,115,116]))=true then M3 x0.1 (aD x1.2.2.1 0 0) else (if (aB x1.1==aB (aA #[114,101,115,101,114,118,101]))=true then Vu x0.2.1 (aD x1.2.2.1 0 0) else (if (aB x1.1==aB (aA #[112,111,119,101,114]))=true then Vw x0.2.2.2.2.1 (aD x1.2.2.1 0 0) (aD x1.2.2.1 1 0) else (if (aB x1.1==aB (aA #[118,111,116,101]))=true then Vx x1.2.2.2.1 (aD x1.2.2.1 0 0) else Vy x0.2.2.2.2.2.2.2.1 (aD x1.2.2.1 0 0) (aD x1.2.2.1 1 0) (aD x1.2.2.1 2 0) (aD x1.2.2.1 3 0) (aD x1.2.2.1 4 0)))))
def M8 (x0:fV) (x1:ByteArray×ByteArray×List Int×List Int×Unit):Int:=(if (aB x1.1==aB (aA #[115,108,111,119,101,115,116]))=true then Vt x0.1 (aD x1.2.2.1 0 0) else (if (aB x1.1==aB (aA #[114,101,115,101,114,118,101]))=true then aKk x0.2.1 (aD x1.2.2.1 0 0) else (if (aB x1.1==aB (aA #[112,111,119,101,114]))=true then aKm x0.2.2.2.2.1 (aD x1.2.2.1 0 0) (aD x1.2.2.1 1 0) else (if (aB x1.1==aB (aA #[118,111,116,101]))=true then aKw x1.2.2.2.1 (aD x1.2.2.1 0 0) else aK5 x0.2.2.2.2.2.2.2.1 (aD x1.2.2.1 0 0) (aD x1.2.2.1 1 0) (aD x1.2.2.1 2 0) (aD x1.2.2.1 3 0) (aD x1.2.2.1 4 0)))))
def bCh:=dR bCg (λ⟨x0,x1,_⟩=>Ze x0 x1) λ⟨x0,x1,_⟩=>[⟨.int .i64,wQ x0 x1⟩,⟨.int .i64,M8 x0 x1⟩]
theorem aU0:c7 155 bCh:=dF bKo λ⟨x0,x1,_⟩ h _ K q=>o3 h (λh=>tP ((by decide):(0:Int)<=(0:Int))<|c1 h λh=>c1 h λh=>rt) λh=>o3 h (λh=>tP ((by decide):(0:Int)<=(0:Int))<|c1 h λh=>c1 h λh=>rt) λh=>o3 h (λh=>tP ((by decide):(0:Int)<=(0:Int))<|c1 h λh=>tP ((by decide):(0:Int)<=(1:Int))<|c1 h λh=>c1 h λh=>rt) λh=>o3 h (λh=>tP ((by decide):(0:Int)<=(0:Int))<|c1 h λh=>c1 h λh=>rt) λh=>tP ((by decide):(0:Int)<=(0:Int))<|c1 h λh=>tP ((by decide):(0:Int)<=(1:Int))<|c1 h λh=>tP ((by decide):(0:Int)<=(2:Int))<|c1 h λh=>tP ((by decide):(0:Int)<=(3:Int))<|c1 h λh=>tP ((by decide):(0:Int)<=(4:Int))<|c1 h λh=>c1 h λh=>rt
noncomputable def bCi:dB:=⟨396,Tryz.f396,[.v fL,.v (.int .i64)],[.bool],[],[],false,[]⟩
theorem bKp:FO bCi:=mo Tryz.func396 trivial
def bKq (x0:Int×Int×Int×Unit) (x1:Int):Prop:=True
def Vz (x0:Int×Int×Int×Unit) (x1:Int):Bool:=(if (x1==1)=true then (if (decide (x0.1>0))=true then decide (x0.2.1>10) else false) else (if (x1==2)=true then (if (decide (x0.1>0))=true then decide (x0.2.1<=10) else false) else (if (x1==3)=true then decide (x0.2.2.1>150) else decide (x0.2.1 < -100))))
def bCj:=dR bCi (λ⟨x0,x1,_⟩=>bKq x0 x1) λ⟨x0,x1,_⟩=>[⟨.bool,Vz x0 x1⟩]
theorem aU1:c7 396 bCj:=dF bKp λ⟨x0,x1,_⟩ h _ K q=>e1 (e1 (rt) (rt)) (e1 (e1 (rt) (rt)) (e1 (rt) (rt)))
noncomputable def bCk:dB:=⟨364,Tryz.f364,[.v fL,.v fL],[.bool],[],[(396,bCj)],false,[]⟩
theorem bKr:FO bCk:=mo Tryz.func364 ⟨aU1,trivial⟩
def aK6 (x0:Int×Int×Int×Unit) (x1:Int×Int×Int×Unit):Prop:=(if (x0.1==3)=true then True else (if (x0.1==4)=true then ((cC .i64 (0 - x1.2.1))/\True) else True))
def WA (x0:Int×Int×Int×Unit) (x1:Int×Int×Int×Unit):Bool:=(if (x0.1==3)=true then (if (Vz x1 x0.1)=true then decide (x1.2.2.1>x0.2.1) else false) else (if (x0.1==4)=true then (if (Vz x1 x0.1)=true then decide (0 - x1.2.1>x0.2.1) else false) else (if (Vz x1 x0.1)=true then decide (x1.1>x0.2.1) else false)))
def bCl:=dR bCk (λ⟨x0,x1,_⟩=>aK6 x0 x1) λ⟨x0,x1,_⟩=>[⟨.bool,WA x0 x1⟩]
theorem aU2:c7 364 bCl:=dF bKr λ⟨x0,x1,_⟩ h _ K q=>N1 h (λh=>tv<|e1 (rt) (rt)) λh=>N1 h (λh=>c1 h λh=>tv<|e1 (rt) (rt)) λh=>tv<|e1 (rt) (rt)
noncomputable def aOh:dB:=⟨308,Tryz.f308,[.v (.sl fL),.v fL,.v (.int .i64)],[.int .i64],[],[(364,bCl)],false,[]⟩
theorem bKs:FO aOh:=mo Tryz.func308 ⟨aU2,trivial⟩
def aU3 (v11:Int) (x2:Int) (x0:List cU) (x1:Int×Int×Int×Unit):eD×bG:=([eI 2 x2,eO 4 0 0 [],eL 9 fL x0,eI 10 (x0.length:Int),eI 11 v11],[some (fY fL [x1] true none (some false))])
mutual
def bCm:Nat->List cU->Int×Int×Int×Unit->Int->List aY->Prop
 | 0,_,_,_,_=>False
 | n+1,x0,x1,x2,ds=>(Ip n (0) (x2) (x0) (x1) ds)
def Ip:Nat->Int->Int->List cU->Int×Int×Int×Unit->List aY->Prop
 | 0,_,_,_,_,_=>False
 | n+1,v11,x2,x0,x1,ds=>(if (decide (v11<(x0.length:Int)))=true then ((0<=v11)/\(v11<(x0.length:Int))/\((aK6 (aD x0 (aE v11) (0,0,0,())) x1)/\(if (WA (aD x0 (aE v11) (0,0,0,())) x1)=true then ((cC .i64 (v11+1))/\(Ip n (v11+1) (if (aD x0 (aE v11) (0,0,0,())).2.2.1<x2 then (aD x0 (aE v11) (0,0,0,())).2.2.1 else x2) (x0) (x1) ds)) else ((cC .i64 (v11+1))/\(Ip n (v11+1) (x2) (x0) (x1) ds))))) else (ds=[aP (.int .i64) x2]))
end
theorem aU4 (ds:List aY) (K:jK) (q:Nat->Value):∀ n,(∀ {x0 x1 x2},bCm n x0 x1 x2 ds->St aOh (x0,x1,x2,()) ds [] K q)/\(∀ {v11 x2 x0 x1},Ip n v11 x2 x0 x1 ds->Cu aOh 2 (aU3 v11 x2 x0 x1) ds [] K q):=by
 intro n
 induction n with
 | zero=>exact ⟨λh=>h.elim,λh=>h.elim⟩
 | succ n ih =>
 obtain ⟨i,i2⟩:=ih;exact ⟨λh=>jp (i2 h),
  λh=>bR h (λh=>c2 h λh=>c1 h λh=>bR h (λh=>c1 h λh=>jp (i2 h)) λh=>c1 h λh=>jp (i2 h)) λh=>rh h⟩
abbrev N8:=Int×Int×Int×Unit
def aK7 (x1:N8) (s:Int) (l:N8):Int:=if WA l x1=true then (if l.2.2.1<s then l.2.2.1 else s) else s
def WB (x0:List N8) (x1:N8) (x2:Int):Int:=x0.foldl (aK7 x1) x2
def aOi (x0:List N8) (x1:N8) (x2:Int):Prop:=∀ l∈x0,aK6 l x1
theorem aU5 (x0:List N8) (x1:N8) (hm:x0.length<=maxLen) (hp:∀ l∈x0,aK6 l x1):∀ (k i:Nat) (s:Int),i+k=x0.length->Ip (k+1) (i:Int) s x0 x1 [⟨.int .i64,(x0.drop i).foldl (aK7 x1) s⟩]:=by
 intro k
 induction k with
 | zero =>
  intro i s hi;rw [Ip,if_neg (by simp only [decide_eq_true_eq];omega),dS (by omega)];rfl
 | succ k ih =>
  intro i s hi;have hlt:i<x0.length:=by omega
  have hu:=fC hm hlt;have e3:(i:Int)+1=((i+1:Nat):Int):=by omega
  have hx:=hp _ (dN x0 i (0,0,0,()) hlt);rw [e3] at hu;rw [Ip,if_pos (by simp only [decide_eq_true_eq];omega),eH x0 i (0,0,0,()) hlt,dY,e3,aF];generalize x0.getD i (0,0,0,())=l at *;refine ⟨by omega,by omega,hx,?_⟩;unfold aK7;by_cases c:WA l x1=true
  ·refine (if_pos c).mpr ⟨hu,?_⟩;rw [if_pos c];exact ih (i+1) _ (by omega)
  ·refine (if_neg c).mpr ⟨hu,?_⟩;rw [if_neg c];exact ih (i+1) _ (by omega)
def bCn:=dR aOh (λ⟨x0,x1,x2,_⟩=>aOi x0 x1 x2) λ⟨x0,x1,x2,_⟩=>[⟨.int .i64,WB x0 x1 x2⟩]
theorem aU6:c7 308 bCn:=dF bKs (λ⟨x0,x1,x2,_⟩ h hwf K q =>
 (aU4 _ K q ((x0.length+2))).1 (by rw [bCm];exact aU5 x0 x1 hwf.1.1 h x0.length 0 x2 (by omega)))
noncomputable def aOj:dB:=⟨231,Tryz.f231,[.v (.sl fL),.v (.sl fL)],[.sl (.int .i64),.int .i64],[],[(60,S60),(59,S59),(308,bCn)],false,[]⟩
theorem bKt:FO aOj:=mo Tryz.func231 ⟨aPO,aPN,aU6,trivial⟩
def aU7 (v19:Int) (h0:List Int) (x0:List cU) (x1:List cU):eD×bG:=([eL 0 fL x0,eW 6 0,eL 17 fL x1,eI 18 (x1.length:Int),eI 19 v19],[jB (.int .i64) h0])
mutual
def aK8:Nat->List cU->List cU->List aY->Prop
 | 0,_,_,_=>False
 | n+1,x0,x1,ds=>(if (!yT x0)=true then (ds=[aP (.sl (.int .i64)) [],aP (.int .i64) 1]) else (if (!AN x1)=true then (ds=[aP (.sl (.int .i64)) [],aP (.int .i64) 1]) else (Iq n (0) ([]) (x0) (x1) ds)))
def Iq:Nat->Int->List Int->List cU->List cU->List aY->Prop
 | 0,_,_,_,_,_=>False
 | n+1,v19,h0,x0,x1,ds=>(if (decide (v19<(x1.length:Int)))=true then ((0<=v19)/\(v19<(x1.length:Int))/\((aOi x0 (aD x1 (aE v19) (0,0,0,())) 1)/\(if (decide (WB x0 (aD x1 (aE v19) (0,0,0,())) 1>0))=true then (((aN h0+1)*8<=140737488355328)/\((cC .i64 (v19+1))/\(Iq n (v19+1) (h0++[v19]) (x0) (x1) ds))) else ((cC .i64 (v19+1))/\(Iq n (v19+1) (h0) (x0) (x1) ds))))) else (ds=[aP (.sl (.int .i64)) h0,aP (.int .i64) 0]))
end
theorem aU8 (ds:List aY) (K:jK) (q:Nat->Value):∀ n,(∀ {x0 x1},aK8 n x0 x1 ds->St aOj (x0,x1,()) ds [] K q)/\(∀ {v19 h0 x0 x1},Iq n v19 h0 x0 x1 ds->Cu aOj 5 (aU7 v19 h0 x0 x1) ds [] K q):=by
 intro n
 induction n with
 | zero=>exact ⟨λh=>h.elim,λh=>h.elim⟩
 | succ n ih =>
 obtain ⟨i,i5⟩:=ih;exact ⟨λh=>tv<|bR h (λh=>tT<|rh h) λh=>tv<|bR h (λh=>rh h) λh=>jn [(6,.int .i64)] (i5 h),
  λh=>bR h (λh=>c2 h λh=>c1 h λh=>bR h (λh=>c1 h λh=>c1 h λh=>jn [(6,.int .i64)] (i5 h)) λh=>c1 h λh=>jn [(6,.int .i64)] (i5 h)) λh=>rh h⟩
abbrev N9:=Int×Int×Int×Unit
def Gp (x0:List N9):List N9->Nat->List Int
 | [],_=>[]
 | h :: r,i=>if decide (WB x0 h 1>0)=true then (i:Int) :: Gp x0 r (i+1) else Gp x0 r (i+1)
def Hk (x0 x1:List N9):Bool:=yT x0&&AN x1
def WC (x0 x1:List N9):List Int:=if Hk x0 x1=true then Gp x0 x1 0 else []
def WD (x0 x1:List N9):Int:=if Hk x0 x1=true then 0 else 1
def aOk (x0 x1:List N9):Prop:=Hk x0 x1=true->x1.length<=1000000/\∀ h∈x1,aOi x0 h 1
theorem aU9 (x0 x1:List N9) (hl:x1.length<=1000000) (hp:∀ h∈x1,aOi x0 h 1):∀ (k i:Nat) (h0:List Int),i+k=x1.length->h0.length<=i->Iq (k+1) (i:Int) h0 x0 x1 [⟨.sl (.int .i64),h0++Gp x0 (x1.drop i) i⟩,⟨.int .i64,0⟩]:=by
 intro k
 induction k with
 | zero =>
  intro i h0 hi hh;rw [Iq,if_neg (by simp only [decide_eq_true_eq];omega),dS (by omega),Gp,c6]
 | succ k ih =>
  intro i h0 hi hh;have hlt:i<x1.length:=by omega
  have e3:(i:Int)+1=((i+1:Nat):Int):=by omega
  have hx:=hp _ (dN x1 i (0,0,0,()) hlt);rw [Iq,if_pos (by simp only [decide_eq_true_eq];omega),eH x1 i (0,0,0,()) hlt,Gp,e3,aF];generalize x1.getD i (0,0,0,())=l at *;refine ⟨by omega,by omega,hx,?_⟩;by_cases c:decide (WB x0 l 1>0)=true
  ·have:=ih (i+1) (h0++[(i:Int)]) (by omega) (by rw [aO,cP];omega);refine (if_pos c).mpr ⟨by omega,by rw [aK];omega,?_⟩;rw [if_pos c];rw [bS] at this;exact this
  ·refine (if_neg c).mpr ⟨by rw [aK];omega,?_⟩;rw [if_neg c];exact ih (i+1) h0 (by omega) (by omega)
theorem aUA (x0 x1:List N9) (h:aOk x0 x1):∃ n,aK8 n x0 x1 [⟨.sl (.int .i64),WC x0 x1⟩,⟨.int .i64,WD x0 x1⟩]:=by
 unfold WC WD;by_cases c1:yT x0=true
 ·by_cases c2:AN x1=true
  ·have e:Hk x0 x1=true:=by unfold Hk;rw [c1,c2];rfl
   obtain ⟨p1,p2⟩:=h e;refine ⟨x1.length+1+1,?_⟩;rw [aK8,if_neg (by rw [c1];decide),if_neg (by rw [c2];decide),if_pos e,if_pos e];exact aU9 x0 x1 p1 p2 x1.length 0 [] (by omega) (bW _)
  ·have e:¬ Hk x0 x1=true:=by unfold Hk;rw [BE c2,Bool.and_false];decide
   exact ⟨1,by rw [aK8,if_neg (by rw [c1];decide),if_pos (by rw [BE c2];rfl),if_neg e,if_neg e]⟩
 ·have e:¬ Hk x0 x1=true:=by unfold Hk;rw [BE c1,Bool.false_and];decide
  exact ⟨1,by rw [aK8,if_pos (by rw [BE c1];rfl),if_neg e,if_neg e]⟩
def bCo:=dR aOj (λ⟨x0,x1,_⟩=>aOk x0 x1) λ⟨x0,x1,_⟩=>[⟨.sl (.int .i64),WC x0 x1⟩,⟨.int .i64,WD x0 x1⟩]
theorem aUB:c7 231 bCo:=dF bKt (λ⟨x0,x1,_⟩ h hwf K q =>
 let ⟨n,hn⟩:=aUA x0 x1 h
 (aU8 _ K q n).1 hn)
noncomputable def bCp:dB:=⟨310,Tryz.f310,[.v (.int .i64),.v (.int .i64)],[.bool],[],[(183,aR1)],false,[]⟩
theorem bKu:FO bCp:=mo Tryz.func310 ⟨aIY,trivial⟩
def bKv (x0:Int) (x1:Int):Prop:=True
def Da (x0:Int) (x1:Int):Bool:=(if (DV x0)=true then (if (DV x1)=true then decide (x0<=x1) else false) else false)
def bCq:=dR bCp (λ⟨x0,x1,_⟩=>bKv x0 x1) λ⟨x0,x1,_⟩=>[⟨.bool,Da x0 x1⟩]
theorem aUC:c7 310 bCq:=dF bKu λ⟨x0,x1,_⟩ h _ K q=>tv<|e1 (tv<|e1 (rt) (rt)) (tF<|rt)
noncomputable def bCr:dB:=⟨309,Tryz.f309,[.v (.sl fP),.v (.bool)],[.int .i64],[],[(63,S63)],false,[]⟩
theorem bKw:FO bCr:=mo Tryz.func309 ⟨aPP,trivial⟩
def bKx (x0:List bX) (x1:Bool):Prop:=True
def Db (x0:List bX) (x1:Bool):Int:=(if (!rR x0)=true then 1 else (if (!x1)=true then 2 else 0))
def bCs:=dR bCr (λ⟨x0,x1,_⟩=>bKx x0 x1) λ⟨x0,x1,_⟩=>[⟨.int .i64,Db x0 x1⟩]
theorem aUD:c7 309 bCs:=dF bKw λ⟨x0,x1,_⟩ h _ K q=>tv<|e1 (rt) (e1 (rt) (rt))
end
def Bu (m:Int):Nat->List bX->List Int
 | _,[]=>[]
 | i,x :: l=>if x.2.1<=m/\m<x.2.2.1 then (i:Int) :: Bu m (i+1) l else Bu m (i+1) l
def sC (x0:List bX) (k:Nat):ByteArray×Int×Int×Unit:=x0.getD k (aC,(0:Int),(0:Int),())
theorem aFh (x:ByteArray×Int×Int×Unit) (l:List bX) (k:Nat):sC (x :: l) (k+1)=sC l k:=by
 simp [sC,bL]
theorem K0 {m:Int}:∀ {l:List bX} {i:Nat} {v:Int},v∈Bu m i l↔∃ k:Nat,k<l.length/\v=((i+k:Nat):Int)/\(sC l k).2.1<=m/\m<(sC l k).2.2.1
 | [],i,v=>by simp [Bu]
 | x :: l,i,v=>by
  have key:v∈Bu m (i+1) l↔∃ k:Nat,k+1<(x :: l).length/\v=((i+(k+1):Nat):Int)/\(sC (x :: l) (k+1)).2.1<=m/\m<(sC (x :: l) (k+1)).2.2.1:=by
   rw [K0];constructor
   ·rintro ⟨k,h1,h2,h3⟩;exact ⟨k,by simpa using h1,by rw [h2];omega,by rw [aFh];exact h3⟩
   ·rintro ⟨k,h1,h2,h3⟩;exact ⟨k,by simpa using h1,by rw [h2];omega,by rw [aFh] at h3;exact h3⟩
  unfold Bu;by_cases hx:x.2.1<=m/\m<x.2.2.1
  ·rw [if_pos hx,aR,key];constructor
   ·rintro (rfl | ⟨k,h⟩)
    ·exact ⟨0,by simp,rfl,hx⟩
    ·exact ⟨k+1,h⟩
   ·rintro ⟨k,h1,h2,h3⟩;cases k with
    | zero=>exact .inl (by simpa using h2)
    | succ k=>exact .inr ⟨k,h1,h2,h3⟩
  ·rw [if_neg hx,key];constructor
   ·rintro ⟨k,h⟩;exact ⟨k+1,h⟩
   ·rintro ⟨k,h1,h2,h3⟩;cases k with
    | zero=>exact absurd h3 hx
    | succ k=>exact ⟨k,h1,h2,h3⟩
theorem aFi (m:Int):∀ (l:List bX) (i:Nat),(Bu m i l).length<=l.length
 | [],i=>aT _
 | x :: l,i=>by
  unfold Bu;have:=aFi m l (i+1);split
  ·simp;omega
  ·simp;omega
def mQ (x0:List bX) (b:Int) (l:List Int):Int:=l.foldl (λb k=>if b<0\/(sC x0 b.toNat).2.2.1<(sC x0 k.toNat).2.2.1 then k else b) b
theorem WE (x0:List bX):∀ (l:List Int) (b:Int),(∀ k∈l,0<=k)->0<=b->(mQ x0 b l=b\/mQ x0 b l∈l)/\(sC x0 b.toNat).2.2.1<=(sC x0 (mQ x0 b l).toNat).2.2.1/\∀ k∈l,(sC x0 k.toNat).2.2.1<=(sC x0 (mQ x0 b l).toNat).2.2.1
 | [],b,_,hb=>⟨.inl rfl,gA _,λk hk=>by cases hk⟩
 | k :: l,b,h,hb=>by
  have hk:0<=k:=h k (aQ ..);have hl:∀ k∈l,0<=k:=λk hk=>h k (aM _ hk);by_cases hc:b<0\/(sC x0 b.toNat).2.2.1<(sC x0 k.toNat).2.2.1
  ·have e:mQ x0 b (k :: l)=mQ x0 k l:=by
    unfold mQ;rw [dY,if_pos hc]
   rw [e];obtain ⟨h1,h2,h3⟩:=WE x0 l k hl hk;refine ⟨.inr ?_,?_,λj hj => ?_⟩
   ·rcases h1 with h1 | h1
    ·rw [h1];exact aQ ..
    ·exact aM _ h1
   ·rcases hc with hc | hc <;> omega
   ·rcases aR.1 hj with rfl | hj
    ·exact h2
    ·exact h3 j hj
  ·have e:mQ x0 b (k :: l)=mQ x0 b l:=by
    unfold mQ;rw [dY,if_neg hc]
   rw [e];obtain ⟨h1,h2,h3⟩:=WE x0 l b hl hb;refine ⟨h1.imp id (aM _),h2,λj hj => ?_⟩;rcases aR.1 hj with rfl | hj
   ·omega
   ·exact h3 j hj
theorem aDp (x0:List bX) (l:List Int) (h:∀ k∈l,0<=k):(l=[]/\mQ x0 (-1) l = -1)\/(mQ x0 (-1) l∈l/\∀ k∈l,(sC x0 k.toNat).2.2.1<=(sC x0 (mQ x0 (-1) l).toNat).2.2.1):=by
 cases l with
 | nil=>exact .inl ⟨rfl,rfl⟩
 | cons k l =>
  have e:mQ x0 (-1) (k :: l)=mQ x0 k l:=by
   unfold mQ;rw [dY,if_pos (.inl (by decide))]
  rw [e];obtain ⟨h1,h2,h3⟩:=WE x0 l k (λk hk=>h k (aM _ hk)) (h k (aQ ..));refine .inr ⟨?_,λj hj => ?_⟩
  ·rcases h1 with h1 | h1
   ·rw [h1];exact aQ ..
   ·exact aM _ h1
  ·rcases aR.1 hj with rfl | hj
   ·exact h2
   ·exact h3 j hj
def OL (x0:List bX) (e:Int):Nat->Int->Option (List Int)
 | 0,_=>some []
 | n+1,m=>if m<e then (if mQ x0 (-1) (Bu m 0 x0)<0 then none else (OL x0 e n (sC x0 (mQ x0 (-1) (Bu m 0 x0)).toNat).2.2.1).map (mQ x0 (-1) (Bu m 0 x0) :: ·)) else some []
theorem aOl (x0:List bX) (m:Int) (h:¬ mQ x0 (-1) (Bu m 0 x0)<0):∃ b:Nat,mQ x0 (-1) (Bu m 0 x0)=(b:Int)/\b<x0.length/\(sC x0 b).2.1<=m/\m<(sC x0 b).2.2.1/\∀ k:Nat,k<x0.length->(sC x0 k).2.1<=m->(sC x0 k).2.2.1<=(sC x0 b).2.2.1:=by
 have hn:∀ k∈Bu m 0 x0,0<=k:=λk hk=>by
  obtain ⟨j,_,rfl,_⟩:=K0.1 hk;omega
 rcases aDp x0 _ hn with ⟨_,h2⟩ | ⟨h1,h2⟩
 ·rw [h2] at h;exact absurd (by decide) h
 ·obtain ⟨b,hb,he,h3,h4⟩:=K0.1 h1;rw [cV] at he;refine ⟨b,he,hb,h3,h4,λk hk hf => ?_⟩;rw [he] at h2;simp only [aF] at h2;by_cases hm:m<(sC x0 k).2.2.1
  ·have:=h2 (k:Int) (K0.2 ⟨k,hk,by simp,hf,hm⟩);simpa using this
  ·omega
noncomputable section
noncomputable def aOm:dB:=⟨311,Tryz.f311,[.v (.sl fP),.v (.int .i64)],[.sl (.int .i64)],[],[],false,[]⟩
theorem bKy:FO aOm:=mo Tryz.func311 trivial
def aUE (v10:Int) (h0:List Int) (x1:Int) (x0:List bX):eD×bG:=([eI 1 x1,eW 5 0,eL 8 fP x0,eI 9 (x0.length:Int),eI 10 v10],[jB (.int .i64) h0])
mutual
def aUF:Nat->List bX->Int->List aY->Prop
 | 0,_,_,_=>False
 | n+1,x0,x1,ds=>(Fv n (0) ([]) (x1) (x0) ds)
def Fv:Nat->Int->List Int->Int->List bX->List aY->Prop
 | 0,_,_,_,_,_=>False
 | n+1,v10,h0,x1,x0,ds=>(if (decide (v10<(x0.length:Int)))=true then ((0<=v10)/\(v10<(x0.length:Int))/\(if (decide ((aD x0 (aE v10) (aC,0,0,())).2.1<=x1))=true then (if (decide (x1<(aD x0 (aE v10) (aC,0,0,())).2.2.1))=true then (((aN h0+1)*8<=140737488355328)/\((cC .i64 (v10+1))/\(Fv n (v10+1) (h0++[v10]) (x1) (x0) ds))) else ((cC .i64 (v10+1))/\(Fv n (v10+1) (h0) (x1) (x0) ds))) else ((cC .i64 (v10+1))/\(Fv n (v10+1) (h0) (x1) (x0) ds)))) else (ds=[aP (.sl (.int .i64)) h0]))
end
theorem aUG (ds:List aY) (K:jK) (q:Nat->Value):∀ n,(∀ {x0 x1},aUF n x0 x1 ds->St aOm (x0,x1,()) ds [] K q)/\(∀ {v10 h0 x1 x0},Fv n v10 h0 x1 x0 ds->Cu aOm 3 (aUE v10 h0 x1 x0) ds [] K q):=by
 intro n
 induction n with
 | zero=>exact ⟨λh=>h.elim,λh=>h.elim⟩
 | succ n ih =>
 obtain ⟨i,i3⟩:=ih;exact ⟨λh=>jn [(5,.int .i64)] (i3 h),
  λh=>bR h (λh=>c2 h λh=>bR h (λh=>bR h (λh=>c1 h λh=>c1 h λh=>jn [(5,.int .i64)] (i3 h)) λh=>c1 h λh=>jn [(5,.int .i64)] (i3 h)) λh=>tF<|c1 h λh=>jn [(5,.int .i64)] (i3 h)) λh=>rh h⟩
def wR (x0:List bX) (x1:Int):List Int:=Bu x1 0 x0
def bCt (x0:List bX) (x1:Int):Prop:=x0.length<=1000
theorem aOn (x0:List bX) (x1:Int) (hl:x0.length<=1000):∀ (k i:Nat) (h:List Int),i+k=x0.length->h.length<=i->Fv (k+1) (i:Int) h x1 x0 [⟨.sl (.int .i64),h++Bu x1 i (x0.drop i)⟩]:=by
 intro k
 induction k with
 | zero =>
  intro i h hi hh;rw [Fv,if_neg (by simp only [decide_eq_true_eq];omega),dS (by omega)];simp [Bu]
 | succ k ih =>
  intro i h hi hh;have hlt:i<x0.length:=by omega
  have ii:cC .i64 ((i:Int)+1):=by rw [aK];omega
  have hn:((i:Int)+1)=((i+1:Nat):Int):=by omega
  rw [Fv,if_pos (by simp only [decide_eq_true_eq];omega)];refine ⟨by omega,by omega,?_⟩;simp only [aF,iV x0 i _ hlt];rw [List.drop_eq_getElem_cons hlt];unfold Bu;by_cases h1:x0[i].2.1<=x1
  ·rw [if_pos (by simpa using h1)];by_cases h2:x1<x0[i].2.2.1
   ·rw [if_pos (by simpa using h2),if_pos ⟨h1,h2⟩];refine ⟨by omega,ii,?_⟩;have:=ih (i+1) (h++[(i:Int)]) (by omega) (by simp;omega);rw [hn];simpa using this
   ·rw [if_neg (by simpa using h2),if_neg (λhh=>h2 hh.2)];refine ⟨ii,?_⟩;rw [hn];exact ih (i+1) h (by omega) (by omega)
  ·rw [if_neg (by simpa using h1),if_neg (λhh=>h1 hh.1)];refine ⟨ii,?_⟩;rw [hn];exact ih (i+1) h (by omega) (by omega)
theorem aUH (x0:List bX) (x1:Int) (hl:x0.length<=1000):aUF (x0.length+1+1) x0 x1 [⟨.sl (.int .i64),wR x0 x1⟩]:=by
 rw [aUF];exact aOn x0 x1 hl x0.length 0 [] (by omega) (by simp)
def bCu:=dR aOm (λ⟨x0,x1,_⟩=>bCt x0 x1) λ⟨x0,x1,_⟩=>[⟨.sl (.int .i64),wR x0 x1⟩]
theorem aUI:c7 311 bCu:=dF bKy (λ⟨x0,x1,_⟩ h hwf K q =>
 (aUG _ K q _).1 (aUH x0 x1 h))
end
theorem aK9 {x:Int} (h:DV x=true):0<=x/\x<=1440:=by
 unfold DV cD at h;split at h
 ·rename_i h1;simp only [decide_eq_true_eq] at h h1;exact ⟨h1,h⟩
 ·cases h
theorem aOo {a b:Int} (h:Da a b=true):0<=a/\a<=1440/\0<=b/\b<=1440/\a<=b:=by
 unfold Da at h;split at h
 ·rename_i h1;split at h
  ·rename_i h2;obtain ⟨a1,a2⟩:=aK9 h1;obtain ⟨a3,a4⟩:=aK9 h2;exact ⟨a1,a2,a3,a4,of_decide_eq_true h⟩
  ·cases h
 ·cases h
theorem aDq {x0:List bX} {b:Bool} (h:Db x0 b=0):rR x0=true/\b=true:=by
 unfold Db at h;cases hv:rR x0 with
 | false =>
  rw [if_pos (by rw [hv];rfl)] at h;cases h
 | true =>
  rw [if_neg (by rw [hv];decide)] at h;cases b with
  | true=>exact ⟨rfl,rfl⟩
  | false =>
   rw [if_pos (show (!false)=true by decide)] at h;cases h
noncomputable section
noncomputable def aKA:dB:=⟨232,Tryz.f232,[.v (.sl fP),.v (.int .i64),.v (.int .i64)],[.sl (.int .i64),.int .i64],[],[(310,bCq),(309,bCs),(311,bCu)],false,[]⟩
theorem bKz:FO aKA:=mo Tryz.func232 ⟨aUC,aUD,aUI,trivial⟩
def aUJ (h0:List Int) (x0:List bX) (x2:Int) (x1:Int):eD×bG:=([eL 0 fP x0,eI 2 x2,eW 9 0,eI 10 x1],[jB (.int .i64) h0])
def aUK (v11:Int) (v30:Int) (x0:List bX) (x2:Int) (x1:Int) (h0:List Int):eD×bG:=([eL 0 fP x0,eI 2 x2,eW 9 0,eI 11 v11,eW 28 1,eI 29 (↑(aN (wR x0 x1)):Int),eI 30 v30],[jB (.int .i64) h0,jB (.int .i64) (wR x0 x1)])
mutual
def aOp:Nat->List bX->Int->Int->List aY->Prop
 | 0,_,_,_,_=>False
 | n+1,x0,x1,x2,ds=>(if (Db x0 (Da x1 x2) != 0)=true then (ds=[aP (.sl (.int .i64)) [],aP (.int .i64) (Db x0 (Da x1 x2))]) else (Ir n ([]) (x0) (x2) (x1) ds))
def Ir:Nat->List Int->List bX->Int->Int->List aY->Prop
 | 0,_,_,_,_,_=>False
 | n+1,h0,x0,x2,x1,ds=>(if (decide (x1<x2))=true then ((bCt x0 x1)/\(wS n (-1) (0) (x0) (x2) (x1) (h0) ds)) else (ds=[aP (.sl (.int .i64)) h0,aP (.int .i64) 0]))
def wS:Nat->Int->Int->List bX->Int->Int->List Int->List aY->Prop
 | 0,_,_,_,_,_,_,_=>False
 | n+1,v11,v30,x0,x2,x1,h0,ds=>(if (decide (v30<(↑(aN (wR x0 x1)):Int)))=true then ((0<=v30)/\(v30<(↑(aN (wR x0 x1)):Int))/\(if (decide (v11<0))=true then ((cC .i64 (v30+1))/\(wS n (aD (wR x0 x1) (aE v30) 0) (v30+1) (x0) (x2) (x1) (h0) ds)) else ((0<=aD (wR x0 x1) (aE v30) 0)/\(aD (wR x0 x1) (aE v30) 0<(x0.length:Int))/\((0<=v11)/\(v11<(x0.length:Int))/\(if (decide ((aD x0 (aE (aD (wR x0 x1) (aE v30) 0)) (aC,0,0,())).2.2.1>(aD x0 (aE v11) (aC,0,0,())).2.2.1))=true then ((cC .i64 (v30+1))/\(wS n (aD (wR x0 x1) (aE v30) 0) (v30+1) (x0) (x2) (x1) (h0) ds)) else ((cC .i64 (v30+1))/\(wS n (v11) (v30+1) (x0) (x2) (x1) (h0) ds))))))) else (if (decide (v11<0))=true then (ds=[aP (.sl (.int .i64)) [],aP (.int .i64) 3]) else (((aN h0+1)*8<=140737488355328)/\((0<=v11)/\(v11<(x0.length:Int))/\(Ir n (h0++[v11]) (x0) (x2) (aD x0 (aE v11) (aC,0,0,())).2.2.1 ds)))))
end
theorem aUL (ds:List aY) (K:jK) (q:Nat->Value):∀ n,(∀ {x0 x1 x2},aOp n x0 x1 x2 ds->St aKA (x0,x1,x2,()) ds [] K q)/\(∀ {h0 x0 x2 x1},Ir n h0 x0 x2 x1 ds->Cu aKA 6 (aUJ h0 x0 x2 x1) ds [] K q)/\(∀ {v11 v30 x0 x2 x1 h0},wS n v11 v30 x0 x2 x1 h0 ds->Cu aKA 9 (aUK v11 v30 x0 x2 x1 h0) ds [] K q):=by
 intro n
 induction n with
 | zero=>exact ⟨λh=>h.elim,λh=>h.elim,λh=>h.elim⟩
 | succ n ih =>
 obtain ⟨i,i6,i9⟩:=ih;exact ⟨λh=>tv<|tv<|bR h (λh=>rh h) λh=>jn [(9,.int .i64)] (i6 h),
  λh=>bR h (λh=>c1 h λh=>jp (i9 h)) λh=>rh h,
  λh=>bR h (λh=>c2 h λh=>bR h (λh=>tT<|c1 h λh=>jp (i9 h)) λh=>c2 h λh=>c2 h λh=>bR h (λh=>c1 h λh=>jp (i9 h)) λh=>c1 h λh=>jp (i9 h)) λh=>bR h (λh=>rh h) λh=>c1 h λh=>c2 h λh=>jn [(9,.int .i64)] (i6 h)⟩
def WF (x0:List bX) (x1 x2:Int):Int:=if Db x0 (Da x1 x2)≠0 then Db x0 (Da x1 x2) else match OL x0 x2 (x2 - x1).toNat x1 with | some _=>0 | none=>3
def WG (x0:List bX) (x1 x2:Int):List Int:=if Db x0 (Da x1 x2)≠0 then [] else (OL x0 x2 (x2 - x1).toNat x1).getD []
def bCv (x0:List bX) (x1 x2:Int):Prop:=x0.length<=1000
theorem aKB (x0:List bX) (x2 x1:Int) (h0:List Int) (hl:x0.length<=1000) (ds:List aY) (hN:∃ N,wS N (mQ x0 (-1) (Bu x1 0 x0)) ((Bu x1 0 x0).length:Int) x0 x2 x1 h0 ds) :
  ∀ (k i:Nat) (v:Int),i+k=(Bu x1 0 x0).length->(v = -1\/(0<=v/\v<(x0.length:Int)))->v=mQ x0 (-1) ((Bu x1 0 x0).take i)->∃ n,wS n v (i:Int) x0 x2 x1 h0 ds:=by
 have hll:=aFi x1 x0 0;have hall:∀ j∈Bu x1 0 x0,0<=j/\j<(x0.length:Int):=λj hj=>by
  obtain ⟨q,h1,rfl,_⟩:=K0.1 hj;omega
 intro k
 induction k with
 | zero =>
  intro i v hi hv hb;obtain rfl:i=(Bu x1 0 x0).length:=by omega
  rw [List.take_length] at hb;rw [hb];exact hN
 | succ k ih =>
  intro i v hi hv hb;have hlt:i<(Bu x1 0 x0).length:=by omega
  have en:(i:Int)+1=((i+1:Nat):Int):=by omega
  have ii:cC .i64 ((i:Int)+1):=by rw [aK];omega
  have hj:=hall _ (List.getElem_mem hlt);have et:mQ x0 (-1) ((Bu x1 0 x0).take (i+1))=if v<0\/(sC x0 v.toNat).2.2.1<(sC x0 ((Bu x1 0 x0)[i]).toNat).2.2.1 then (Bu x1 0 x0)[i] else v:=by
   rw [gY,bC hlt];unfold mQ;rw [List.foldl_append];show (if (mQ x0 (-1) ((Bu x1 0 x0).take i))<0\/(sC x0 (mQ x0 (-1) ((Bu x1 0 x0).take i)).toNat).2.2.1<_ then _ else (mQ x0 (-1) ((Bu x1 0 x0).take i)))=_;rw [<- hb]
  have eg:wR x0 x1=Bu x1 0 x0:=rfl;by_cases hv0:v<0
  ·obtain ⟨n,hn⟩:=ih (i+1) ((Bu x1 0 x0)[i]) (by omega) (.inr hj) (by rw [et,if_pos (.inl hv0)]);refine ⟨n+1,?_⟩;rw [wS,eg,if_pos (by simp only [decide_eq_true_eq];omega)];refine ⟨by omega,by omega,?_⟩;simp only [aF,iV (Bu x1 0 x0) i _ hlt];rw [if_pos (by simpa using hv0)];refine ⟨ii,?_⟩;rw [en];exact hn
  ·by_cases hc:(sC x0 v.toNat).2.2.1<(sC x0 ((Bu x1 0 x0)[i]).toNat).2.2.1
   ·obtain ⟨n,hn⟩:=ih (i+1) ((Bu x1 0 x0)[i]) (by omega) (.inr hj) (by rw [et,if_pos (.inr hc)]);refine ⟨n+1,?_⟩;rw [wS,eg,if_pos (by simp only [decide_eq_true_eq];omega)];refine ⟨by omega,by omega,?_⟩;simp only [aF,iV (Bu x1 0 x0) i _ hlt];rw [if_neg (by simpa using hv0)];refine ⟨hj.1,hj.2,by omega,by omega,?_⟩;refine Eq.mpr (if_pos (show _=true from decide_eq_true hc)) ⟨ii,?_⟩;rw [en];exact hn
   ·obtain ⟨n,hn⟩:=ih (i+1) v (by omega) hv (by rw [et,if_neg (by rintro (h | h) <;> contradiction)]);refine ⟨n+1,?_⟩;rw [wS,eg,if_pos (by simp only [decide_eq_true_eq];omega)];refine ⟨by omega,by omega,?_⟩;simp only [aF,iV (Bu x1 0 x0) i _ hlt];rw [if_neg (by simpa using hv0)];refine ⟨hj.1,hj.2,by omega,by omega,?_⟩;refine Eq.mpr (if_neg (λh=>hc (of_decide_eq_true h))) ⟨ii,?_⟩;rw [en];exact hn
def Qp (h0:List Int):Option (List Int)->List aY
 | some l=>[⟨.sl (.int .i64),h0++l⟩,⟨.int .i64,(0:Int)⟩]
 | none=>[⟨.sl (.int .i64),([]:List Int)⟩,⟨.int .i64,(3:Int)⟩]
theorem aKC (x0:List bX) (x2:Int) (hl:x0.length<=1000):∀ (k:Nat) (x1:Int) (h0:List Int),x2 - x1<=(k:Int)->h0.length+k<=2000 ->
  ∃ n,Ir n h0 x0 x2 x1 (Qp h0 (OL x0 x2 k x1)):=by
 intro k
 induction k with
 | zero =>
  intro x1 h0 hk hh;refine ⟨1,?_⟩;rw [Ir,if_neg (by simp only [decide_eq_true_eq];omega)];show [(⟨.sl (.int .i64),h0++([]:List Int)⟩:aY),⟨.int .i64,(0:Int)⟩]=_;rw [c6]
 | succ k ih =>
  intro x1 h0 hk hh;by_cases hm:x1<x2
  case neg =>
   refine ⟨1,?_⟩;rw [Ir,if_neg (by simpa using hm)];unfold OL;rw [if_neg hm];show [(⟨.sl (.int .i64),h0++([]:List Int)⟩:aY),⟨.int .i64,(0:Int)⟩]=_;rw [c6]
  case pos =>
   have eg:wR x0 x1=Bu x1 0 x0:=rfl;have key:∃ N,wS N (mQ x0 (-1) (Bu x1 0 x0)) ((Bu x1 0 x0).length:Int) x0 x2 x1 h0 (Qp h0 (OL x0 x2 (k+1) x1)):=by
    by_cases hb:mQ x0 (-1) (Bu x1 0 x0)<0
    ·refine ⟨1,?_⟩;rw [wS,eg,if_neg (by simp only [decide_eq_true_eq];omega),if_pos (by simpa using hb)];unfold OL;rw [if_pos hm,if_pos hb];rfl
    ·obtain ⟨b,h1,h2,h3,h4,h5⟩:=aOl x0 x1 hb;obtain ⟨n,hn⟩:=ih (sC x0 b).2.2.1 (h0++[(b:Int)]) (by omega) (by rw [aO,cP];omega);refine ⟨n+1,?_⟩;rw [wS,eg,if_neg (by simp only [decide_eq_true_eq];omega),if_neg (by simpa using hb)];unfold OL;rw [if_pos hm,if_neg hb,h1];simp only [aF];refine ⟨by omega,by omega,by omega,?_⟩;have e:Qp (h0++[(b:Int)]) (OL x0 x2 k (sC x0 b).2.2.1)=Qp h0 ((OL x0 x2 k (sC x0 b).2.2.1).map ((b:Int) :: ·)):=by
      cases OL x0 x2 k (sC x0 b).2.2.1 with
      | none=>rfl
      | some l=>simp [Qp]
     rw [<- e];exact hn
   obtain ⟨n,hn⟩:=aKB x0 x2 x1 h0 hl _ key (Bu x1 0 x0).length 0 (-1) (by omega) (.inl rfl) rfl;refine ⟨n+1,?_⟩;rw [Ir,if_pos (by simpa using hm)];exact ⟨hl,hn⟩
theorem aUM (x0:List bX) (x1 x2:Int) (hl:x0.length<=1000):∃ n,aOp n x0 x1 x2 [⟨.sl (.int .i64),WG x0 x1 x2⟩,⟨.int .i64,WF x0 x1 x2⟩]:=by
 unfold WG WF;by_cases h:Db x0 (Da x1 x2)=0
 ·rw [if_neg (λhh=>hh h),if_neg (λhh=>hh h)];have hs:x2 - x1<=1440:=by
   have:=aOo (aDq h).2;omega
  obtain ⟨n,hn⟩:=aKC x0 x2 hl (x2 - x1).toNat x1 [] (by omega) (by simp;omega);refine ⟨n+1,?_⟩;rw [aOp,if_neg (by rw [h];decide)];cases hf:OL x0 x2 (x2 - x1).toNat x1 with
  | none=>rw [hf] at hn;exact hn
  | some l=>rw [hf] at hn;exact hn
 ·rw [if_pos h,if_pos h];refine ⟨1,?_⟩;rw [aOp,if_pos (by simpa using h)]
def bCw:=dR aKA (λ⟨x0,x1,x2,_⟩=>bCv x0 x1 x2) λ⟨x0,x1,x2,_⟩=>[⟨.sl (.int .i64),WG x0 x1 x2⟩,⟨.int .i64,WF x0 x1 x2⟩]
theorem aUN:c7 232 bCw:=dF bKz (λ⟨x0,x1,x2,_⟩ h hwf K q =>
 let ⟨n,hn⟩:=aUM x0 x1 x2 h
 (aUL _ K q n).1 hn)
noncomputable def bCx:dB:=⟨313,Tryz.f313,[.v (.int .i64)],[.bool],[],[(108,p8)],false,[]⟩
theorem bK0:FO bCx:=mo Tryz.func313 ⟨iA,trivial⟩
def bK1 (x0:Int):Prop:=True
def WH (x0:Int):Bool:=cD x0 1 60
def bCy:=dR bCx (λ⟨x0,_⟩=>bK1 x0) λ⟨x0,_⟩=>[⟨.bool,WH x0⟩]
theorem aUO:c7 313 bCy:=dF bK0 λ⟨x0,_⟩ h _ K q=>tv<|rt
noncomputable def bCz:dB:=⟨314,Tryz.f314,[.v (.int .i64)],[.bool],[],[(108,p8)],false,[]⟩
theorem bK2:FO bCz:=mo Tryz.func314 ⟨iA,trivial⟩
def bK3 (x0:Int):Prop:=True
def Qq (x0:Int):Bool:=cD x0 1 1000
def bC0:=dR bCz (λ⟨x0,_⟩=>bK3 x0) λ⟨x0,_⟩=>[⟨.bool,Qq x0⟩]
theorem aUP:c7 314 bC0:=dF bK2 λ⟨x0,_⟩ h _ K q=>tv<|rt
noncomputable def bC1:dB:=⟨312,Tryz.f312,[.v (.sl (.int .i64)),.v (.bool)],[.int .i64],[],[(128,aNz)],false,[]⟩
theorem bK4:FO bC1:=mo Tryz.func312 ⟨aCn,trivial⟩
def bK5 (x0:List Int) (x1:Bool):Prop:=True
def Af (x0:List Int) (x1:Bool):Int:=(if (!qL x0)=true then 1 else (if (!x1)=true then 2 else 0))
def bC2:=dR bC1 (λ⟨x0,x1,_⟩=>bK5 x0 x1) λ⟨x0,x1,_⟩=>[⟨.int .i64,Af x0 x1⟩]
theorem aUQ:c7 312 bC2:=dF bK4 λ⟨x0,x1,_⟩ h _ K q=>tv<|e1 (rt) (e1 (rt) (rt))
noncomputable def aOq:dB:=⟨315,Tryz.f315,[.v (.sl (.int .i64)),.v (.int .i64),.v (.int .i64),.v (.int .i64)],[.sl (.int .i64)],[],[],false,[]⟩
theorem bK6:FO aOq:=mo Tryz.func315 trivial
def aUR (v10:Int) (v16:Int) (h0:List Int) (x1:Int) (x2:Int) (x3:Int) (x0:List Int):eD×bG:=([eI 1 x1,eI 2 x2,eI 3 x3,eW 9 0,eI 10 v10,eL 14 (.int .i64) x0,eI 15 (x0.length:Int),eI 16 v16],[jB (.int .i64) h0])
mutual
def bC3:Nat->List Int->Int->Int->Int->List aY->Prop
 | 0,_,_,_,_,_=>False
 | n+1,x0,x1,x2,x3,ds=>(Bv n (0) (0) ([]) (x1) (x2) (x3) (x0) ds)
def Bv:Nat->Int->Int->List Int->Int->Int->Int->List Int->List aY->Prop
 | 0,_,_,_,_,_,_,_,_=>False
 | n+1,v10,v16,h0,x1,x2,x3,x0,ds=>(if (decide (v16<(x0.length:Int)))=true then ((0<=v16)/\(v16<(x0.length:Int))/\((cC .i64 (v16+1))/\((cC .i64 (v10+aD x0 (aE v16) 0))/\((x1≠0)/\(cC .i64 (c8 (v16+1) x1))/\(if (c8 (v16+1) x1==0)=true then ((cC .i64 (v10+aD x0 (aE v16) 0 - if x2<v10+aD x0 (aE v16) 0 then x2 else v10+aD x0 (aE v16) 0))/\(if (v16+1==x3)=true then ((cC .i64 ((v10+aD x0 (aE v16) 0 - if x2<v10+aD x0 (aE v16) 0 then x2 else v10+aD x0 (aE v16) 0) - if x2<v10+aD x0 (aE v16) 0 - if x2<v10+aD x0 (aE v16) 0 then x2 else v10+aD x0 (aE v16) 0 then x2 else v10+aD x0 (aE v16) 0 - if x2<v10+aD x0 (aE v16) 0 then x2 else v10+aD x0 (aE v16) 0))/\(((aN h0+1)*8<=140737488355328)/\((cC .i64 (v16+1))/\(Bv n ((v10+aD x0 (aE v16) 0 - if x2<v10+aD x0 (aE v16) 0 then x2 else v10+aD x0 (aE v16) 0) - if x2<v10+aD x0 (aE v16) 0 - if x2<v10+aD x0 (aE v16) 0 then x2 else v10+aD x0 (aE v16) 0 then x2 else v10+aD x0 (aE v16) 0 - if x2<v10+aD x0 (aE v16) 0 then x2 else v10+aD x0 (aE v16) 0) (v16+1) (h0++[(v10+aD x0 (aE v16) 0 - if x2<v10+aD x0 (aE v16) 0 then x2 else v10+aD x0 (aE v16) 0) - if x2<v10+aD x0 (aE v16) 0 - if x2<v10+aD x0 (aE v16) 0 then x2 else v10+aD x0 (aE v16) 0 then x2 else v10+aD x0 (aE v16) 0 - if x2<v10+aD x0 (aE v16) 0 then x2 else v10+aD x0 (aE v16) 0]) (x1) (x2) (x3) (x0) ds)))) else (((aN h0+1)*8<=140737488355328)/\((cC .i64 (v16+1))/\(Bv n (v10+aD x0 (aE v16) 0 - if x2<v10+aD x0 (aE v16) 0 then x2 else v10+aD x0 (aE v16) 0) (v16+1) (h0++[v10+aD x0 (aE v16) 0 - if x2<v10+aD x0 (aE v16) 0 then x2 else v10+aD x0 (aE v16) 0]) (x1) (x2) (x3) (x0) ds))))) else (if (v16+1==x3)=true then ((cC .i64 (v10+aD x0 (aE v16) 0 - if x2<v10+aD x0 (aE v16) 0 then x2 else v10+aD x0 (aE v16) 0))/\(((aN h0+1)*8<=140737488355328)/\((cC .i64 (v16+1))/\(Bv n (v10+aD x0 (aE v16) 0 - if x2<v10+aD x0 (aE v16) 0 then x2 else v10+aD x0 (aE v16) 0) (v16+1) (h0++[v10+aD x0 (aE v16) 0 - if x2<v10+aD x0 (aE v16) 0 then x2 else v10+aD x0 (aE v16) 0]) (x1) (x2) (x3) (x0) ds)))) else (((aN h0+1)*8<=140737488355328)/\((cC .i64 (v16+1))/\(Bv n (v10+aD x0 (aE v16) 0) (v16+1) (h0++[v10+aD x0 (aE v16) 0]) (x1) (x2) (x3) (x0) ds))))))))) else (ds=[aP (.sl (.int .i64)) h0]))
end
theorem aUS (ds:List aY) (K:jK) (q:Nat->Value):∀ n,(∀ {x0 x1 x2 x3},bC3 n x0 x1 x2 x3 ds->St aOq (x0,x1,x2,x3,()) ds [] K q)/\(∀ {v10 v16 h0 x1 x2 x3 x0},Bv n v10 v16 h0 x1 x2 x3 x0 ds->Cu aOq 4 (aUR v10 v16 h0 x1 x2 x3 x0) ds [] K q):=by
 intro n
 induction n with
 | zero=>exact ⟨λh=>h.elim,λh=>h.elim⟩
 | succ n ih =>
 obtain ⟨i,i4⟩:=ih;exact ⟨λh=>jn [(9,.int .i64)] (i4 h),
  λh=>bR h (λh=>c2 h λh=>c1 h λh=>c1 h λh=>c2 h λh=>bR h (λh=>c1 h λh=>bR h (λh=>c1 h λh=>c1 h λh=>c1 h λh=>jn [(9,.int .i64)] (i4 h)) λh=>c1 h λh=>c1 h λh=>jn [(9,.int .i64)] (i4 h)) λh=>bR h (λh=>c1 h λh=>c1 h λh=>c1 h λh=>jn [(9,.int .i64)] (i4 h)) λh=>c1 h λh=>c1 h λh=>jn [(9,.int .i64)] (i4 h)) λh=>rh h⟩
def Ag (x2 w:Int):Int:=w - if x2<w then x2 else w
def UF (x1 x2 x3:Int) (i:Nat) (w x:Int):Int:=if (c8 ((i:Int)+1) x1==0)=true then (if ((i:Int)+1==x3)=true then Ag x2 (Ag x2 (w+x)) else Ag x2 (w+x)) else if ((i:Int)+1==x3)=true then Ag x2 (w+x) else w+x
def M9 (x1 x2 x3:Int):List Int->Nat->Int->List Int
 | [],_,_=>[]
 | x :: r,i,w=>UF x1 x2 x3 i w x :: M9 x1 x2 x3 r (i+1) (UF x1 x2 x3 i w x)
def aDr (x0:List Int) (x1 x2 x3:Int):List Int:=M9 x1 x2 x3 x0 0 0
def aOr (x0:List Int) (x1 x2 x3:Int):Prop:=(1<=x1/\x1<=1000000)/\0<=x2/\x0.length<=1000/\∀ x∈x0,0<=x/\x<=1000
theorem Zf {x2 w:Int} (h:0<=x2) (hw:0<=w):0<=Ag x2 w/\Ag x2 w<=w:=by
 unfold Ag;split <;> omega
theorem aUT (x0:List Int) (x1 x2 x3:Int) (h:aOr x0 x1 x2 x3):∀ (k i:Nat) (w:Int) (h0:List Int),i+k=x0.length->0<=w->w<=1000*(i:Int)->h0.length<=i->Bv (k+1) w (i:Int) h0 x1 x2 x3 x0 [⟨.sl (.int .i64),h0++M9 x1 x2 x3 (x0.drop i) i w⟩]:=by
 obtain ⟨⟨p1,p1'⟩,p2,p3,p4⟩:=h;intro k
 induction k with
 | zero =>
  intro i w h0 hi h1 h2 hl;rw [Bv,if_neg (by simp only [decide_eq_true_eq];omega),dS (by omega),M9,c6]
 | succ k ih =>
  intro i w h0 hi h1 h2 hl;have hlt:i<x0.length:=by omega
  have e3:(i:Int)+1=((i+1:Nat):Int):=by omega
  have hx:=p4 _ (dN x0 i 0 hlt);have t1:=Int.tmod_nonneg (a:=(i:Int)+1) x1 (by omega);have t2:=Int.tmod_lt_of_pos ((i:Int)+1) (show 0<x1 by omega);rw [eH x0 i 0 hlt,M9,Bv,if_pos (by simp only [decide_eq_true_eq];omega),aF];generalize x0.getD i 0=x at *;obtain ⟨d1,d2⟩:=Zf p2 (show 0<=w+x by omega);obtain ⟨d3,d4⟩:=Zf p2 d1;have step:∀ w',UF x1 x2 x3 i w x=w'->0<=w'->w'<=w+x->(h0.length+1)*8<=140737488355328/\cC .i64 ((i:Int)+1)/\Bv (k+1) w' ((i:Int)+1) (h0++[w']) x1 x2 x3 x0 [⟨.sl (.int .i64),h0++UF x1 x2 x3 i w x :: M9 x1 x2 x3 (x0.drop (i+1)) (i+1) (UF x1 x2 x3 i w x)⟩]:=λw' e a b=>by
   have:=ih (i+1) w' (h0++[w']) (by omega) a (by omega) (by rw [aO,cP];omega);rw [bS] at this;rw [e,e3];exact ⟨by omega,by rw [aK];omega,this⟩
  have hn:UF x1 x2 x3 i w x=if (c8 ((i:Int)+1) x1==0)=true then (if ((i:Int)+1==x3)=true then Ag x2 (Ag x2 (w+x)) else Ag x2 (w+x)) else if ((i:Int)+1==x3)=true then Ag x2 (w+x) else w+x:=rfl
  refine ⟨by omega,by omega,by rw [aK];omega,by rw [aK];omega,by omega,by rw [aK];omega,?_⟩;by_cases c:(c8 ((i:Int)+1) x1==0)=true
  ·rw [if_pos c] at hn;refine (if_pos c).mpr ⟨show cC .i64 (Ag x2 (w+x)) by rw [aK];omega,?_⟩;by_cases d:((i:Int)+1==x3)=true
   ·rw [if_pos d] at hn;exact (if_pos d).mpr ⟨show cC .i64 (Ag x2 (Ag x2 (w+x))) by rw [aK];omega,step _ hn d3 (by omega)⟩
   ·rw [if_neg d] at hn;exact (if_neg d).mpr (step _ hn d1 d2)
  ·rw [if_neg c] at hn;refine (if_neg c).mpr ?_;by_cases d:((i:Int)+1==x3)=true
   ·rw [if_pos d] at hn;exact (if_pos d).mpr ⟨show cC .i64 (Ag x2 (w+x)) by rw [aK];omega,step _ hn d1 d2⟩
   ·rw [if_neg d] at hn;exact (if_neg d).mpr (step _ hn (by omega) (gA _))
def bC4:=dR aOq (λ⟨x0,x1,x2,x3,_⟩=>aOr x0 x1 x2 x3) λ⟨x0,x1,x2,x3,_⟩=>[⟨.sl (.int .i64),aDr x0 x1 x2 x3⟩]
theorem aUU:c7 315 bC4:=dF bK6 (λ⟨x0,x1,x2,x3,_⟩ h hwf K q =>
 (aUS _ K q ((x0.length+2))).1 (by rw [bC3];exact aUT x0 x1 x2 x3 h x0.length 0 0 [] (by omega) (gA _) (by omega) (bW _)))
noncomputable def bC5:dB:=⟨233,Tryz.f233,[.v (.sl (.int .i64)),.v (.int .i64),.v (.int .i64)],[.sl (.int .i64),.int .i64],[],[(313,bCy),(314,bC0),(312,bC2),(315,bC4)],false,[]⟩
theorem bK7:FO bC5:=mo Tryz.func233 ⟨aUO,aUP,aUQ,aUU,trivial⟩
def aOs (x0:List Int) (x1:Int) (x2:Int):Prop:=(if (WH x1)=true then (if (Af x0 (Qq x2) != 0)=true then True else ((aOr x0 x1 x2 0)/\True)) else (if (Af x0 false != 0)=true then True else ((aOr x0 x1 x2 0)/\True)))
def aKD (x0:List Int) (x1:Int) (x2:Int):List Int:=(if (WH x1)=true then (if (Af x0 (Qq x2) != 0)=true then [] else aDr x0 x1 x2 0) else (if (Af x0 false != 0)=true then [] else aDr x0 x1 x2 0))
def aKE (x0:List Int) (x1:Int) (x2:Int):Int:=(if (WH x1)=true then (if (Af x0 (Qq x2) != 0)=true then Af x0 (Qq x2) else 0) else (if (Af x0 false != 0)=true then Af x0 false else 0))
def bC6:=dR bC5 (λ⟨x0,x1,x2,_⟩=>aOs x0 x1 x2) λ⟨x0,x1,x2,_⟩=>[⟨.sl (.int .i64),aKD x0 x1 x2⟩,⟨.int .i64,aKE x0 x1 x2⟩]
theorem aUV:c7 233 bC6:=dF bK7 λ⟨x0,x1,x2,_⟩ h _ K q=>tv<|o3 h (λh=>tv<|tv<|o3 h (λh=>rt) λh=>c1 h λh=>rt) λh=>tv<|o3 h (λh=>rt) λh=>c1 h λh=>rt
noncomputable def bC7:dB:=⟨316,Tryz.f316,[.v (.sl fP),.v (.sl fP)],[.int .i64],[],[(67,S67),(68,S68)],false,[]⟩
theorem bK8:FO bC7:=mo Tryz.func316 ⟨aPR,aPS,trivial⟩
def bK9 (x0:List bX) (x1:List bX):Prop:=True
def Qr (x0:List bX) (x1:List bX):Int:=(if (!xV x0)=true then 1 else (if (!xW x1)=true then 1 else 0))
def bC8:=dR bC7 (λ⟨x0,x1,_⟩=>bK9 x0 x1) λ⟨x0,x1,_⟩=>[⟨.int .i64,Qr x0 x1⟩]
theorem aUW:c7 316 bC8:=dF bK8 λ⟨x0,x1,_⟩ h _ K q=>tv<|e1 (tT<|rt) (tv<|e1 (rt) (rt))
noncomputable def bC9:dB:=⟨397,Tryz.f397,[.v fP,.v fP],[.bool],[],[],false,[]⟩
theorem bKA:FO bC9:=mo Tryz.func397 trivial
def bKB (x0:ByteArray×Int×Int×Unit) (x1:ByteArray×Int×Int×Unit):Prop:=True
def WI (x0:ByteArray×Int×Int×Unit) (x1:ByteArray×Int×Int×Unit):Bool:=(if (bD cN (↑(j3 (dX 64 x1.2.1 &&& ~~~dX 64 x0.2.1)):Int)==0)=true then decide (x0.2.2.1<=x1.2.2.1) else false)
def bCA:=dR bC9 (λ⟨x0,x1,_⟩=>bKB x0 x1) λ⟨x0,x1,_⟩=>[⟨.bool,WI x0 x1⟩]
theorem aUX:c7 397 bCA:=dF bKA λ⟨x0,x1,_⟩ h _ K q=>e1 (rt) (rt)
noncomputable def aOt:dB:=⟨365,Tryz.f365,[.v (.sl fP),.v fP],[.sl (.int .i64)],[],[(397,bCA)],false,[]⟩
theorem bKC:FO aOt:=mo Tryz.func365 ⟨aUX,trivial⟩
def aUY (v10:Int) (h1:List Int) (x0:List bX) (x1:ByteArray×Int×Int×Unit):eD×bG:=([eO 3 0 0 [],eW 5 1,eL 8 fP x0,eI 9 (x0.length:Int),eI 10 v10],[some (fY fP [x1] true none (some false)),jB (.int .i64) h1])
mutual
def bCB:Nat->List bX->ByteArray×Int×Int×Unit->List aY->Prop
 | 0,_,_,_=>False
 | n+1,x0,x1,ds=>(Is n (0) ([]) (x0) (x1) ds)
def Is:Nat->Int->List Int->List bX->ByteArray×Int×Int×Unit->List aY->Prop
 | 0,_,_,_,_,_=>False
 | n+1,v10,h1,x0,x1,ds=>(if (decide (v10<(x0.length:Int)))=true then ((0<=v10)/\(v10<(x0.length:Int))/\(if (WI (aD x0 (aE v10) (aC,0,0,())) x1)=true then (((aN h1+1)*8<=140737488355328)/\((cC .i64 (v10+1))/\(Is n (v10+1) (h1++[v10]) (x0) (x1) ds))) else ((cC .i64 (v10+1))/\(Is n (v10+1) (h1) (x0) (x1) ds)))) else (ds=[aP (.sl (.int .i64)) h1]))
end
theorem aUZ (ds:List aY) (K:jK) (q:Nat->Value):∀ n,(∀ {x0 x1},bCB n x0 x1 ds->St aOt (x0,x1,()) ds [] K q)/\(∀ {v10 h1 x0 x1},Is n v10 h1 x0 x1 ds->Cu aOt 3 (aUY v10 h1 x0 x1) ds [] K q):=by
 intro n
 induction n with
 | zero=>exact ⟨λh=>h.elim,λh=>h.elim⟩
 | succ n ih =>
 obtain ⟨i,i3⟩:=ih;exact ⟨λh=>jn [(5,.int .i64)] (i3 h),
  λh=>bR h (λh=>c2 h λh=>tv<|bR h (λh=>c1 h λh=>c1 h λh=>jn [(5,.int .i64)] (i3 h)) λh=>c1 h λh=>jn [(5,.int .i64)] (i3 h)) λh=>rh h⟩
abbrev Na:=ByteArray×Int×Int×Unit
def y8 (x1:Na):List Na->Nat->List Int
 | [],_=>[]
 | h :: r,i=>if WI h x1=true then (i:Int) :: y8 x1 r (i+1) else y8 x1 r (i+1)
def qU (x0:List Na) (x1:Na):List Int:=y8 x1 x0 0
def bCC (x0:List Na) (x1:Na):Prop:=x0.length<=1000000
theorem aVa (x0:List Na) (x1:Na) (hl:x0.length<=1000000):∀ (k i:Nat) (h1:List Int),i+k=x0.length->h1.length<=i->Is (k+1) (i:Int) h1 x0 x1 [⟨.sl (.int .i64),h1++y8 x1 (x0.drop i) i⟩]:=by
 intro k
 induction k with
 | zero =>
  intro i h1 hi hh;rw [Is,if_neg (by simp only [decide_eq_true_eq];omega),dS (by omega),y8,c6]
 | succ k ih =>
  intro i h1 hi hh;have hlt:i<x0.length:=by omega
  have e3:(i:Int)+1=((i+1:Nat):Int):=by omega
  rw [Is,if_pos (by simp only [decide_eq_true_eq];omega),eH x0 i (aC,0,0,()) hlt,y8,e3,aF];generalize x0.getD i (aC,0,0,())=l at *;refine ⟨by omega,by omega,?_⟩;by_cases c:WI l x1=true
  ·have:=ih (i+1) (h1++[(i:Int)]) (by omega) (by rw [aO,cP];omega);refine (if_pos c).mpr ⟨by omega,by rw [aK];omega,?_⟩;rw [if_pos c];rw [bS] at this;exact this
  ·refine (if_neg c).mpr ⟨by rw [aK];omega,?_⟩;rw [if_neg c];exact ih (i+1) h1 (by omega) (by omega)
def bCD:=dR aOt (λ⟨x0,x1,_⟩=>bCC x0 x1) λ⟨x0,x1,_⟩=>[⟨.sl (.int .i64),qU x0 x1⟩]
theorem aVb:c7 365 bCD:=dF bKC (λ⟨x0,x1,_⟩ h hwf K q =>
 (aUZ _ K q ((x0.length+2))).1 (by rw [bCB];exact aVa x0 x1 h x0.length 0 [] (by omega) (bW _)))
noncomputable def aOu:dB:=⟨398,Tryz.f398,[.v (.sl (.int .i64)),.v (.int .i64)],[.int .i64],[],[],false,[]⟩
theorem bKD:FO aOu:=mo Tryz.func398 trivial
def aVc (v8:Int) (x0:List Int) (x1:Int):eD×bG:=([eL 0 (.int .i64) x0,eI 1 x1,eI 7 (x0.length:Int),eI 8 v8],[])
mutual
def aVd:Nat->List Int->Int->List aY->Prop
 | 0,_,_,_=>False
 | n+1,x0,x1,ds=>(It n (0) (x0) (x1) ds)
def It:Nat->Int->List Int->Int->List aY->Prop
 | 0,_,_,_,_=>False
 | n+1,v8,x0,x1,ds=>(if (decide (v8<(x0.length:Int)))=true then ((0<=v8)/\(v8<(x0.length:Int))/\(if (x1==aD x0 (aE v8) 0)=true then (ds=[aP (.int .i64) v8]) else ((cC .i64 (v8+1))/\(It n (v8+1) (x0) (x1) ds)))) else (ds=[aP (.int .i64) (-1)]))
end
theorem aVe (ds:List aY) (K:jK) (q:Nat->Value):∀ n,(∀ {x0 x1},aVd n x0 x1 ds->St aOu (x0,x1,()) ds [] K q)/\(∀ {v8 x0 x1},It n v8 x0 x1 ds->Cu aOu 2 (aVc v8 x0 x1) ds [] K q):=by
 intro n
 induction n with
 | zero=>exact ⟨λh=>h.elim,λh=>h.elim⟩
 | succ n ih =>
 obtain ⟨i,i2⟩:=ih;exact ⟨λh=>jp (i2 h),
  λh=>bR h (λh=>c2 h λh=>bR h (λh=>rh h) λh=>c1 h λh=>jp (i2 h)) λh=>rh h⟩
def Zg (x1:Int) (y:Int):Bool:=x1==y
def WJ (x0:List Int) (x1:Int):Int:=X0 (x0.findIdx? (Zg x1))
def bKE (x0:List Int) (x1:Int):Prop:=True
theorem aVf (x0:List Int) (x1:Int) (hm:x0.length<=maxLen):aVd (x0.length+1+1) x0 x1 [⟨.int .i64,WJ x0 x1⟩]:=by
 rw [aVd];have key:=kJ x0 0 (Zg x1) [(⟨.int .i64, -1⟩:aY)] (λk=>[⟨.int .i64,k⟩]) (λn i ds=>It n i x0 x1 ds) (λn => ?_) (λn i hi hok ds hr => ?_) (λn i hi hok => ?_)
 ·unfold WJ;cases h:x0.findIdx? (Zg x1) <;> rw [h] at key <;> exact key
 ·rw [It,if_neg (by simp)]
 ·rw [It,if_pos (by simp;omega)];simp only [aF];refine ⟨by omega,by omega,?_⟩;unfold Zg at hok;rw [if_neg (by rw [hok];simp)];exact ⟨fC hm hi,hr⟩
 ·rw [It,if_pos (by simp;omega)];simp only [aF];refine ⟨by omega,by omega,?_⟩;unfold Zg at hok;rw [if_pos hok] <;> trivial
def bCE:=dR aOu (λ⟨x0,x1,_⟩=>bKE x0 x1) λ⟨x0,x1,_⟩=>[⟨.int .i64,WJ x0 x1⟩]
theorem aVg:c7 398 bCE:=dF bKD (λ⟨x0,x1,_⟩ h hwf K q =>
 (aVe _ K q _).1 (aVf x0 x1 hwf.1.1))
noncomputable def bCF:dB:=⟨366,Tryz.f366,[.v (.sl (.int .i64)),.v (.int .i64)],[.bool],[],[(398,bCE)],false,[]⟩
theorem bKF:FO bCF:=mo Tryz.func366 ⟨aVg,trivial⟩
def bKG (x0:List Int) (x1:Int):Prop:=True
def WK (x0:List Int) (x1:Int):Bool:=decide (WJ x0 x1>=0)
def bCG:=dR bCF (λ⟨x0,x1,_⟩=>bKG x0 x1) λ⟨x0,x1,_⟩=>[⟨.bool,WK x0 x1⟩]
theorem aVh:c7 366 bCG:=dF bKF λ⟨x0,x1,_⟩ h _ K q=>tv<|rt
end
def aVi:List AT:=[nV (p6 (lF .i64))]
def Ma (x0:List (Int)):List (Int):=x0
def bCH (x0:List (Int)):Prop:=x0.length<=1048576
def bCI:Am.Spec:={ sig:=aVi,pre:=λ⟨x0,_⟩=>bCH x0,res:=λ⟨x0,_⟩=>[⟨p6 (lF .i64),Ma x0⟩] }
theorem aVj:c7 367 bCI:=yB Tryz.func367<|o6 (vO 57) rfl rfl (by decide) (by decide) uY.2.2.2.2.2.2.2.2 rG.2.2.2.2.2.2.2.2
noncomputable section
abbrev Nb:=ByteArray×Int×Int×Unit
def Mb (fl:List Int->Option (List Int)) (x2:List Int):List Int->Option (List Int)
 | []=>none
 | k :: r=>if WK x2 k=true then Mb fl x2 r else match fl (x2++[k]) with
  | some y=>some y
  | none=>Mb fl x2 r
def y9 (x0 x1:List Nb):Nat->List Int->Option (List Int)
 | 0,x2=>some x2
 | m+1,x2=>Mb (y9 x0 x1 m) x2 (qU x0 (x1.getD x2.length (aC,0,0,())))
def Fw (x0 x1:List Nb) (x2:List Int):List Int:=(y9 x0 x1 (x1.length - x2.length) x2).getD []
def Dc (x0 x1:List Nb) (x2:List Int):Bool:=(y9 x0 x1 (x1.length - x2.length) x2).isSome
def Zh (k:Nat) (x0 x1:List Nb) (x2:List Int):Prop:=x2.length<=x1.length/\x1.length+1 - x2.length<=k/\x1.length<=1000/\x0.length<=1000
def UG (k:Nat):Am.Spec:={ sig:=[nV (.sl fP),nV (.sl fP),nV (.sl (.int .i64))],pre:=λ⟨x0,x1,x2,_⟩=>Zh k x0 x1 x2,res:=λ⟨x0,x1,x2,_⟩=>[⟨.sl (.int .i64),Fw x0 x1 x2⟩,⟨.bool,Dc x0 x1 x2⟩],kds:=[.frz,.own] }
def aKF (kk:Nat):sE:=[(365,bCD),(366,bCG),(367,bCI),(317,UG kk)]
theorem aKG (kk:Nat) (ih:Con aL 317 (UG kk)):nQ aL (aKF kk):=⟨aVb,aVh,aVj,ih,trivial⟩
def aVk:List AT:=[nV (.sl fP),nV (.sl fP),nV (.sl (.int .i64))]
def aVl (kk:Nat):dB:=⟨317,Tryz.f317,aVk,[.sl (.int .i64),.bool],[.frz,.own],aKF kk,false,[]⟩
theorem bKH (kk:Nat) (ih:Con aL 317 (UG kk)):Fok aL tab (aVl kk):=⟨XS,vO,(aKG kk ih),mixed⟩
def aVm (v26:Int) (x0:List bX) (x1:List bX) (x2:List Int):eD×bG:=([eL 0 fP x0,eL 1 fP x1,eL 2 (.int .i64) x2,eW 24 0,eI 25 (↑(aN (qU x0 (aD x1 (aE (x2.length:Int)) (aC,0,0,())))):Int),eI 26 v26],[jB (.int .i64) (qU x0 (aD x1 (aE (x2.length:Int)) (aC,0,0,())))])
mutual
def aOv (kk:Nat):Nat->List bX->List bX->List Int->List aY->Prop
 | 0,_,_,_,_=>False
 | n+1,x0,x1,x2,ds=>(if ((x2.length:Int)==(x1.length:Int))=true then (ds=[aP (.sl (.int .i64)) x2,aP .bool true]) else ((0<=(x2.length:Int))/\((x2.length:Int)<(x1.length:Int))/\((bCC x0 (aD x1 (aE (x2.length:Int)) (aC,0,0,())))/\(Iu kk n (0) (x0) (x1) (x2) ds))))
def Iu (kk:Nat):Nat->Int->List bX->List bX->List Int->List aY->Prop
 | 0,_,_,_,_,_=>False
 | n+1,v26,x0,x1,x2,ds=>(if (decide (v26<(↑(aN (qU x0 (aD x1 (aE (x2.length:Int)) (aC,0,0,())))):Int)))=true then ((0<=v26)/\(v26<(↑(aN (qU x0 (aD x1 (aE (x2.length:Int)) (aC,0,0,())))):Int))/\(if (WK x2 (aD (qU x0 (aD x1 (aE (x2.length:Int)) (aC,0,0,()))) (aE v26) 0))=true then ((cC .i64 (v26+1))/\(Iu kk n (v26+1) (x0) (x1) (x2) ds)) else ((bCH x2)/\(((aN (Ma x2)+1)*8<=140737488355328)/\(((UG kk).2 (x0,x1,Ma x2++[aD (qU x0 (aD x1 (aE (x2.length:Int)) (aC,0,0,()))) (aE v26) 0],()))/\(if (Dc x0 x1 (Ma x2++[aD (qU x0 (aD x1 (aE (x2.length:Int)) (aC,0,0,()))) (aE v26) 0]))=true then (ds=[aP (.sl (.int .i64)) (Fw x0 x1 (Ma x2++[aD (qU x0 (aD x1 (aE (x2.length:Int)) (aC,0,0,()))) (aE v26) 0])),aP .bool true]) else ((cC .i64 (v26+1))/\(Iu kk n (v26+1) (x0) (x1) (x2) ds)))))))) else (ds=[aP (.sl (.int .i64)) [],aP .bool false]))
end
theorem aVn (kk:Nat) (ds:List aY) (K:jK) (q:Nat->Value):∀ n,(∀ {x0 x1 x2},aOv kk n x0 x1 x2 ds->St (aVl kk) (x0,x1,x2,()) ds [] K q)/\(∀ {v26 x0 x1 x2},Iu kk n v26 x0 x1 x2 ds->Cu (aVl kk) 4 (aVm v26 x0 x1 x2) ds [] K q):=by
 intro n
 induction n with
 | zero=>exact ⟨λh=>h.elim,λh=>h.elim⟩
 | succ n ih =>
 obtain ⟨i,i4⟩:=ih;exact ⟨λh=>bR h (λh=>rh h) λh=>c2 h λh=>c1 h λh=>jp (i4 h),
  λh=>bR h (λh=>c2 h λh=>tv<|bR h (λh=>c1 h λh=>jp (i4 h)) λh=>c1 h λh=>c1 h λh=>c1 h λh=>bR h (λh=>rh h) λh=>c1 h λh=>jp (i4 h)) λh=>rh h⟩
theorem aOw (kk:Nat) (x0 x1:List Nb) (x2:List Int) (h:Zh (kk+1) x0 x1 x2) (hlt:x2.length<x1.length) (M:Nat) (hM:M+1=x1.length - x2.length) (hks:(qU x0 (x1.getD x2.length (aC,0,0,()))).length<=9000000000):∀ (k i:Nat),i+k=(qU x0 (x1.getD x2.length (aC,0,0,()))).length ->
  Iu kk (k+1) (i:Int) x0 x1 x2 [⟨.sl (.int .i64),(Mb (y9 x0 x1 M) x2 ((qU x0 (x1.getD x2.length (aC,0,0,()))).drop i)).getD []⟩,⟨.bool,(Mb (y9 x0 x1 M) x2 ((qU x0 (x1.getD x2.length (aC,0,0,()))).drop i)).isSome⟩]:=by
 obtain ⟨h1,h2,h3,h4⟩:=h;have e0:aE (x2.length:Int)=x2.length:=aF _;intro k
 induction k with
 | zero =>
  intro i hi;rw [Iu,e0,if_neg (by simp only [decide_eq_true_eq];omega),dS (by omega)];rfl
 | succ k ih =>
  intro i hi;have e3:(i:Int)+1=((i+1:Nat):Int):=by omega
  have ih:=ih (i+1) (by omega);rw [Iu,e0,e3,aF,if_pos (by simp only [decide_eq_true_eq];omega),eH _ i 0 (by omega)];generalize qU x0 (x1.getD x2.length (aC,0,0,()))=ks at *;generalize ks.getD i 0=y at *;refine ⟨by omega,by omega,?_⟩;rw [Mb];by_cases c:WK x2 y=true
  ·simp only [if_pos c];exact ⟨by rw [aK];omega,ih⟩
  ·simp only [if_neg c];refine ⟨show x2.length<=1048576 by omega,show (x2.length+1)*8<=140737488355328 by omega,?_,?_⟩
   ·show (x2++[y]).length<=x1.length/\x1.length+1 - (x2++[y]).length<=kk/\x1.length<=1000/\x0.length<=1000;rw [aO,cP];exact ⟨by omega,by omega,h3,h4⟩
   ·have eM:x1.length - (x2++[y]).length=M:=by
     rw [aO,cP];omega
    have g0:Fw x0 x1 (x2++[y])=(y9 x0 x1 M (x2++[y])).getD []:=by unfold Fw;rw [eM]
    have g1:Dc x0 x1 (x2++[y])=(y9 x0 x1 M (x2++[y])).isSome:=by unfold Dc;rw [eM]
    have gc:Ma x2=x2:=rfl;rw [gc,g0,g1];cases hf:y9 x0 x1 M (x2++[y]) with
    | none =>
     rw [if_neg (by simp)];exact ⟨by rw [aK];omega,ih⟩
    | some z=>exact (if_pos rfl).mpr rfl
theorem aVo (kk:Nat) (x0 x1:List Nb) (x2:List Int) (h:Zh (kk+1) x0 x1 x2) (hks:∀ x,(qU x0 x).length<=9000000000):∃ n,aOv kk n x0 x1 x2 [⟨.sl (.int .i64),Fw x0 x1 x2⟩,⟨.bool,Dc x0 x1 x2⟩]:=by
 have hh:=h;obtain ⟨h1,h2,h3,h4⟩:=h;have e0:aE (x2.length:Int)=x2.length:=aF _;by_cases c:x2.length=x1.length
 ·refine ⟨1,?_⟩;unfold Fw Dc;rw [aOv,if_pos (show ((x2.length:Int)==(x1.length:Int))=true by rw [beq_iff_eq];omega),show x1.length - x2.length=0 by omega];rfl
 ·obtain ⟨M,hM⟩:∃ M,M+1=x1.length - x2.length:=⟨x1.length - x2.length - 1,by omega⟩;have:=aOw kk x0 x1 x2 hh (by omega) M hM (hks _) _ 0 (by rw [cV]);refine ⟨(qU x0 (x1.getD x2.length (aC,0,0,()))).length+1+1,?_⟩;unfold Fw Dc;rw [aOv,if_neg (show ¬ ((x2.length:Int)==(x1.length:Int))=true by rw [beq_iff_eq];omega), <- hM,y9,e0];exact ⟨by omega,by omega,show x0.length<=1000000 by omega,this⟩
theorem aFj (x1:Nb):∀ (l:List Nb) (i:Nat),(y8 x1 l i).length<=l.length
 | [],_=>aT _
 | a :: l,i=>by
  unfold y8;have:=aFj x1 l (i+1);split
  ·simp only [bA];omega
  ·simp only [bA];omega
theorem aFk:∀ k,Con aL 317 (UG k)
 | 0=>yB XS λw G G0 ⟨x0,x1,x2,_⟩ vs bss _ _ _ hp=>by
  obtain ⟨h1,h2,_⟩:Zh 0 x0 x1 x2:=hp;omega
 | k+1=>dF (bKH k (aFk k)) λ⟨x0,x1,x2,_⟩ h hwf K q=>by
  have h':Zh (k+1) x0 x1 x2:=h;obtain ⟨n,hn⟩:=aVo k x0 x1 x2 h' (λx=>by
   have:=aFj x x0 0;have:=h'.2.2.2;show (y8 x x0 0).length<=_;omega)
  have hs:=λds=>aVn k ds K q n;exact (hs _).1 hn
def aVp:Am.Spec:=UG 2000
theorem aVq:c7 317 aVp:=aFk 2000
noncomputable def bCJ:dB:=⟨234,Tryz.f234,[.v (.sl fP),.v (.sl fP)],[.sl (.int .i64),.int .i64],[.frz,.own],[(316,bC8),(317,aVp)],false,[]⟩
theorem bKI:FO bCJ:=mo Tryz.func234 ⟨aUW,aVq,trivial⟩
def aOx (x0:List bX) (x1:List bX):Prop:=(if (Qr x0 x1 != 0)=true then True else ((aVp.2 (x0,x1,[],()))/\True))
def aKH (x0:List bX) (x1:List bX):List Int:=(if (Qr x0 x1 != 0)=true then [] else (if (!Dc x0 x1 [])=true then [] else Fw x0 x1 []))
def aKI (x0:List bX) (x1:List bX):Int:=(if (Qr x0 x1 != 0)=true then Qr x0 x1 else (if (!Dc x0 x1 [])=true then 3 else 0))
def bCK:=dR bCJ (λ⟨x0,x1,_⟩=>aOx x0 x1) λ⟨x0,x1,_⟩=>[⟨.sl (.int .i64),aKH x0 x1⟩,⟨.int .i64,aKI x0 x1⟩]
theorem aVr:c7 234 bCK:=dF bKI λ⟨x0,x1,_⟩ h _ K q=>tv<|o3 h (λh=>rt) λh=>c1 h λh=>e2 (rt) (rt)
noncomputable def bCL:dB:=⟨156,Tryz.f156,[.p vP,.v Gl],[.sl (.int .i64),.int .i64],[.frz,.own],[(231,bCo),(232,bCw),(233,bC6),(234,bCK)],false,[]⟩
theorem bKJ:FO bCL:=mo Tryz.func156 ⟨aUB,aUN,aUV,aVr,trivial⟩
def aDs (x0:fV) (x1:ByteArray×ByteArray×List Int×List Int×Unit):Prop:=(if (aB x1.1==aB (aA #[114,117,110,110,105,110,103]))=true then ((aOk x0.2.2.2.1 x0.2.2.1)/\True) else (if (aB x1.1==aB (aA #[99,111,118,101,114]))=true then ((0<(x1.2.2.1.length:Int))/\((1<(x1.2.2.1.length:Int))/\((bCv x0.2.2.2.2.2.2.1 (aD x1.2.2.1 0 0) (aD x1.2.2.1 1 0))/\True))) else (if (aB x1.1==aB (aA #[113,117,101,117,101]))=true then ((0<(x1.2.2.1.length:Int))/\((1<(x1.2.2.1.length:Int))/\((aOs x1.2.2.2.1 (aD x1.2.2.1 0 0) (aD x1.2.2.1 1 0))/\True))) else ((aOx x0.2.2.2.2.2.2.2.2.2.2.1 x0.2.2.2.2.2.2.2.2.2.2.2.1)/\True))))
def Mc (x0:fV) (x1:ByteArray×ByteArray×List Int×List Int×Unit):List Int:=(if (aB x1.1==aB (aA #[114,117,110,110,105,110,103]))=true then WC x0.2.2.2.1 x0.2.2.1 else (if (aB x1.1==aB (aA #[99,111,118,101,114]))=true then WG x0.2.2.2.2.2.2.1 (aD x1.2.2.1 0 0) (aD x1.2.2.1 1 0) else (if (aB x1.1==aB (aA #[113,117,101,117,101]))=true then aKD x1.2.2.2.1 (aD x1.2.2.1 0 0) (aD x1.2.2.1 1 0) else aKH x0.2.2.2.2.2.2.2.2.2.2.1 x0.2.2.2.2.2.2.2.2.2.2.2.1)))
def Qs (x0:fV) (x1:ByteArray×ByteArray×List Int×List Int×Unit):Int:=(if (aB x1.1==aB (aA #[114,117,110,110,105,110,103]))=true then WD x0.2.2.2.1 x0.2.2.1 else (if (aB x1.1==aB (aA #[99,111,118,101,114]))=true then WF x0.2.2.2.2.2.2.1 (aD x1.2.2.1 0 0) (aD x1.2.2.1 1 0) else (if (aB x1.1==aB (aA #[113,117,101,117,101]))=true then aKE x1.2.2.2.1 (aD x1.2.2.1 0 0) (aD x1.2.2.1 1 0) else aKI x0.2.2.2.2.2.2.2.2.2.2.1 x0.2.2.2.2.2.2.2.2.2.2.2.1)))
def bCM:=dR bCL (λ⟨x0,x1,_⟩=>aDs x0 x1) λ⟨x0,x1,_⟩=>[⟨.sl (.int .i64),Mc x0 x1⟩,⟨.int .i64,Qs x0 x1⟩]
theorem aVs:c7 156 bCM:=dF bKJ λ⟨x0,x1,_⟩ h _ K q=>o3 h (λh=>c1 h λh=>rt) λh=>o3 h (λh=>tP ((by decide):(0:Int)<=(0:Int))<|c1 h λh=>tP ((by decide):(0:Int)<=(1:Int))<|c1 h λh=>c1 h λh=>rt) λh=>o3 h (λh=>tP ((by decide):(0:Int)<=(0:Int))<|c1 h λh=>tP ((by decide):(0:Int)<=(1:Int))<|c1 h λh=>c1 h λh=>rt) λh=>c1 h λh=>rt
noncomputable def aOy:dB:=⟨236,Tryz.f236,[.v (.sl (.int .i64))],[.bool],[],[(239,aJf)],false,[]⟩
theorem bKK:FO aOy:=mo Tryz.func236 ⟨VX,trivial⟩
def aVt (v7:Int) (x0:List Int):eD×bG:=([eL 0 (.int .i64) x0,eL 5 (.int .i64) x0,eI 6 (x0.length:Int),eI 7 v7],[])
mutual
def aVu:Nat->List Int->List aY->Prop
 | 0,_,_=>False
 | n+1,x0,ds=>(Dd n (0) (x0) ds)
def Dd:Nat->Int->List Int->List aY->Prop
 | 0,_,_,_=>False
 | n+1,v7,x0,ds=>(if (decide (v7<(x0.length:Int)))=true then ((0<=v7)/\(v7<(x0.length:Int))/\(if (!rV (aD x0 (aE v7) 0))=true then (ds=[aP .bool false]) else (if (decide (v7>0))=true then ((cC .i64 (v7 - 1))/\((0<=v7 - 1)/\(v7 - 1<(x0.length:Int))/\(if (decide (aD x0 (aE v7) 0<aD x0 (aE (v7 - 1)) 0))=true then (ds=[aP .bool false]) else ((cC .i64 (v7+1))/\(Dd n (v7+1) (x0) ds))))) else ((cC .i64 (v7+1))/\(Dd n (v7+1) (x0) ds))))) else (ds=[aP .bool (decide ((x0.length:Int)<=40))]))
end
theorem aVv (ds:List aY) (K:jK) (q:Nat->Value):∀ n,(∀ {x0},aVu n x0 ds->St aOy (x0,()) ds [] K q)/\(∀ {v7 x0},Dd n v7 x0 ds->Cu aOy 2 (aVt v7 x0) ds [] K q):=by
 intro n
 induction n with
 | zero=>exact ⟨λh=>h.elim,λh=>h.elim⟩
 | succ n ih =>
 obtain ⟨i,i2⟩:=ih;exact ⟨λh=>jp (i2 h),
  λh=>bR h (λh=>c2 h λh=>tv<|bR h (λh=>tT<|rh h) λh=>bR h (λh=>c1 h λh=>c2 h λh=>bR h (λh=>rh h) λh=>c1 h λh=>jp (i2 h)) λh=>tF<|c1 h λh=>jp (i2 h)) λh=>rh h⟩
def UH (x0:List Int) (i:Nat) (x:Int):Bool:=rV x&&(i==0 || !decide (x<x0.getD (i - 1) 0))
def kD (x0:List Int):Bool:=lC (UH x0) 0 x0&&decide ((x0.length:Int)<=40)
def bKL (x0:List Int):Prop:=True
theorem aFl (n i:Nat) (x0:List Int) (hm:x0.length<=maxLen) (hi:i<x0.length) (ds:List aY)
  (h:if UH x0 i (x0.getD i 0)=true then Dd n ((i:Int)+1) x0 ds else ds=[⟨.bool,false⟩]):Dd (n+1) (i:Int) x0 ds:=by
 have hu:=fC hm hi;have hmx:maxLen<=9223372036854775807:=by decide
 rw [Dd,if_pos (by simp only [decide_eq_true_eq];omega),aF];refine ⟨by omega,by omega,?_⟩;unfold UH at h;by_cases h1:rV (x0.getD i 0)=true
 case neg =>
  rw [BE h1] at h;exact (if_pos (by rw [BE h1];rfl)).mpr (by simpa using h)
 refine (if_neg (by rw [h1];decide)).mpr ?_;rw [h1] at h;by_cases h0:(i:Int)>0
 case neg =>
  have hi0:(i==0)=true:=by simp;omega
  rw [hi0] at h;exact (if_neg (by simpa using h0)).mpr ⟨hu,by simpa using h⟩
 have hi0:(i==0)=false:=by simp;omega
 have e:((i:Int) - 1).toNat=i - 1:=by omega
 rw [hi0] at h;refine (if_pos (by simpa using h0)).mpr ⟨by rw [aK];omega,by omega,by omega,?_⟩;rw [e];by_cases h3:x0.getD i 0<x0.getD (i - 1) 0
 ·rw [decide_eq_true h3] at h;exact (if_pos (decide_eq_true h3)).mpr (by simpa using h)
 ·rw [decide_eq_false h3] at h;exact (if_neg (by simpa using h3)).mpr ⟨hu,by simpa using h⟩
theorem aVw (x0:List Int) (hw:x0.length<=maxLen):aVu (x0.length+1+1) x0 [⟨.bool,kD x0⟩]:=by
 rw [aVu];have key:=jU x0 0 (UH x0) [(⟨.bool,false⟩:aY)] [⟨.bool,decide ((x0.length:Int)<=40)⟩] (λn i ds=>Dd n i x0 ds) (λn => ?_) (λn i hi hok ds hr => ?_) (λn i hi hok => ?_)
 ·unfold kD;cases h:lC (UH x0) 0 x0 with
  | true=>rw [if_pos h] at key;simpa using key
  | false=>rw [if_neg (by rw [h];simp)] at key;simpa using key
 ·rw [Dd,if_neg (by simp)]
 ·exact aFl n i x0 hw hi ds (by rw [if_pos hok];exact hr)
 ·exact aFl n i x0 hw hi _ (by rw [if_neg (by rw [hok];simp)])
def bCN:=dR aOy (λ⟨x0,_⟩=>bKL x0) λ⟨x0,_⟩=>[⟨.bool,kD x0⟩]
theorem aVx:c7 236 bCN:=dF bKK (λ⟨x0,_⟩ h hwf K q =>
 (aVv _ K q _).1 (aVw x0 hwf.1.1))
noncomputable def bCO:dB:=⟨369,Tryz.f369,[.v gT,.p .str],[.bool],[],[],false,[]⟩
theorem bKM:FO bCO:=mo Tryz.func369 trivial
def bKN (x0:ByteArray×Int×Int×Int×Unit) (x1:ByteArray):Prop:=True
def Qt (x0:ByteArray×Int×Int×Int×Unit) (x1:ByteArray):Bool:=aB x0.1==aB x1
def bCP:=dR bCO (λ⟨x0,x1,_⟩=>bKN x0 x1) λ⟨x0,x1,_⟩=>[⟨.bool,Qt x0 x1⟩]
theorem aVy:c7 369 bCP:=dF bKM λ⟨x0,x1,_⟩ h _ K q=>rt
noncomputable def K2:dB:=⟨368,Tryz.f368,[.v (.sl gT),.fn 369 [(true,.str)]],[.int .i64],[],[(369,bCP)],false,[]⟩
theorem aKJ:FO K2:=mo Tryz.func368 ⟨aVy,trivial⟩
def aDt (v8:Int) (x0:List dG) (x1:ByteArray):eD×bG:=([eL 0 gT x0,(1,nU 369 [pM .str x1]),eI 7 (x0.length:Int),eI 8 v8],[])
mutual
def Qu:Nat->List dG->ByteArray->List aY->Prop
 | 0,_,_,_=>False
 | n+1,x0,x1,ds=>(tK n (0) (x0) (x1) ds)
def tK:Nat->Int->List dG->ByteArray->List aY->Prop
 | 0,_,_,_,_=>False
 | n+1,v8,x0,x1,ds=>(if (decide (v8<(x0.length:Int)))=true then ((0<=v8)/\(v8<(x0.length:Int))/\(if (Qt (aD x0 (aE v8) (aC,0,0,0,())) x1)=true then (ds=[aP (.int .i64) v8]) else ((cC .i64 (v8+1))/\(tK n (v8+1) (x0) (x1) ds)))) else (ds=[aP (.int .i64) (-1)]))
end
theorem aDu (ds:List aY) (K:jK) (q:Nat->Value):∀ n,(∀ {x0 x1},Qu n x0 x1 ds->St K2 (x0,(x1,()),()) ds [] K q)/\(∀ {v8 x0 x1},tK n v8 x0 x1 ds->Cu K2 2 (aDt v8 x0 x1) ds [] K q):=by
 intro n
 induction n with
 | zero=>exact ⟨λh=>h.elim,λh=>h.elim⟩
 | succ n ih =>
 obtain ⟨i,i2⟩:=ih;exact ⟨λh=>jp (i2 h),
  λh=>bR h (λh=>c2 h λh=>tv<|bR h (λh=>rh h) λh=>c1 h λh=>jp (i2 h)) λh=>rh h⟩
def pA (x0:List dG) (y0:ByteArray):Int:=X0 (x0.findIdx? (λx=>Qt x y0))
def aKK (x0:List dG) (y0:ByteArray):Prop:=True
theorem aDv (x0:List dG) (y0:ByteArray) (hm:x0.length<=maxLen):Qu (x0.length+1+1) x0 y0 [⟨.int .i64,pA x0 y0⟩]:=by
 rw [Qu];have key:=kJ x0 (aC,(0:Int),(0:Int),(0:Int),()) (λx=>Qt x y0) [(⟨.int .i64, -1⟩:aY)] (λk=>[⟨.int .i64,k⟩]) (λn i ds=>tK n i x0 y0 ds) (λn => ?_) (λn i hi hok ds hr => ?_) (λn i hi hok => ?_)
 ·unfold pA;cases h:x0.findIdx? (λx=>Qt x y0) <;> rw [h] at key <;> exact key
 ·rw [tK,if_neg (by simp)]
 ·rw [tK,if_pos (by simp;omega)];simp only [aF];refine ⟨by omega,by omega,?_⟩;rw [if_neg (by rw [hok];simp)];exact ⟨fC hm hi,hr⟩
 ·rw [tK,if_pos (by simp;omega)];simp only [aF];refine ⟨by omega,by omega,?_⟩;rw [if_pos hok] <;> trivial
def Zi:=dR K2 (λ⟨x0,⟨y0,_⟩,_⟩=>aKK x0 y0) λ⟨x0,⟨y0,_⟩,_⟩=>[⟨.int .i64,pA x0 y0⟩]
theorem aDw:c7 368 Zi:=dF aKJ (λ⟨x0,⟨y0,_⟩,_⟩ h hwf K q =>
 (aDu _ K q _).1 (aDv x0 y0 hwf.1.1))
noncomputable def bCQ:dB:=⟨318,Tryz.f318,[.v (.sl gT),.v (.str)],[.cons .str fL,.bool],[],[(368,Zi)],false,[]⟩
theorem bKO:FO bCQ:=mo Tryz.func318 ⟨aDw,trivial⟩
def aVz (x0:List dG) (x1:ByteArray):Prop:=(if (decide (pA x0 x1<0))=true then True else ((0<=pA x0 x1)/\(pA x0 x1<(x0.length:Int))/\True))
def aV0 (x0:List dG) (x1:ByteArray):ByteArray×Int×Int×Int×Unit:=(if (decide (pA x0 x1<0))=true then (aC,0,0,0,()) else aD x0 (aE (pA x0 x1)) (aC,0,0,0,()))
def Qv (x0:List dG) (x1:ByteArray):Bool:=(if (decide (pA x0 x1<0))=true then false else true)
def bCR:=dR bCQ (λ⟨x0,x1,_⟩=>aVz x0 x1) λ⟨x0,x1,_⟩=>[⟨.cons .str fL,aV0 x0 x1⟩,⟨.bool,Qv x0 x1⟩]
theorem aV1:c7 318 bCR:=dF bKO λ⟨x0,x1,_⟩ h _ K q=>tv<|o3 h (λh=>rt) λh=>c2 h λh=>rt
noncomputable def aOz:dB:=⟨235,Tryz.f235,[.v (.sl gT),.v (.bool),.v (.sl .str)],[.int .i64],[],[(65,S65),(318,bCR)],false,[]⟩
theorem bKP:FO aOz:=mo Tryz.func235 ⟨aPQ,aV1,trivial⟩
def aV2 (v20:Int) (x0:List dG) (x2:List ByteArray):eD×bG:=([eL 0 gT x0,eL 18 .str x2,eI 19 (x2.length:Int),eI 20 v20],[])
mutual
def aV3:Nat->List dG->Bool->List ByteArray->List aY->Prop
 | 0,_,_,_,_=>False
 | n+1,x0,x1,x2,ds=>(if (!qK x0)=true then (ds=[aP (.int .i64) 1]) else (if (!x1)=true then (ds=[aP (.int .i64) 2]) else (Iv n (0) (x0) (x2) ds)))
def Iv:Nat->Int->List dG->List ByteArray->List aY->Prop
 | 0,_,_,_,_=>False
 | n+1,v20,x0,x2,ds=>(if (decide (v20<(x2.length:Int)))=true then ((0<=v20)/\(v20<(x2.length:Int))/\((aVz x0 (aD x2 (aE v20) aC))/\(if (!Qv x0 (aD x2 (aE v20) aC))=true then (ds=[aP (.int .i64) 3]) else ((cC .i64 (v20+1))/\(Iv n (v20+1) (x0) (x2) ds))))) else (ds=[aP (.int .i64) 0]))
end
theorem aV4 (ds:List aY) (K:jK) (q:Nat->Value):∀ n,(∀ {x0 x1 x2},aV3 n x0 x1 x2 ds->St aOz (x0,x1,x2,()) ds [] K q)/\(∀ {v20 x0 x2},Iv n v20 x0 x2 ds->Cu aOz 6 (aV2 v20 x0 x2) ds [] K q):=by
 intro n
 induction n with
 | zero=>exact ⟨λh=>h.elim,λh=>h.elim⟩
 | succ n ih =>
 obtain ⟨i,i6⟩:=ih;exact ⟨λh=>tv<|bR h (λh=>rh h) λh=>bR h (λh=>rh h) λh=>jp (i6 h),
  λh=>bR h (λh=>c2 h λh=>c1 h λh=>bR h (λh=>rh h) λh=>c1 h λh=>jp (i6 h)) λh=>rh h⟩
def nO (x0:List dG) (x1:Bool) (x2:List ByteArray):Int:=if (!qK x0)=true then 1 else if (!x1)=true then 2 else if (x2.all λy=>Qv x0 y)=true then 0 else 3
def aO0 (x0:List dG) (x1:Bool) (x2:List ByteArray):Prop:=∀ y∈x2,aVz x0 y
theorem aV5 (x0:List dG) (x1:Bool) (x2:List ByteArray) (h:aO0 x0 x1 x2) (hm:x2.length<=maxLen):aV3 (x2.length+1+1) x0 x1 x2 [⟨.int .i64,nO x0 x1 x2⟩]:=by
 rw [aV3];unfold nO;by_cases h1:(!qK x0)=true
 ·rw [if_pos h1,if_pos h1]
 rw [if_neg h1,if_neg h1];by_cases h2:(!x1)=true
 ·rw [if_pos h2,if_pos h2]
 rw [if_neg h2,if_neg h2];have key:=Gi x2 aC (λy=>Qv x0 y) [(⟨.int .i64,3⟩:aY)] [⟨.int .i64,0⟩] (λn i ds=>Iv n i x0 x2 ds) (λn => ?_) (λn i hi hok ds hr => ?_) (λn i hi hok => ?_)
 ·cases hh:x2.all (λy=>Qv x0 y) <;> rw [hh] at key <;> simpa using key
 ·rw [Iv,if_neg (by simp)]
 ·rw [Iv,if_pos (by simp;omega)];simp only [aF];refine ⟨by omega,by omega,h _ (dN x2 i aC hi),?_⟩;rw [if_neg (by rw [hok];simp)];exact ⟨fC hm hi,hr⟩
 ·rw [Iv,if_pos (by simp;omega)];simp only [aF];refine ⟨by omega,by omega,h _ (dN x2 i aC hi),?_⟩;rw [if_pos (by rw [hok];rfl)] <;> trivial
def bCS:=dR aOz (λ⟨x0,x1,x2,_⟩=>aO0 x0 x1 x2) λ⟨x0,x1,x2,_⟩=>[⟨.int .i64,nO x0 x1 x2⟩]
theorem aV6:c7 235 bCS:=dF bKP (λ⟨x0,x1,x2,_⟩ h hwf K q =>
 (aV4 _ K q _).1 (aV5 x0 x1 x2 h hwf.2.2.1.1))
noncomputable def bCT:dB:=⟨319,Tryz.f319,[.v (.sl (.int .i64))],[.int .i64],[],[],false,[]⟩
theorem bKQ:FO bCT:=mo Tryz.func319 trivial
def bKR (x0:List Int):Prop:=True
def aKL (x0:List Int):Int:=(x0.length:Int)
def bCU:=dR bCT (λ⟨x0,_⟩=>bKR x0) λ⟨x0,_⟩=>[⟨.int .i64,aKL x0⟩]
theorem aV7:c7 319 bCU:=dF bKQ λ⟨x0,_⟩ h _ K q=>rt
noncomputable def aO1:dB:=⟨237,Tryz.f237,[.v (.sl gT),.v (.sl (.int .i64))],[.cons .str fL,.bool],[],[(319,bCU)],false,[]⟩
theorem bKS:FO aO1:=mo Tryz.func237 ⟨aV7,trivial⟩
def aV8 (v7:Bool) (v14:Int) (h1:ByteArray×Int×Int×Int×Unit) (x1:List Int) (x0:List dG):eD×bG:=([eL 1 (.int .i64) x1,eO 4 0 0 [],eO 6 1 0 [],eB 7 v7,eL 12 gT x0,eI 13 (x0.length:Int),eI 14 v14],[some (fY gT [(aC,0,0,0,())] true none (some false)),some (fY gT [h1] true none (some false))])
mutual
def bCV:Nat->List dG->List Int->List aY->Prop
 | 0,_,_,_=>False
 | n+1,x0,x1,ds=>(yM n (false) (0) ((aC,0,0,0,())) (x1) (x0) ds)
def yM:Nat->Bool->Int->ByteArray×Int×Int×Int×Unit->List Int->List dG->List aY->Prop
 | 0,_,_,_,_,_,_=>False
 | n+1,v7,v14,h1,x1,x0,ds=>(if (decide (v14<(x0.length:Int)))=true then ((0<=v14)/\(v14<(x0.length:Int))/\(if (decide ((aD x0 (aE v14) (aC,0,0,0,())).2.2.1>=aKL x1))=true then ((cC .i64 ((x1.length:Int) - 1))/\((0<=(x1.length:Int) - 1)/\((x1.length:Int) - 1<(x1.length:Int))/\((0<(x1.length:Int))/\((cC .i64 (aD x1 (aE ((x1.length:Int) - 1)) 0 - aD x1 0 0))/\(if (decide (aD x1 (aE ((x1.length:Int) - 1)) 0 - aD x1 0 0<(aD x0 (aE v14) (aC,0,0,0,())).2.2.2.1))=true then (if (!v7)=true then ((cC .i64 (v14+1))/\(yM n (true) (v14+1) (aD x0 (aE v14) (aC,0,0,0,())) (x1) (x0) ds)) else (if (decide ((aD x0 (aE v14) (aC,0,0,0,())).2.1<h1.2.1))=true then ((cC .i64 (v14+1))/\(yM n (true) (v14+1) (aD x0 (aE v14) (aC,0,0,0,())) (x1) (x0) ds)) else ((cC .i64 (v14+1))/\(yM n (v7) (v14+1) (h1) (x1) (x0) ds)))) else ((cC .i64 (v14+1))/\(yM n (v7) (v14+1) (h1) (x1) (x0) ds))))))) else ((cC .i64 (v14+1))/\(yM n (v7) (v14+1) (h1) (x1) (x0) ds)))) else (ds=[aP gT h1,aP .bool v7]))
end
theorem aV9 (ds:List aY) (K:jK) (q:Nat->Value):∀ n,(∀ {x0 x1},bCV n x0 x1 ds->St aO1 (x0,x1,()) ds [] K q)/\(∀ {v7 v14 h1 x1 x0},yM n v7 v14 h1 x1 x0 ds->Cu aO1 3 (aV8 v7 v14 h1 x1 x0) ds [] K q):=by
 intro n
 induction n with
 | zero=>exact ⟨λh=>h.elim,λh=>h.elim⟩
 | succ n ih =>
 obtain ⟨i,i3⟩:=ih;exact ⟨λh=>jp (i3 h),
  λ{v7} {v14} {h1} {x1} {x0} h=>bR h (λh=>c2 h λh=>tv<|bR h (λh=>c1 h λh=>c2 h λh=>tP ((by decide):(0:Int)<=(0:Int))<|c1 h λh=>c1 h λh=>bR h (λh=>bR h (λh=>tT<|c1 h λh=>jp (i3 h)) λh=>bR h (λh=>c1 h λh=>jp (i3 h)) λh=>c1 h λh=>jp (i3 h)) λh=>tF<|c1 h λh=>jp (i3 h)) λh=>tF<|tF<|c1 h λh=>jp (i3 h)) λh=>rh h⟩
abbrev EY:=ByteArray×Int×Int×Int×Unit
abbrev aFm:Ty := .cons .str (.cons (.int .i64) (.cons (.int .i64) (.cons (.int .i64) .unit)))
def WL (x1:List Int) (f:EY):Bool:=decide (f.2.2.1>=(x1.length:Int))&&decide (x1.getD (x1.length - 1) 0 - x1.getD 0 0<f.2.2.2.1)
def qV (x1:List Int) (s:Bool×EY) (f:EY):Bool×EY:=if WL x1 f=true then (if (!s.1)=true then (true,f) else if decide (f.2.1<s.2.2.1)=true then (true,f) else s) else s
def Md (x0:List EY) (x1:List Int):Bool×EY:=x0.foldl (qV x1) (false,(aC,0,0,0,()))
def jO (x0:List EY) (x1:List Int):EY:=(Md x0 x1).2
def tL (x0:List EY) (x1:List Int):Bool:=(Md x0 x1).1
def aKM (x0:List EY) (x1:List Int):Prop:=1<=x1.length/\∀ y∈x1,0<=y/\y<=1000000000
theorem aVA (x0:List EY) (x1:List Int) (hm:x0.length<=maxLen) (hm1:x1.length<=maxLen) (h:aKM x0 x1):∀ (k i:Nat) (s:Bool×EY),i+k=x0.length->yM (k+1) s.1 (i:Int) s.2 x1 x0 [⟨aFm,((x0.drop i).foldl (qV x1) s).2⟩,⟨.bool,((x0.drop i).foldl (qV x1) s).1⟩]:=by
 have hmx:maxLen<=9223372036854775807:=by decide
 obtain ⟨h1,h2⟩:=h;intro k
 induction k with
 | zero =>
  intro i s hi;rw [yM,if_neg (by simp only [decide_eq_true_eq];omega),dS (by omega)];rfl
 | succ k ih =>
  intro i s hi;have hlt:i<x0.length:=by omega
  have hu:=fC hm hlt;have e3:(i:Int)+1=((i+1:Nat):Int):=by omega
  have e4:aE ((x1.length:Int) - 1)=x1.length - 1:=by omega
  have b1:=h2 _ (dN x1 (x1.length - 1) 0 (by omega));have b2:=h2 _ (dN x1 0 0 (by omega));have ih:=λs=>ih (i+1) s (by omega);rw [e3] at hu;rw [yM,if_pos (by simp only [decide_eq_true_eq];omega),eH x0 i (aC,0,0,0,()) hlt,dY,e3,e4,aF];generalize x0.getD i (aC,0,0,0,())=f at *;refine ⟨by omega,by omega,?_⟩;have no:qV x1 s f=s->cC .i64 ((i+1:Nat):Int)/\yM (k+1) s.1 ((i+1:Nat):Int) s.2 x1 x0 [⟨aFm,((x0.drop (i+1)).foldl (qV x1) (qV x1 s f)).2⟩,⟨.bool,((x0.drop (i+1)).foldl (qV x1) (qV x1 s f)).1⟩]:=λe=>by
   rw [e];exact ⟨hu,ih s⟩
  have yes:qV x1 s f=(true,f)->cC .i64 ((i+1:Nat):Int)/\yM (k+1) true ((i+1:Nat):Int) f x1 x0 [⟨aFm,((x0.drop (i+1)).foldl (qV x1) (qV x1 s f)).2⟩,⟨.bool,((x0.drop (i+1)).foldl (qV x1) (qV x1 s f)).1⟩]:=λe=>by
   rw [e];exact ⟨hu,ih (true,f)⟩
  have hx:qV x1 s f=if (decide (f.2.2.1>=(x1.length:Int))&&decide (x1.getD (x1.length - 1) 0 - x1.getD 0 0<f.2.2.2.1))=true then (if (!s.1)=true then (true,f) else if decide (f.2.1<s.2.2.1)=true then (true,f) else s) else s:=rfl
  by_cases c1:decide (f.2.2.1>=(x1.length:Int))=true
  ·refine (if_pos c1).mpr ⟨by rw [aK];omega,by omega,by omega,by omega,by rw [aK];omega,?_⟩;by_cases c2:decide (x1.getD (x1.length - 1) 0 - x1.getD 0 0<f.2.2.2.1)=true
   ·refine (if_pos c2).mpr ?_;rw [c1,c2,Bool.and_true,if_pos rfl] at hx;by_cases c3:(!s.1)=true
    ·exact (if_pos c3).mpr (yes (by rw [hx,if_pos c3]))
    ·refine (if_neg c3).mpr ?_;rw [if_neg c3] at hx;by_cases c4:decide (f.2.1<s.2.2.1)=true
     ·exact (if_pos c4).mpr (yes (by rw [hx,if_pos c4]))
     ·exact (if_neg c4).mpr (no (by rw [hx,if_neg c4]))
   ·exact (if_neg c2).mpr (no (by rw [hx,BE c2,Bool.and_false,if_neg (by decide)]))
  ·exact (if_neg c1).mpr (no (by rw [hx,BE c1,Bool.false_and,if_neg (by decide)]))
def bCW:=dR aO1 (λ⟨x0,x1,_⟩=>aKM x0 x1) λ⟨x0,x1,_⟩=>[⟨aFm,jO x0 x1⟩,⟨.bool,tL x0 x1⟩]
theorem aVB:c7 237 bCW:=dF bKS (λ⟨x0,x1,_⟩ h hwf K q =>
 (aV9 _ K q ((x0.length+2))).1 (by rw [bCV];exact aVA x0 x1 hwf.1.1 hwf.2.1.1 h x0.length 0 (false,(aC,0,0,0,())) (by omega)))
noncomputable def aG9:dB:=⟨157,Tryz.f157,[.v (.sl gT),.v (.sl (.int .i64))],[.int .i64,.sl .str,.int .i64],[],[(236,bCN),(235,bCS),(237,bCW)],false,[]⟩
theorem bKT:FO aG9:=mo Tryz.func157 ⟨aVx,aV6,aVB,trivial⟩
def aVC (v11:Int) (h0:List Int) (h1:List Int) (x0:List dG) (x1:List Int):eD×bG:=([eL 0 gT x0,eL 1 (.int .i64) x1,eI 8 (x1.length:Int),eW 9 0,eW 10 1,eI 11 v11],[jB (.int .i64) h0,jB (.int .i64) h1])
def aO2 (v12:Int) (h0:List Int) (h1:List Int) (x0:List dG) (x1:List Int) (v11:Int):eD×bG:=([eL 0 gT x0,eL 1 (.int .i64) x1,eI 8 (x1.length:Int),eW 9 0,eW 10 1,eI 11 v11,eI 12 v12],[jB (.int .i64) h0,jB (.int .i64) h1])
def aO3 (v16:Int) (h2:List ByteArray) (x0:List dG) (x1:List Int) (h0:List Int) (h1:List Int):eD×bG:=([eL 0 gT x0,eL 1 (.int .i64) x1,eI 8 (x1.length:Int),eW 9 0,eW 10 1,eW 15 2,eI 16 v16],[jB (.int .i64) h0,jB (.int .i64) h1,jB .str h2])
mutual
def aKN:Nat->List dG->List Int->List aY->Prop
 | 0,_,_,_=>False
 | n+1,x0,x1,ds=>((aO0 x0 (kD x1) [])/\(if (nO x0 (kD x1) [] != 0)=true then (ds=[aP (.int .i64) 0,aP (.sl .str) [],aP (.int .i64) (nO x0 (kD x1) [])]) else (if ((x0.length:Int)==0)=true then (if (decide ((x1.length:Int)>0))=true then (ds=[aP (.int .i64) 0,aP (.sl .str) [],aP (.int .i64) 3]) else ((cC .i64 ((x1.length:Int)+1))/\((cC .i64 ((x1.length:Int)+1))/\((0<=(x1.length:Int)+1)/\((x1.length:Int)+1<=(x1.length:Int)+1)/\(8*((x1.length:Int)+1)<=281474976710656)/\(0<=(x1.length:Int)+1)/\((x1.length:Int)+1<=(x1.length:Int)+1)/\(8*((x1.length:Int)+1)<=281474976710656)/\((cC .i64 ((x1.length:Int) - 1))/\(De n ((x1.length:Int) - 1) (b6 (aE ((x1.length:Int)+1)) 0) (b6 (aE ((x1.length:Int)+1)) 0) (x0) (x1) ds)))))) else ((cC .i64 ((x1.length:Int)+1))/\((cC .i64 ((x1.length:Int)+1))/\((0<=(x1.length:Int)+1)/\((x1.length:Int)+1<=(x1.length:Int)+1)/\(8*((x1.length:Int)+1)<=281474976710656)/\(0<=(x1.length:Int)+1)/\((x1.length:Int)+1<=(x1.length:Int)+1)/\(8*((x1.length:Int)+1)<=281474976710656)/\((cC .i64 ((x1.length:Int) - 1))/\(De n ((x1.length:Int) - 1) (b6 (aE ((x1.length:Int)+1)) 0) (b6 (aE ((x1.length:Int)+1)) 0) (x0) (x1) ds))))))))
def De:Nat->Int->List Int->List Int->List dG->List Int->List aY->Prop
 | 0,_,_,_,_,_,_=>False
 | n+1,v11,h0,h1,x0,x1,ds=>(if (decide (v11>=0))=true then ((cC .i64 (v11+1))/\(xE n (v11+1) (h0) (h1) (x0) (x1) (v11) ds)) else (Gr n (0) ([]) (x0) (x1) (h0) (h1) ds))
def xE:Nat->Int->List Int->List Int->List dG->List Int->Int->List aY->Prop
 | 0,_,_,_,_,_,_,_=>False
 | n+1,v12,h0,h1,x0,x1,v11,ds=>(if (decide (v12<=(x1.length:Int)))=true then ((0<=v11)/\(v11<=v12)/\(v12<=(x1.length:Int))/\((aKM x0 (dE (aE v11) (dH (aE v12) x1)))/\(if (tL x0 (dE (aE v11) (dH (aE v12) x1)))=true then ((cC .i64 (v11+1))/\(if (v12==v11+1)=true then ((0<=v12)/\(v12<(h0.length:Int))/\((cC .i64 ((jO x0 (dE (aE v11) (dH (aE v12) x1))).2.1+aD h0 (aE v12) 0))/\(0<=v11)/\(v11<(h0.length:Int))/\(0<=v11)/\(v11<(h1.length:Int))/\((cC .i64 (v12+1))/\(xE n (v12+1) (vA h0 (aE v11) ((jO x0 (dE (aE v11) (dH (aE v12) x1))).2.1+aD h0 (aE v12) 0)) (vA h1 (aE v11) v12) (x0) (x1) (v11) ds)))) else ((0<=v12)/\(v12<(h0.length:Int))/\((cC .i64 ((jO x0 (dE (aE v11) (dH (aE v12) x1))).2.1+aD h0 (aE v12) 0))/\((0<=v11)/\(v11<(h0.length:Int))/\(if (decide ((jO x0 (dE (aE v11) (dH (aE v12) x1))).2.1+aD h0 (aE v12) 0<=aD h0 (aE v11) 0))=true then ((0<=v12)/\(v12<(h0.length:Int))/\((cC .i64 ((jO x0 (dE (aE v11) (dH (aE v12) x1))).2.1+aD h0 (aE v12) 0))/\(0<=v11)/\(v11<(h0.length:Int))/\(0<=v11)/\(v11<(h1.length:Int))/\((cC .i64 (v12+1))/\(xE n (v12+1) (vA h0 (aE v11) ((jO x0 (dE (aE v11) (dH (aE v12) x1))).2.1+aD h0 (aE v12) 0)) (vA h1 (aE v11) v12) (x0) (x1) (v11) ds)))) else ((cC .i64 (v12+1))/\(xE n (v12+1) (h0) (h1) (x0) (x1) (v11) ds)))))))) else ((cC .i64 (v12+1))/\(xE n (v12+1) (h0) (h1) (x0) (x1) (v11) ds))))) else ((cC .i64 (v11 - 1))/\(De n (v11 - 1) (h0) (h1) (x0) (x1) ds)))
def Gr:Nat->Int->List ByteArray->List dG->List Int->List Int->List Int->List aY->Prop
 | 0,_,_,_,_,_,_,_=>False
 | n+1,v16,h2,x0,x1,h0,h1,ds=>(if (decide (v16<(x1.length:Int)))=true then ((0<=v16)/\(v16<(h1.length:Int))/\((0<=v16)/\(v16<=aD h1 (aE v16) 0)/\(aD h1 (aE v16) 0<=(x1.length:Int))/\((aKM x0 (dE (aE v16) (dH (aE (aD h1 (aE v16) 0)) x1)))/\(((aN h2+1)*16<=140737488355328)/\((0<=v16)/\(v16<(h1.length:Int))/\(Gr n (aD h1 (aE v16) 0) (h2++[(jO x0 (dE (aE v16) (dH (aE (aD h1 (aE v16) 0)) x1))).1]) (x0) (x1) (h0) (h1) ds)))))) else ((0<(h0.length:Int))/\(ds=[aP (.int .i64) (aD h0 0 0),aP (.sl .str) h2,aP (.int .i64) 0])))
end
theorem aVD (ds:List aY) (K:jK) (q:Nat->Value):∀ n,(∀ {x0 x1},aKN n x0 x1 ds->St aG9 (x0,x1,()) ds [] K q)/\(∀ {v11 h0 h1 x0 x1},De n v11 h0 h1 x0 x1 ds->Cu aG9 9 (aVC v11 h0 h1 x0 x1) ds [] K q)/\(∀ {v12 h0 h1 x0 x1 v11},xE n v12 h0 h1 x0 x1 v11 ds->Cu aG9 12 (aO2 v12 h0 h1 x0 x1 v11) ds [] K q)/\(∀ {v16 h2 x0 x1 h0 h1},Gr n v16 h2 x0 x1 h0 h1 ds->Cu aG9 19 (aO3 v16 h2 x0 x1 h0 h1) ds [] K q):=by
 intro n
 induction n with
 | zero=>exact ⟨λh=>h.elim,λh=>h.elim,λh=>h.elim,λh=>h.elim⟩
 | succ n ih =>
 obtain ⟨i,i9,i12,i19⟩:=ih;exact ⟨λ{x0} {x1} h=>tv<|c1 h λh=>bR h (λh=>rh h) λh=>bR h (λh=>bR h (λh=>rh h) λh=>c1 h λh=>c1 h λh=>cS h λs3 h=>cS h λs4 h=>cS h λs5 h=>c3 h λh=>tP s3<|tP s4<|tP s5<|tP s3<|tP s4<|tP s5<|tP (VQ [eL 0 gT x0,eL 1 (.int .i64) x1,eI 4 0,(5,.a (.val (.slice none 0 0))),eI 6 0,eI 7 (nO x0 (kD x1) []),eI 8 (x1.length:Int),eW 9 0,eW 10 1,eL 19 gT x0,eL 20 (.int .i64) x1,eB 21 (kD x1),eI 22 (nO x0 (kD x1) []),eI 23 (nO x0 (kD x1) []),eB 24 (nO x0 (kD x1) [] != 0),eL 26 (.int .i64) x1,eI 27 (x1.length:Int),eL 28 gT x0,eI 29 (x0.length:Int),eB 30 ((x0.length:Int)==0),eB 31 ((x0.length:Int)==0),eI 32 (x1.length:Int),eB 33 (decide ((x1.length:Int)>0)),eB 34 (decide ((x1.length:Int)>0)),eI 35 (x1.length:Int),eI 36 ((x1.length:Int)+1),eW 37 0,eI 38 (x1.length:Int),eI 39 ((x1.length:Int)+1),eW 40 1] [jB (.int .i64) (b6 (aE ((x1.length:Int)+1)) 0),jB (.int .i64) (b6 (aE ((x1.length:Int)+1)) 0)])<|c1 h λh=>jp (i9 h)) λh=>tF<|c1 h λh=>c1 h λh=>cS h λs3 h=>cS h λs4 h=>cS h λs5 h=>c3 h λh=>tP s3<|tP s4<|tP s5<|tP s3<|tP s4<|tP s5<|tP (VQ [eL 0 gT x0,eL 1 (.int .i64) x1,eI 4 0,(5,.a (.val (.slice none 0 0))),eI 6 0,eI 7 (nO x0 (kD x1) []),eI 8 (x1.length:Int),eW 9 0,eW 10 1,eL 19 gT x0,eL 20 (.int .i64) x1,eB 21 (kD x1),eI 22 (nO x0 (kD x1) []),eI 23 (nO x0 (kD x1) []),eB 24 (nO x0 (kD x1) [] != 0),eL 26 (.int .i64) x1,eI 27 (x1.length:Int),eL 28 gT x0,eI 29 (x0.length:Int),eB 30 ((x0.length:Int)==0),eB 31 ((x0.length:Int)==0),(32,.a (.val (.tuple #[]))),(33,.a (.val (.tuple #[]))),eB 34 false,eI 35 (x1.length:Int),eI 36 ((x1.length:Int)+1),eW 37 0,eI 38 (x1.length:Int),eI 39 ((x1.length:Int)+1),eW 40 1] [jB (.int .i64) (b6 (aE ((x1.length:Int)+1)) 0),jB (.int .i64) (b6 (aE ((x1.length:Int)+1)) 0)])<|c1 h λh=>jp (i9 h),
  λh=>bR h (λh=>c1 h λh=>jp (i12 h)) λh=>jn [(15,.str)] (i19 h),
  λ{v12} {h0} {h1} {x0} {x1} {v11} h=>bR h (λh=>cS h λs0 h=>c2 h λh=>c1 h λh=>bR h (λh=>c1 h λh=>bR h (λh=>tT<|c2 h λh=>cS h λs7 h=>c1 h λh=>cS h λs9 h=>c1 h λh=>cS h λs11 h=>tP s7<|tP s0<|tP s9<|tP s0<|tP s11<|tP (VQ [eL 0 gT x0,eL 1 (.int .i64) x1,eI 8 (x1.length:Int),eW 9 0,eW 10 1,eI 11 v11,eI 12 v12,eO 13 2 0 [],eB 14 (tL x0 (dE (aE v11) (dH (aE v12) x1))),eI 49 v12,eI 50 (x1.length:Int),eB 51 (decide (v12<=(x1.length:Int))),(54,gO [pE gT (jO x0 (dE (aE v11) (dH (aE v12) x1))),N2 (tL x0 (dE (aE v11) (dH (aE v12) x1)))]),eL 55 gT x0,eL 56 (.int .i64) x1,eI 57 v11,eI 58 v12,eL 59 (.int .i64) (dE (aE v11) (dH (aE v12) x1)),(60,gO [pE gT (jO x0 (dE (aE v11) (dH (aE v12) x1))),N2 (tL x0 (dE (aE v11) (dH (aE v12) x1)))]),eT 61 gT (jO x0 (dE (aE v11) (dH (aE v12) x1))),eB 62 (tL x0 (dE (aE v11) (dH (aE v12) x1))),eB 63 (tL x0 (dE (aE v11) (dH (aE v12) x1))),eB 64 (tL x0 (dE (aE v11) (dH (aE v12) x1))),eI 65 v12,eI 66 v11,eI 67 (v11+1),eB 68 (v12==v11+1),eB 69 (v12==v11+1),(70,.a (.val (.tuple #[]))),(71,.a (.val (.tuple #[]))),(72,.a (.val (.tuple #[]))),(73,.a (.val (.tuple #[]))),(74,.a (.val (.tuple #[]))),(75,.a (.val (.tuple #[]))),(76,.a (.val (.tuple #[]))),(77,.a (.val (.tuple #[]))),(78,.a (.val (.tuple #[]))),(79,.a (.val (.tuple #[]))),(80,.a (.val (.tuple #[]))),(81,.a (.val (.tuple #[]))),eB 82 true,eB 83 true,eW 84 0,eI 85 v11,eW 86 1,eI 87 v11,eO 88 2 0 [1],eI 89 (jO x0 (dE (aE v11) (dH (aE v12) x1))).2.1,eW 90 0,eI 91 v12,eO 92 0 (aE v12) [],eI 93 (aD h0 (aE v12) 0),eI 94 ((jO x0 (dE (aE v11) (dH (aE v12) x1))).2.1+aD h0 (aE v12) 0),eI 95 v12,eO 96 0 (aE v11) [],eO 97 1 (aE v11) []] [jB (.int .i64) (vA h0 (aE v11) ((jO x0 (dE (aE v11) (dH (aE v12) x1))).2.1+aD h0 (aE v12) 0)),jB (.int .i64) (vA h1 (aE v11) v12),some (fY gT [jO x0 (dE (aE v11) (dH (aE v12) x1))] true none (some false))])<|c1 h λh=>jp (i12 h)) λh=>c2 h λh=>cS h λs7 h=>c1 h λh=>cS h λs9 h=>bR h (λh=>c2 h λh=>c4 h λh=>cS h λs16 h=>tP s7<|tP s0<|tP s9<|tP s0<|tP s16<|tP (VQ [eL 0 gT x0,eL 1 (.int .i64) x1,eI 8 (x1.length:Int),eW 9 0,eW 10 1,eI 11 v11,eI 12 v12,eO 13 2 0 [],eB 14 (tL x0 (dE (aE v11) (dH (aE v12) x1))),eI 49 v12,eI 50 (x1.length:Int),eB 51 (decide (v12<=(x1.length:Int))),(54,gO [pE gT (jO x0 (dE (aE v11) (dH (aE v12) x1))),N2 (tL x0 (dE (aE v11) (dH (aE v12) x1)))]),eL 55 gT x0,eL 56 (.int .i64) x1,eI 57 v11,eI 58 v12,eL 59 (.int .i64) (dE (aE v11) (dH (aE v12) x1)),(60,gO [pE gT (jO x0 (dE (aE v11) (dH (aE v12) x1))),N2 (tL x0 (dE (aE v11) (dH (aE v12) x1)))]),eT 61 gT (jO x0 (dE (aE v11) (dH (aE v12) x1))),eB 62 (tL x0 (dE (aE v11) (dH (aE v12) x1))),eB 63 (tL x0 (dE (aE v11) (dH (aE v12) x1))),eB 64 (tL x0 (dE (aE v11) (dH (aE v12) x1))),eI 65 v12,eI 66 v11,eI 67 (v11+1),eB 68 (v12==v11+1),eB 69 (v12==v11+1),eO 70 2 0 [1],eI 71 (jO x0 (dE (aE v11) (dH (aE v12) x1))).2.1,eW 72 0,eI 73 v12,eO 74 0 (aE v12) [],eI 75 (aD h0 (aE v12) 0),eI 76 ((jO x0 (dE (aE v11) (dH (aE v12) x1))).2.1+aD h0 (aE v12) 0),eW 77 0,eI 78 v11,eO 79 0 (aE v11) [],eI 80 (aD h0 (aE v11) 0),eB 81 (decide ((jO x0 (dE (aE v11) (dH (aE v12) x1))).2.1+aD h0 (aE v12) 0<=aD h0 (aE v11) 0)),eB 82 (decide ((jO x0 (dE (aE v11) (dH (aE v12) x1))).2.1+aD h0 (aE v12) 0<=aD h0 (aE v11) 0)),eB 83 (decide ((jO x0 (dE (aE v11) (dH (aE v12) x1))).2.1+aD h0 (aE v12) 0<=aD h0 (aE v11) 0)),eW 84 0,eI 85 v11,eW 86 1,eI 87 v11,eO 88 2 0 [1],eI 89 (jO x0 (dE (aE v11) (dH (aE v12) x1))).2.1,eW 90 0,eI 91 v12,eO 92 0 (aE v12) [],eI 93 (aD h0 (aE v12) 0),eI 94 ((jO x0 (dE (aE v11) (dH (aE v12) x1))).2.1+aD h0 (aE v12) 0),eI 95 v12,eO 96 0 (aE v11) [],eO 97 1 (aE v11) []] [jB (.int .i64) (vA h0 (aE v11) ((jO x0 (dE (aE v11) (dH (aE v12) x1))).2.1+aD h0 (aE v12) 0)),jB (.int .i64) (vA h1 (aE v11) v12),some (fY gT [jO x0 (dE (aE v11) (dH (aE v12) x1))] true none (some false))])<|c1 h λh=>jp (i12 h)) λh=>c1 h λh=>jp (i12 h)) λh=>tF<|c1 h λh=>jp (i12 h)) λh=>c1 h λh=>jp (i9 h),
  λ{v16} {h2} {x0} {x1} {h0} {h1} h=>bR h (λh=>c2 h λh=>c3 h λh=>c1 h λh=>c1 h λh=>c2 h λh=>jn [(15,.str)] (i19 h)) λh=>tP ((by decide):(0:Int)<=(0:Int))<|c1 h λh=>rh h⟩
abbrev oA:=ByteArray×Int×Int×Int×Unit
abbrev Fx (x1:List Int) (a b:Nat):List Int:=(x1.take b).drop a
abbrev Zj (x0:List oA) (x1:List Int) (a b:Nat):Bool:=tL x0 (Fx x1 a b)
abbrev EZ (x0:List oA) (x1:List Int) (a b:Nat):Int:=(jO x0 (Fx x1 a b)).2.1
def Zk (x0:List oA) (x1:List Int) (a b:Nat) (s:List Int×List Int):List Int×List Int :=
 if Zj x0 x1 a b=true then (if b=a+1\/EZ x0 x1 a b+s.1.getD b 0<=s.1.getD a 0 then (s.1.set a (EZ x0 x1 a b+s.1.getD b 0),s.2.set a (b:Int)) else s) else s
def Df (x0:List oA) (x1:List Int) (a:Nat):Nat->Nat->List Int×List Int->List Int×List Int
 | 0,_,s=>s
 | k+1,b,s=>Df x0 x1 a k (b+1) (Zk x0 x1 a b s)
def C5 (x0:List oA) (x1:List Int):Nat->List Int×List Int->List Int×List Int
 | 0,s=>s
 | k+1,s=>C5 x0 x1 k (Df x0 x1 k (x1.length - k) (k+1) s)
def Iw (x0:List oA) (x1:List Int):List Int×List Int:=C5 x0 x1 x1.length (b6 (x1.length+1) 0,b6 (x1.length+1) 0)
def Dg (x0:List oA) (x1:List Int) (e:List Int):Nat->Nat->List ByteArray
 | 0,_=>[]
 | k+1,a=>if a<x1.length then (jO x0 (Fx x1 a (e.getD a 0).toNat)).1 :: Dg x0 x1 e k (e.getD a 0).toNat else []
def Gs (x0:List oA) (x1:List Int):Int:=if (nO x0 (kD x1) [] != 0)=true then nO x0 (kD x1) [] else if x0.length=0/\0<x1.length then 3 else 0
def aDx (x0:List oA) (x1:List Int):Int:=if Gs x0 x1=0 then (Iw x0 x1).1.getD 0 0 else 0
def Me (x0:List oA) (x1:List Int):List ByteArray:=if Gs x0 x1=0 then Dg x0 x1 (Iw x0 x1).2 (x1.length+1) 0 else []
def WM (x0:List oA) (x1:List Int):Int:=Gs x0 x1
def K5 (x0:List oA) (x1:List Int):Prop:=x1.length<=1000/\(∀ f∈x0,(0<=f.2.1/\f.2.1<=1000000)/\1<=f.2.2.1/\1<=f.2.2.2.1)/\∀ y∈x1,0<=y/\y<=1000000000
def aO4 (x0:List oA) (x1:List Int):Prop:=aO0 x0 (kD x1) []/\(nO x0 (kD x1) []=0->K5 x0 x1)
theorem Fy (x0:List oA) (s:List Int):∀ (l:List oA) (b:Bool×oA),(∀ f∈l,f∈x0)->(l.foldl (qV s) b).2=b.2\/(l.foldl (qV s) b).2∈x0
 | [],b,_ => .inl rfl
 | f :: l,b,h=>by
  rw [dY];have hr:=Fy x0 s l (qV s b f) λg hg=>h g (aM _ hg);have hs:(qV s b f).2=b.2\/(qV s b f).2=f:=by
   unfold qV;split
   ·split
    ·exact .inr rfl
    ·split
     ·exact .inr rfl
     ·exact .inl rfl
   ·exact .inl rfl
  rcases hr with hr | hr
  ·rcases hs with hs | hs
   ·exact .inl (hr.trans hs)
   ·exact .inr (by rw [hr,hs];exact h f (aQ ..))
  ·exact .inr hr
theorem Zl {x0:List oA} {x1:List Int} (h:K5 x0 x1) (a b:Nat):0<=EZ x0 x1 a b/\EZ x0 x1 a b<=1000000:=by
 rcases Fy x0 (Fx x1 a b) x0 (false,(aC,0,0,0,())) (λf hf=>hf) with e | e
 ·have:EZ x0 x1 a b=0:=by
   show ((x0.foldl (qV (Fx x1 a b)) (false,(aC,0,0,0,()))).2).2.1=0;rw [e]
  omega
 ·exact (h.2.1 _ e).1
theorem Zm (s:List Int):∀ (l:List oA) (b:Bool×oA),(∀ f∈l,WL s f=true)->(b.1=true\/l≠[])->(l.foldl (qV s) b).1=true
 | [],b,_,h=>h.resolve_right (by simp)
 | f :: l,b,hg,h=>by
  rw [dY];refine Zm s l _ (λg hh=>hg g (aM _ hh)) (.inl ?_);unfold qV;rw [if_pos (hg f (aQ ..))];split
  ·rfl
  ·rename_i c;split
   ·rfl
   ·simpa using c
theorem Zn {x0:List oA} {x1:List Int} (h:K5 x0 x1) (hne:x0≠[]) {a:Nat} (ha:a<x1.length):Zj x0 x1 a (a+1)=true:=by
 have e:Fx x1 a (a+1)=[x1.getD a 0]:=by
  unfold Fx;rw [gY,bC ha,iV x1 a 0 ha,List.drop_append_of_le_length (by rw [cJ];omega),dS (by rw [cJ];omega)];rfl
 refine Zm _ x0 _ (λf hf => ?_) (.inr hne);obtain ⟨_,h1,h2⟩:=h.2.1 f hf;rw [e];unfold WL;rw [Bool.and_eq_true,decide_eq_true_eq,decide_eq_true_eq];refine ⟨by simp only [cP];omega,?_⟩;show x1.getD a 0 - x1.getD a 0<_;omega
theorem aKO {x0:List oA} {x1:List Int} (h:K5 x0 x1) {a b:Nat} (hab:a<b) (hb:b<=x1.length):aKM x0 (Fx x1 a b):=by
 refine ⟨?_,λy hy=>h.2.2 y (List.mem_of_mem_take (List.mem_of_mem_drop hy))⟩;unfold Fx;rw [List.length_drop,cJ];omega
structure BY (x1:List Int) (k:Nat) (s:List Int×List Int):Prop where
 l1:s.1.length=x1.length+1
 l2:s.2.length=x1.length+1
 cost:∀ j,k<=j->j<=x1.length->0<=s.1.getD j 0/\s.1.getD j 0<=1000000*((x1.length - j:Nat):Int)
 next:∀ j,k<=j->j<x1.length->(j:Int)<s.2.getD j 0/\s.2.getD j 0<=(x1.length:Int)
theorem Qw (l:List Int) (a j:Nat) (v:Int) (h:a<l.length):(l.set a v).getD j 0=if a=j then v else l.getD j 0:=by
 simp only [bL,List.getElem?_set];by_cases c:a=j
 ·subst c;rw [if_pos rfl,if_pos rfl,if_pos h];rfl
 ·rw [if_neg c,if_neg c]
theorem Ah {x0:List oA} {x1:List Int} (h:K5 x0 x1) {a b:Nat} {s:List Int×List Int} (hi:BY x1 (a+1) s) (hab:a<b) (hb:b<=x1.length):BY x1 a (s.1.set a (EZ x0 x1 a b+s.1.getD b 0),s.2.set a (b:Int)):=by
 obtain ⟨c1,c2⟩:=Zl h a b;obtain ⟨d1,d2⟩:=hi.cost b (by omega) hb;refine ⟨by rw [sV];exact hi.l1,by rw [sV];exact hi.l2,λj h1 h2 => ?_,λj h1 h2 => ?_⟩
 ·rw [Qw _ _ _ _ (by rw [hi.l1];omega)];split
  ·rename_i e;subst e;omega
  ·exact hi.cost j (by omega) h2
 ·rw [Qw _ _ _ _ (by rw [hi.l2];omega)];split
  ·rename_i e;subst e;omega
  ·exact hi.next j (by omega) h2
theorem aKP {x0:List oA} {x1:List Int} (h:K5 x0 x1) (hne:x0≠[]) (a:Nat) (ha:a<x1.length) (ds:List aY) (n:Nat):∀ (k b:Nat) (s:List Int×List Int),b+k=x1.length+1->a<b->BY x1 (a+1) s->(b≠a+1->BY x1 a s) ->
  (BY x1 a (Df x0 x1 a k b s)->De n ((a:Int) - 1) (Df x0 x1 a k b s).1 (Df x0 x1 a k b s).2 x0 x1 ds)->xE (n+k+1) (b:Int) s.1 s.2 x0 x1 (a:Int) ds:=by
 have hl:=h.1;intro k
 induction k with
 | zero =>
  intro b s hb hab hi hi2 hr;rw [lE,xE,if_neg (by simp only [decide_eq_true_eq];omega)];exact ⟨by rw [aK];omega,hr (hi2 (by omega))⟩
 | succ k ih =>
  intro b s hb hab hi hi2 hr;have e3:(b:Int)+1=((b+1:Nat):Int):=by omega
  obtain ⟨c1,c2⟩:=Zl h a b;obtain ⟨d1,d2⟩:=hi.cost b (by omega) (by omega);have hl1:=hi.l1;have hl2:=hi.l2;have hcast:1000000*((x1.length - b:Nat):Int)<=1000000*1000:=by omega
  rw [Df] at hr;have hs:Zk x0 x1 a b s=if Zj x0 x1 a b=true then (if b=a+1\/EZ x0 x1 a b+s.1.getD b 0<=s.1.getD a 0 then (s.1.set a (EZ x0 x1 a b+s.1.getD b 0),s.2.set a (b:Int)) else s) else s:=rfl
  show xE (n+k+1+1) _ _ _ _ _ _ _;rw [xE,if_pos (by simp only [decide_eq_true_eq];omega),e3,aF,aF];have hu:cC .i64 ((b+1:Nat):Int):=by rw [aK];omega
  have hv:cC .i64 (EZ x0 x1 a b+s.1.getD b 0):=by rw [aK];omega
  refine ⟨by omega,by omega,by omega,aKO h hab (by omega),?_⟩;by_cases c:Zj x0 x1 a b=true
  ·rw [if_pos c] at hs;refine (if_pos c).mpr ⟨by rw [aK];omega,?_⟩;by_cases e:b=a+1
   ·rw [if_pos (.inl e)] at hs;refine (if_pos (show ((b:Int)==(a:Int)+1)=true by rw [beq_iff_eq];omega)).mpr ?_;refine ⟨by omega,by omega,hv,by omega,by omega,by omega,by omega,hu,?_⟩;have:=ih (b+1) (Zk x0 x1 a b s) (by omega) (by omega) (by rw [hs];exact ⟨(Ah h hi hab (by omega)).l1,(Ah h hi hab (by omega)).l2,λj h1 h2=>(Ah h hi hab (by omega)).cost j (by omega) h2,λj h1 h2=>(Ah h hi hab (by omega)).next j (by omega) h2⟩) (λ_=>by rw [hs];exact Ah h hi hab (by omega)) hr;rw [hs] at this;exact this
   ·refine (if_neg (show ¬ ((b:Int)==(a:Int)+1)=true by rw [beq_iff_eq];omega)).mpr ?_;refine ⟨by omega,by omega,hv,by omega,by omega,?_⟩;by_cases d:EZ x0 x1 a b+s.1.getD b 0<=s.1.getD a 0
    ·rw [if_pos (.inr d)] at hs;refine (if_pos (decide_eq_true d)).mpr ⟨by omega,by omega,hv,by omega,by omega,by omega,by omega,hu,?_⟩;have:=ih (b+1) (Zk x0 x1 a b s) (by omega) (by omega) (by rw [hs];exact ⟨(Ah h hi hab (by omega)).l1,(Ah h hi hab (by omega)).l2,λj h1 h2=>(Ah h hi hab (by omega)).cost j (by omega) h2,λj h1 h2=>(Ah h hi hab (by omega)).next j (by omega) h2⟩) (λ_=>by rw [hs];exact Ah h hi hab (by omega)) hr;rw [hs] at this;exact this
    ·rw [if_neg (λhh=>hh.elim e d)] at hs;rw [hs] at hr;exact (if_neg (by simpa using d)).mpr ⟨hu,ih (b+1) s (by omega) (by omega) hi (λ_=>hi2 e) hr⟩
  ·have e:b≠a+1:=λe=>c (by rw [e];exact Zn h hne ha);rw [if_neg c] at hs;rw [hs] at hr;exact (if_neg c).mpr ⟨hu,ih (b+1) s (by omega) (by omega) hi (λ_=>hi2 e) hr⟩
theorem aO5 {x0:List oA} {x1:List Int} (h:K5 x0 x1) (hne:x0≠[]) (a:Nat) (ha:a<x1.length):∀ (k b:Nat) (s:List Int×List Int),b+k=x1.length+1->a<b->BY x1 (a+1) s->(b≠a+1->BY x1 a s)->BY x1 a (Df x0 x1 a k b s):=by
 intro k
 induction k with
 | zero=>intro b s hb hab hi hi2;exact hi2 (by omega)
 | succ k ih =>
  intro b s hb hab hi hi2;rw [Df];have hput:=Ah h hi hab (show b<=x1.length by omega);have hput':BY x1 (a+1) (s.1.set a (EZ x0 x1 a b+s.1.getD b 0),s.2.set a (b:Int)):=⟨hput.l1,hput.l2,λj h1 h2=>hput.cost j (by omega) h2,λj h1 h2=>hput.next j (by omega) h2⟩;unfold Zk;by_cases c:Zj x0 x1 a b=true
  ·rw [if_pos c];by_cases d:b=a+1\/EZ x0 x1 a b+s.1.getD b 0<=s.1.getD a 0
   ·rw [if_pos d];exact ih (b+1) _ (by omega) (by omega) hput' (λ_=>hput)
   ·rw [if_neg d];exact ih (b+1) s (by omega) (by omega) hi (λ_=>hi2 λe=>d (.inl e))
  ·have e:b≠a+1:=λe=>c (by rw [e];exact Zn h hne ha);rw [if_neg c];exact ih (b+1) s (by omega) (by omega) hi (λ_=>hi2 e)
theorem aO6 {x0:List oA} {x1:List Int} (h:K5 x0 x1) {s:List Int×List Int} (hi:BY x1 0 s):∀ (k a:Nat) (h2:List ByteArray),x1.length - a<k->a<=x1.length->h2.length<=a->Gr k (a:Int) h2 x0 x1 s.1 s.2 [⟨.int .i64,s.1.getD 0 0⟩,⟨.sl .str,h2++Dg x0 x1 s.2 k a⟩,⟨.int .i64,0⟩]:=by
 have hl:=h.1;have hl1:=hi.l1;have hl2:=hi.l2;intro k
 induction k with
 | zero=>intro a h2 hk;omega
 | succ k ih =>
  intro a h2 hk ha hh;rw [Dg,Gr];by_cases c:a<x1.length
  ·obtain ⟨n1,n2⟩:=hi.next a (bW _) c;obtain ⟨e,he⟩:∃ e:Nat,s.2.getD a 0=(e:Int):=⟨(s.2.getD a 0).toNat,by omega⟩;rw [if_pos (by simp only [decide_eq_true_eq];omega),if_pos c,aF,he,aF];rw [he] at n1 n2;have:=ih e (h2++[(jO x0 (Fx x1 a e)).1]) (by omega) (by omega) (by rw [aO,cP];omega);rw [bS] at this;exact ⟨by omega,by omega,by omega,by omega,by omega,aKO h (by omega) (by omega),by omega,by omega,by omega,this⟩
  ·rw [if_neg (by simp only [decide_eq_true_eq];omega),if_neg c,c6];exact ⟨by omega,rfl⟩
theorem aO7 {x0:List oA} {x1:List Int} (h:K5 x0 x1) (hne:x0≠[]\/x1.length=0) (ds:List aY):∀ (k:Nat) (s:List Int×List Int),k<=x1.length->BY x1 k s->(BY x1 0 (C5 x0 x1 k s)->∃ n,Gr n 0 [] x0 x1 (C5 x0 x1 k s).1 (C5 x0 x1 k s).2 ds)->∃ n,De n ((k:Int) - 1) s.1 s.2 x0 x1 ds:=by
 have hl:=h.1;intro k
 induction k with
 | zero =>
  intro s hk hi hr;obtain ⟨n,hn⟩:=hr hi;refine ⟨n+1,?_⟩;rw [De,if_neg (by simp only [decide_eq_true_eq];omega)];exact hn
 | succ k ih =>
  intro s hk hi hr;have hx:x0≠[]:=hne.resolve_right (by omega);rw [C5] at hr;have e1:((k+1:Nat):Int) - 1=(k:Int):=by omega
  have e2:(k:Int)+1=((k+1:Nat):Int):=by omega
  by_cases hq:BY x1 k (Df x0 x1 k (x1.length - k) (k+1) s)
  ·obtain ⟨n,hn⟩:=ih _ (by omega) hq hr;have:=aKP h hx k (by omega) ds n (x1.length - k) (k+1) s (by omega) (by omega) hi (λhh=>absurd rfl hh) (λ_=>hn);refine ⟨_+1,by
    rw [e1,De,if_pos (by simp only [decide_eq_true_eq];omega),e2];exact ⟨by rw [aK];omega,this⟩⟩
  ·exfalso;exact hq (aO5 h hx k (by omega) (x1.length - k) (k+1) s (by omega) (by omega) hi (λhh=>absurd rfl hh))
theorem aVE (x0:List oA) (x1:List Int) (h:aO4 x0 x1):∃ n,aKN n x0 x1 [⟨.int .i64,aDx x0 x1⟩,⟨.sl .str,Me x0 x1⟩,⟨.int .i64,WM x0 x1⟩]:=by
 obtain ⟨p,ho⟩:=h;unfold aDx Me WM;have hc:Gs x0 x1=if (nO x0 (kD x1) [] != 0)=true then nO x0 (kD x1) [] else if x0.length=0/\0<x1.length then 3 else 0:=rfl
 by_cases c:(nO x0 (kD x1) [] != 0)=true
 ·rw [if_pos c] at hc;have hn:¬ Gs x0 x1=0:=by rw [hc];simpa using c
  refine ⟨1,?_⟩;rw [aKN,if_pos c,if_neg hn,if_neg hn,hc];exact ⟨p,rfl⟩
 ·rw [if_neg c] at hc;have hok:=ho (by simpa using c);have hl:=hok.1;by_cases d:x0.length=0/\0<x1.length
  ·rw [if_pos d] at hc;refine ⟨1,?_⟩;rw [aKN,if_neg c,if_pos (show ((x0.length:Int)==0)=true by rw [beq_iff_eq];omega),if_pos (show decide ((x1.length:Int)>0)=true by simp only [decide_eq_true_eq];omega),hc,if_neg (by decide),if_neg (by decide)];exact ⟨p,rfl⟩
  ·rw [if_neg d] at hc;have hne:x0≠[]\/x1.length=0:=by
    cases x0 with
    | nil=>exact .inr (by simp at d;rw [d];rfl)
    | cons f l=>exact .inl (by simp)
   have h0:BY x1 x1.length (b6 (x1.length+1) 0,b6 (x1.length+1) 0):=by
    refine ⟨by simp,by simp,λj h1 h2 => ?_,λj h1 h2=>by omega⟩;have:(b6 (x1.length+1) (0:Int)).getD j 0=0:=by
     rw [bL,List.getElem?_replicate];split <;> rfl
    rw [this];omega
   obtain ⟨n,hn⟩:=aO7 hok hne [⟨.int .i64,(Iw x0 x1).1.getD 0 0⟩,⟨.sl .str,Dg x0 x1 (Iw x0 x1).2 (x1.length+1) 0⟩,⟨.int .i64,0⟩] x1.length _ (aT _) h0 (λhi=>⟨x1.length+1,by
    have:=aO6 hok hi (x1.length+1) 0 [] (by omega) (bW _) (aT _);exact this⟩)
   have e:aE ((x1.length:Int)+1)=x1.length+1:=by omega
   have stuff:cC .i64 ((x1.length:Int)+1)/\cC .i64 ((x1.length:Int)+1)/\(0<=(x1.length:Int)+1)/\((x1.length:Int)+1<=(x1.length:Int)+1)/\(8*((x1.length:Int)+1)<=281474976710656)/\(0<=(x1.length:Int)+1)/\((x1.length:Int)+1<=(x1.length:Int)+1)/\(8*((x1.length:Int)+1)<=281474976710656)/\cC .i64 ((x1.length:Int) - 1)/\De n ((x1.length:Int) - 1) (b6 (aE ((x1.length:Int)+1)) 0) (b6 (aE ((x1.length:Int)+1)) 0) x0 x1 [⟨.int .i64,(Iw x0 x1).1.getD 0 0⟩,⟨.sl .str,Dg x0 x1 (Iw x0 x1).2 (x1.length+1) 0⟩,⟨.int .i64,0⟩]:=by
    rw [e];exact ⟨by rw [aK];omega,by rw [aK];omega,by omega,by omega,by omega,by omega,by omega,by omega,by rw [aK];omega,hn⟩
   refine ⟨n+1,?_⟩;rw [aKN,if_neg c,hc,if_pos rfl,if_pos rfl];refine ⟨p,?_⟩;by_cases e0:((x0.length:Int)==0)=true
   ·refine (if_pos e0).mpr ((if_neg ?_).mpr stuff);rw [beq_iff_eq] at e0;simp only [decide_eq_true_eq];omega
   ·exact (if_neg e0).mpr stuff
def bCX:=dR aG9 (λ⟨x0,x1,_⟩=>aO4 x0 x1) λ⟨x0,x1,_⟩=>[⟨.int .i64,aDx x0 x1⟩,⟨.sl .str,Me x0 x1⟩,⟨.int .i64,WM x0 x1⟩]
theorem aVF:c7 157 bCX:=dF bKT (λ⟨x0,x1,_⟩ h hwf K q =>
 let ⟨n,hn⟩:=aVE x0 x1 h
 (aVD _ K q n).1 hn)
end
end Go.Proofs.YtmhpnodnljbnjaaGreatDoor
