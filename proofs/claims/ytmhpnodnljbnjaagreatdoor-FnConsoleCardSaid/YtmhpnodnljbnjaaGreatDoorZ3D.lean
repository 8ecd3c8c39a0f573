/- The functions that this law reaches, and their laws. -/
import Derived.Test.YtmhpnodnljbnjaaGreatDoorZ3C
import Derived.Deep.RegionLaw
import Derived.Lib.TrimByte
set_option linter.unusedVariables false
set_option linter.unusedSimpArgs false
open BitVec renaming ofInt->dX,toNat->j3
open ByteArray renaming empty->aC,mk->aA,size->aH,toList->aB
open Go.Act renaming eval->SJ,put->Gy
open Go.Am.AT renaming own->tW,v->nV
open Go.Am.hY renaming mk->fY
open Go.Am.dD renaming optr->HM,osl->oF,ptr->pM,st->pE
open Go.Am.aY renaming mk->aP
open Go.Am.PV renaming fn->nU,tup->gO
open Go.Am.Ty renaming cons->kR,fn->aU,int->lF,sl->p6,str->kE,unit->HH
open Go.IntKind renaming i64->cN,u64->cL,wrap->bD,wrap_i64->rN
open Go.Lib renaming repeatL->uI,wpList_append_run->vR
open Go.Proofs.Tryz renaming func192->EH,func203->zI,func208->zJ,func212->zK,func216->zL,func219->zM,func273->EG,func317->XR,func353->XP,ntmps203->CL,ntmps208->CM,ntmps212->CN,ntmps216->CO,ntmps219->CP,prog->aL,underlying3->eG
open Int renaming fdiv->cQ,fdiv_eq_ediv_of_nonneg->fG,le_refl->gA,tdiv->bM,tdiv_eq_ediv_of_nonneg->gF,tmod->c8,toNat->aE,toNat_natCast->aF
open List renaming append_assoc->bS,append_nil->c6,drop->dE,drop_eq_nil_of_le->dS,foldl_cons->dY,getD->aD,getD_eq_getElem?_getD->bL,getElem?_eq_getElem->bC,length->aN,length_append->aO,length_cons->bA,length_set->sV,length_singleton->cP,length_take->cJ,mem_cons->aR,mem_cons_of_mem->aM,mem_cons_self->aQ,replicate->b6,set->vA,take->dH,take_add_one->gY
open Min renaming min->sX
open Nat renaming add_zero->lE,le_refl->aT,zero_add->cV,zero_le->bW
set_option maxRecDepth 100000
namespace Go.Proofs.YtmhpnodnljbnjaaGreatDoor
open Go Go.Am Go.Proofs
def aZ4:List AT:=[nV (p6 fP)]
def Yv (x0:List bX):List bX:=x0
def P79 (x0:List bX):Prop:=x0.length<=1048576
def S79:Am.Spec:={ sig:=aZ4,pre:=λ⟨x0,_⟩=>P79 x0,res:=λ⟨x0,_⟩=>[⟨p6 fP,Yv x0⟩] }
theorem aQc:c7 79 S79:=yB Tryz.func79<|o6 (vO 36) rfl rfl (by decide) (by decide) uY.2.2.2.1 rG.2.2.2.1
def aZ5:List AT:=[nV (p6 gT)]
def Yw (x0:List dG):List dG:=x0
def P80 (x0:List dG):Prop:=x0.length<=1048576
def S80:Am.Spec:={ sig:=aZ5,pre:=λ⟨x0,_⟩=>P80 x0,res:=λ⟨x0,_⟩=>[⟨p6 gT,Yw x0⟩] }
theorem aQd:c7 80 S80:=yB Tryz.func80<|o6 (vO 39) rfl rfl (by decide) (by decide) uY.2.2.2.2.1 rG.2.2.2.2.1
def aZ6:List AT:=[nV (p6 fL)]
def QM (x0:List cU):List cU:=x0
def P81 (x0:List cU):Prop:=x0.length<=1048576
def S81:Am.Spec:={ sig:=aZ6,pre:=λ⟨x0,_⟩=>P81 x0,res:=λ⟨x0,_⟩=>[⟨p6 fL,QM x0⟩] }
theorem aQe:c7 81 S81:=yB Tryz.func81<|o6 (vO 40) rfl rfl (by decide) (by decide) uY.2.2.2.2.2.1 rG.2.2.2.2.2.1
def aZ7:List AT:=[nV (p6 fP)]
def Yx (x0:List bX):List bX:=x0
def P82 (x0:List bX):Prop:=x0.length<=1048576
def S82:Am.Spec:={ sig:=aZ7,pre:=λ⟨x0,_⟩=>P82 x0,res:=λ⟨x0,_⟩=>[⟨p6 fP,Yx x0⟩] }
theorem aQf:c7 82 S82:=yB Tryz.func82<|o6 (vO 41) rfl rfl (by decide) (by decide) uY.2.2.2.2.2.2.1 rG.2.2.2.2.2.2.1
def aZ8:List AT:=[nV (p6 fP)]
def Yy (x0:List bX):List bX:=x0
def P83 (x0:List bX):Prop:=x0.length<=1048576
def S83:Am.Spec:={ sig:=aZ8,pre:=λ⟨x0,_⟩=>P83 x0,res:=λ⟨x0,_⟩=>[⟨p6 fP,Yy x0⟩] }
theorem aQg:c7 83 S83:=yB Tryz.func83<|o6 (vO 42) rfl rfl (by decide) (by decide) uY.2.2.2.2.2.2.2.1 rG.2.2.2.2.2.2.2.1
noncomputable section
def d21:dB:=⟨21,Tryz.f21,[.v vP],[.cons (.sl gT) YA1],[],[(76,S76),(77,S77),(78,S78),(79,S79),(80,S80),(81,S81),(82,S82),(83,S83)],true,[]⟩
theorem o21:FO d21:=mo Tryz.func21 ⟨aPZ,aQa,aQb,aQc,aQd,aQe,aQf,aQg,trivial⟩
def P21 (x0:fV):Prop:=((P76 x0.1)/\((P77 x0.2.2.1)/\((P78 x0.2.2.2.1)/\((P79 x0.2.2.2.2.2.2.1)/\((P80 x0.2.2.2.2.2.2.2.2.1)/\((P81 x0.2.2.2.2.2.2.2.2.2.1)/\((P82 x0.2.2.2.2.2.2.2.2.2.2.1)/\((P83 x0.2.2.2.2.2.2.2.2.2.2.2.1)/\True))))))))
def jE (x0:fV):fV:=(Ys x0.1,(x0.2.1.1,x0.2.1.2.1,x0.2.1.2.2.1,x0.2.1.2.2.2.1,()),Yt x0.2.2.1,Yu x0.2.2.2.1,(x0.2.2.2.2.1.1,x0.2.2.2.2.1.2.1,x0.2.2.2.2.1.2.2.1,()),(x0.2.2.2.2.2.1.1,x0.2.2.2.2.2.1.2.1,x0.2.2.2.2.2.1.2.2.1,()),Yv x0.2.2.2.2.2.2.1,(x0.2.2.2.2.2.2.2.1.1,x0.2.2.2.2.2.2.2.1.2.1,x0.2.2.2.2.2.2.2.1.2.2.1,x0.2.2.2.2.2.2.2.1.2.2.2.1,()),Yw x0.2.2.2.2.2.2.2.2.1,QM x0.2.2.2.2.2.2.2.2.2.1,Yx x0.2.2.2.2.2.2.2.2.2.2.1,Yy x0.2.2.2.2.2.2.2.2.2.2.2.1,())
def S21:=dR d21 (λ⟨x0,_⟩=>P21 x0) λ⟨x0,_⟩=>[⟨.cons (.sl gT) YA1,jE x0⟩]
theorem aZ9:c7 21 S21:=dF o21 λ⟨x0,_⟩ h _ K q=>c1 h λh=>c1 h λh=>c1 h λh=>c1 h λh=>c1 h λh=>c1 h λh=>c1 h λh=>c1 h λh=>rt
def aZA:dB:=⟨198,Tryz.f198,[.v (.str),.v (.int .i64)],[.str,.sl (.int .i64),.bool],[],[(72,S72),(74,S74)],false,[]⟩
theorem bI1:FO aZA:=mo Tryz.func198 ⟨aFa,aJw,trivial⟩
def aN6 (x0:ByteArray) (x1:Int):Prop:=((P72 x0 (aA #[32]))/\((P74 (iR x0 (aA #[32])))/\True))
def AU (x0:ByteArray) (x1:Int):ByteArray:=pI x0 (aA #[32])
def gE (x0:ByteArray) (x1:Int):List Int:=uX (iR x0 (aA #[32]))
def AV (x0:ByteArray) (x1:Int):Bool:=(↑(aN (uX (iR x0 (aA #[32])))):Int)==x1
def aSa:=dR aZA (λ⟨x0,x1,_⟩=>aN6 x0 x1) λ⟨x0,x1,_⟩=>[⟨.str,AU x0 x1⟩,⟨.sl (.int .i64),gE x0 x1⟩,⟨.bool,AV x0 x1⟩]
theorem aJ4:c7 198 aSa:=dF bI1 λ⟨x0,x1,_⟩ h _ K q=>c1 h λh=>c1 h λh=>rt
def aZB:dB:=⟨199,Tryz.f199,[.v gT],[.str],[],[(107,aRs),(127,aGz)],false,[]⟩
theorem bI2:FO aZB:=mo Tryz.func199 ⟨aIE,QI,trivial⟩
def aN7 (x0:ByteArray×Int×Int×Int×Unit):Prop:=(if (!pR x0)=true then True else ((aH x0.1+1<=9223372036854775807)/\((aH (x0.1++aA #[32])+aH (n9 [x0.2.1,x0.2.2.1,x0.2.2.2.1])<=9223372036854775807)/\True)))
def QN (x0:ByteArray×Int×Int×Int×Unit):ByteArray:=(if (!pR x0)=true then aA #[] else x0.1++aA #[32]++n9 [x0.2.1,x0.2.2.1,x0.2.2.2.1])
def aZC:=dR aZB (λ⟨x0,_⟩=>aN7 x0) λ⟨x0,_⟩=>[⟨.str,QN x0⟩]
theorem aSb:c7 199 aZC:=dF bI2 λ⟨x0,_⟩ h _ K q=>tv<|N0 h (λh=>rt) λh=>c1 h λh=>tv<|c1 h λh=>rt
def aZD:dB:=⟨130,Tryz.f130,[.v (.str)],[.cons .str fL,.bool],[],[(198,aSa),(199,aZC)],false,[]⟩
theorem bI3:FO aZD:=mo Tryz.func130 ⟨aJ4,aSb,trivial⟩
def aN8 (x0:ByteArray):Prop:=((aN6 x0 3)/\(if (!AV x0 3)=true then True else ((0<(↑(aN (gE x0 3)):Int))/\((1<(↑(aN (gE x0 3)):Int))/\((2<(↑(aN (gE x0 3)):Int))/\((aN7 (AU x0 3,aD (gE x0 3) 0 0,aD (gE x0 3) 1 0,aD (gE x0 3) 2 0,()))/\True))))))
def rW (x0:ByteArray):ByteArray×Int×Int×Int×Unit:=(if (!AV x0 3)=true then (aC,0,0,0,()) else (if (!aB (QN (AU x0 3,aD (gE x0 3) 0 0,aD (gE x0 3) 1 0,aD (gE x0 3) 2 0,()))==aB x0)=true then (aC,0,0,0,()) else (AU x0 3,aD (gE x0 3) 0 0,aD (gE x0 3) 1 0,aD (gE x0 3) 2 0,())))
def FZ (x0:ByteArray):Bool:=(if (!AV x0 3)=true then false else (if (!aB (QN (AU x0 3,aD (gE x0 3) 0 0,aD (gE x0 3) 1 0,aD (gE x0 3) 2 0,()))==aB x0)=true then false else true))
def aZE:=dR aZD (λ⟨x0,_⟩=>aN8 x0) λ⟨x0,_⟩=>[⟨.cons .str fL,rW x0⟩,⟨.bool,FZ x0⟩]
theorem aSc:c7 130 aZE:=dF bI3 λ⟨x0,_⟩ h _ K q=>c1 h λh=>o3 h (λh=>rt) λh=>tP ((by decide):(0:Int)<=(0:Int))<|c1 h λh=>tP ((by decide):(0:Int)<=(1:Int))<|c1 h λh=>tP ((by decide):(0:Int)<=(2:Int))<|c1 h λh=>c1 h λh=>e2 (rt) (rt)
def aN9:dB:=⟨290,Tryz.f290,[.v (.str)],[.int .i64],[],[],false,[]⟩
theorem bI4:FO aN9:=mo Tryz.func290 trivial
def aSd (v3:Int) (v17:Int) (x0:ByteArray):eD×bG:=([eI 3 v3,eW 15 0,eI 16 (↑(aN (cY x0)):Int),eI 17 v17],[jB (.int .u8) (cY x0)])
mutual
def aSe:Nat->ByteArray->List aY->Prop
 | 0,_,_=>False
 | n+1,x0,ds=>(if (decide ((↑(aH x0):Int)<1))=true then (ds=[aP (.int .i64) (-1)]) else (if (decide ((↑(aH x0):Int)>12))=true then (ds=[aP (.int .i64) (-1)]) else (MS n (0) (0) (x0) ds)))
def MS:Nat->Int->Int->ByteArray->List aY->Prop
 | 0,_,_,_,_=>False
 | n+1,v3,v17,x0,ds=>(if (decide (v17<(↑(aN (cY x0)):Int)))=true then ((0<=v17)/\(v17<(↑(aN (cY x0)):Int))/\(if (decide (aD (cY x0) (aE v17) 0<48))=true then (ds=[aP (.int .i64) (-1)]) else (if (decide (aD (cY x0) (aE v17) 0>57))=true then (ds=[aP (.int .i64) (-1)]) else ((cC .i64 (10*v3))/\((cC .u8 (aD (cY x0) (aE v17) 0 - 48))/\((cC .i64 (aD (cY x0) (aE v17) 0 - 48))/\((cC .i64 (10*v3+(aD (cY x0) (aE v17) 0 - 48)))/\((cC .i64 (v17+1))/\(MS n (10*v3+(aD (cY x0) (aE v17) 0 - 48)) (v17+1) (x0) ds))))))))) else (ds=[aP (.int .i64) v3]))
end
theorem aSf (ds:List aY) (K:jK) (q:Nat->Value):∀ n,(∀ {x0},aSe n x0 ds->St aN9 (x0,()) ds [] K q)/\(∀ {v3 v17 x0},MS n v3 v17 x0 ds->Cu aN9 5 (aSd v3 v17 x0) ds [] K q):=by
 intro n
 induction n with
 | zero=>exact ⟨λh=>h.elim,λh=>h.elim⟩
 | succ n ih =>
 obtain ⟨i,i5⟩:=ih;exact ⟨λh=>bR h (λh=>tT<|rh h) λh=>bR h (λh=>rh h) λh=>jp (i5 h),
  λh=>bR h (λh=>c2 h λh=>bR h (λh=>tT<|rh h) λh=>bR h (λh=>rh h) λh=>c1 h λh=>c1 h λh=>c1 h λh=>c1 h λh=>c1 h λh=>jp (i5 h)) λh=>rh h⟩
def AW:List UInt8->Int->Int
 | [],n=>n
 | b :: r,n=>if decide (48<=b.toNat)&&decide (b.toNat<=57) then AW r (10*n+((b.toNat:Int) - 48)) else -1
def eX (x0:ByteArray):Int:=if x0.size<1\/12<x0.size then -1 else AW x0.data.toList 0
def bI5 (x0:ByteArray):Prop:=True
theorem aSg (x0:ByteArray) (hs:x0.size<=12):∀ (k i m:Nat),i+k=x0.size->m<10 ^ i ->
  MS (k+1) (m:Int) (i:Int) x0 [⟨.int .i64,AW (x0.data.toList.drop i) (m:Int)⟩]:=by
 intro k;have hll:x0.data.toList.length=x0.size:=rfl;have hbl:(cY x0).length=x0.size:=by unfold cY;rw [List.length_map];rfl
 induction k with
 | zero =>
  intro i m hi hm;rw [MS,if_neg (by rw [hbl];simp;omega),List.drop_of_length_le (by omega)];rfl
 | succ k ih =>
  intro i m hi hm;have hlt:i<x0.data.toList.length:=by rw [hll];omega
  have hcons:x0.data.toList.drop i=x0.data.toList.getD i 0 :: x0.data.toList.drop (i+1):=eH _ i 0 hlt;have hbyte:(cY x0).getD i 0=((x0.data.toList.getD i 0).toNat:Int):=by
   unfold cY;rw [bL,bL,List.getElem?_map,bC hlt];rfl
  rw [MS,if_pos (by rw [hbl];simp;omega),hcons];simp only [aF,hbyte,hbl];generalize x0.data.toList.getD i 0=b at *;refine ⟨by omega,by omega,?_⟩;unfold AW;by_cases h1:b.toNat<48
  ·have h1':(b.toNat:Int)<48:=by omega
   have h1'':¬ 48<=b.toNat:=by omega
   simp [h1',h1'']
  ·have h1':¬ (b.toNat:Int)<48:=by omega
   have h1'':48<=b.toNat:=by omega
   by_cases h2:b.toNat>57
   ·have h2':(b.toNat:Int)>57:=by omega
    have h2'':¬ b.toNat<=57:=by omega
    simp [h1',h2',h2'']
   ·have h2':¬ (b.toNat:Int)>57:=by omega
    have h2'':b.toNat<=57:=by omega
    have hp:10 ^ i<=10 ^ 11:=Nat.pow_le_pow_right (by decide) (by omega);have hm2:m<100000000000:=Nat.lt_of_lt_of_le hm hp;simp only [h1',h1'',h2',h2'',decide_true,decide_false,Bool.and_self,Bool.false_eq_true,if_false,if_true];refine ⟨by rw [aK];omega,by rw [Pj];omega,by rw [aK];omega,by rw [aK];omega,by rw [aK];omega,?_⟩;have e1:10*(m:Int)+((b.toNat:Int) - 48)=((10*m+(b.toNat - 48):Nat):Int):=by omega
    have e2:(i:Int)+1=((i+1:Nat):Int):=by omega
    rw [e1,e2];exact ih (i+1) (10*m+(b.toNat - 48)) (by omega) (by rw [Nat.pow_succ];omega)
theorem aSh (x0:ByteArray):aSe (x0.size+1+1) x0 [⟨.int .i64,eX x0⟩]:=by
 rw [aSe];unfold eX;by_cases h1:x0.size<1
 ·rw [if_pos (by simp;omega),if_pos (.inl h1)]
 ·rw [if_neg (by simp;omega)];by_cases h2:12<x0.size
  ·rw [if_pos (by simp;omega),if_pos (.inr h2)]
  ·rw [if_neg (by simp;omega),if_neg (by omega)];exact aSg x0 (by omega) x0.size 0 0 (by omega) (by decide)
def aSi:=dR aN9 (λ⟨x0,_⟩=>bI5 x0) λ⟨x0,_⟩=>[⟨.int .i64,eX x0⟩]
theorem aJ5:c7 290 aSi:=dF bI4 (λ⟨x0,_⟩ h hwf K q =>
 (aSf _ K q _).1 (aSh x0))
end
def aSj:List AT:=[nV kE,nV (lF .i64)]
def F1 (x0:ByteArray) (x1:Int):ByteArray:=⟨(uI x0.data.toList x1.toNat).toArray⟩
def aSk (x0:ByteArray) (x1:Int):Prop:=0<=x1/\(x0.size:Int)*x1<=140737488355328
def aSl:Am.Spec:={ sig:=aSj,pre:=λ⟨x0,x1,_⟩=>aSk x0 x1,res:=λ⟨x0,x1,_⟩=>[⟨kE,F1 x0 x1⟩] }
theorem aJ6:c7 322 aSl:=yB Tryz.func322<|lL rfl λw ⟨x0,x1,_⟩ vs bss hg hp hw ha=>by
 obtain ⟨v0,s0,_,_,rfl,_,⟨_,rfl,_⟩,v1,s1,_,_,rfl,_,⟨_,rfl,_⟩,rfl,_⟩:=ha;obtain ⟨h0,h1⟩:=hp;obtain ⟨c,rfl⟩:∃ c:Nat,x1=(c:Int):=Int.eq_ofNat_of_zero_le h0;have hi:cC .i64 (c:Int):=hw.2.1;rw [aK] at hi;have hm:x0.size*c<=140737488355328:=by
  have:((x0.size*c:Nat):Int)=(x0.size:Int)*(c:Int):=Int.natCast_mul _ _;omega
 refine ⟨λd hd => ?_,?_⟩
 ·rw [List.mem_singleton.1 hd];refine ⟨rfl,?_⟩;show (aA (uI x0.data.toList c).toArray).size<=maxLen;have:(aA (uI x0.data.toList c).toArray).size=c*x0.data.toList.length:=by
   show (uI x0.data.toList c).toArray.size=_;rw [List.size_toArray,Lib.repeatL_length]
  rw [this,Nat.mul_comm];have e:x0.data.toList.length=x0.size:=rfl;rw [e];unfold maxLen;omega
 ·refine (Tryz.strings_Repeat x0 c w (by omega) hm).mono ?_;rintro e w' ⟨rfl,hb⟩;exact ⟨rfl,cE.of_below hb⟩
noncomputable section
def aZF:dB:=⟨241,Tryz.f241,[.v (.int .i64),.v (.int .i64)],[.str],[],[(126,VZ),(322,aSl)],false,[]⟩
theorem bI6:FO aZF:=mo Tryz.func241 ⟨DX,aJ6,trivial⟩
def aCo (x0:Int) (x1:Int):Prop:=((BG x0)/\((cC .i64 (x1 - (↑(aH (dU x0)):Int)))/\((aSk (aA #[48]) (if 0<x1 - (↑(aH (dU x0)):Int) then x1 - (↑(aH (dU x0)):Int) else 0))/\((aH (F1 (aA #[48]) (if 0<x1 - (↑(aH (dU x0)):Int) then x1 - (↑(aH (dU x0)):Int) else 0))+aH (dU x0)<=9223372036854775807)/\True))))
def uZ (x0:Int) (x1:Int):ByteArray:=F1 (aA #[48]) (if 0<x1 - (↑(aH (dU x0)):Int) then x1 - (↑(aH (dU x0)):Int) else 0)++dU x0
def aSm:=dR aZF (λ⟨x0,x1,_⟩=>aCo x0 x1) λ⟨x0,x1,_⟩=>[⟨.str,uZ x0 x1⟩]
theorem aJ7:c7 241 aSm:=dF bI6 λ⟨x0,x1,_⟩ h _ K q=>c1 h λh=>c1 h λh=>c1 h λh=>c1 h λh=>rt
def aZG:dB:=⟨346,Tryz.f346,[.v (.int .i64)],[.str],[],[(108,p8),(241,aSm)],false,[]⟩
theorem bI7:FO aZG:=mo Tryz.func346 ⟨iA,aJ7,trivial⟩
def aJ8 (x0:Int):Prop:=(if (!cD x0 0 1439)=true then True else ((cC .i64 (bM x0 60))/\((aCo (bM x0 60) 2)/\((aH (uZ (bM x0 60) 2)+1<=9223372036854775807)/\((cC .i64 (c8 x0 60))/\((aCo (c8 x0 60) 2)/\((aH (uZ (bM x0 60) 2++aA #[58])+aH (uZ (c8 x0 60) 2)<=9223372036854775807)/\True)))))))
def MT (x0:Int):ByteArray:=(if (!cD x0 0 1439)=true then aA #[] else uZ (bM x0 60) 2++aA #[58]++uZ (c8 x0 60) 2)
def aSn:=dR aZG (λ⟨x0,_⟩=>aJ8 x0) λ⟨x0,_⟩=>[⟨.str,MT x0⟩]
theorem aJ9:c7 346 aSn:=dF bI7 λ⟨x0,_⟩ h _ K q=>tv<|N0 h (λh=>rt) λh=>tP ((by decide):(60:Int)≠(0:Int))<|c1 h λh=>c1 h λh=>c1 h λh=>tP ((by decide):(60:Int)≠(0:Int))<|c1 h λh=>c1 h λh=>c1 h λh=>rt
def aZH:dB:=⟨278,Tryz.f278,[.v (.str)],[.int .i64,.bool],[],[(72,S72),(290,aSi),(346,aSn)],false,[]⟩
theorem bI8:FO aZH:=mo Tryz.func278 ⟨aFa,aJ5,aJ9,trivial⟩
def aNA (x0:ByteArray):Prop:=((P72 x0 (aA #[58]))/\((cC .i64 (60*eX (pI x0 (aA #[58]))))/\((cC .i64 (60*eX (pI x0 (aA #[58]))+eX (iR x0 (aA #[58]))))/\(if (aB x0==aB (aA #[]))=true then True else ((aJ8 (60*eX (pI x0 (aA #[58]))+eX (iR x0 (aA #[58]))))/\True)))))
def aJA (x0:ByteArray):Int:=(if (aB x0==aB (aA #[]))=true then 0 else (if (!aB (MT (60*eX (pI x0 (aA #[58]))+eX (iR x0 (aA #[58]))))==aB x0)=true then 0 else 60*eX (pI x0 (aA #[58]))+eX (iR x0 (aA #[58]))))
def aSo (x0:ByteArray):Bool:=(if (aB x0==aB (aA #[]))=true then false else (if (!aB (MT (60*eX (pI x0 (aA #[58]))+eX (iR x0 (aA #[58]))))==aB x0)=true then false else true))
def aZI:=dR aZH (λ⟨x0,_⟩=>aNA x0) λ⟨x0,_⟩=>[⟨.int .i64,aJA x0⟩,⟨.bool,aSo x0⟩]
theorem aSp:c7 278 aZI:=dF bI8 λ⟨x0,_⟩ h _ K q=>c1 h λh=>tv<|c1 h λh=>tv<|c1 h λh=>o3 h (λh=>tT<|rt) λh=>c1 h λh=>e2 (rt) (rt)
def aZJ:dB:=⟨204,Tryz.f204,[.v (.str)],[.int .i64],[],[(278,aZI)],false,[]⟩
theorem bI9:FO aZJ:=mo Tryz.func204 ⟨aSp,trivial⟩
def aJB (x0:ByteArray):Prop:=(if (aB x0==aB (aA #[50,52,58,48,48]))=true then True else ((aNA x0)/\True))
def AX (x0:ByteArray):Int:=(if (aB x0==aB (aA #[50,52,58,48,48]))=true then 1440 else aJA x0)
def aZK:=dR aZJ (λ⟨x0,_⟩=>aJB x0) λ⟨x0,_⟩=>[⟨.int .i64,AX x0⟩]
theorem aSq:c7 204 aZK:=dF bI9 λ⟨x0,_⟩ h _ K q=>N0 h (λh=>rt) λh=>c1 h λh=>rt
def aZL:dB:=⟨279,Tryz.f279,[.v (.int .i64)],[.str],[],[(346,aSn)],false,[]⟩
theorem bIA:FO aZL:=mo Tryz.func279 ⟨aJ9,trivial⟩
def aJC (x0:Int):Prop:=(if (x0==1440)=true then True else ((aJ8 x0)/\True))
def Bt (x0:Int):ByteArray:=(if (x0==1440)=true then aA #[50,52,58,48,48] else MT x0)
def aZM:=dR aZL (λ⟨x0,_⟩=>aJC x0) λ⟨x0,_⟩=>[⟨.str,Bt x0⟩]
theorem aSr:c7 279 aZM:=dF bIA λ⟨x0,_⟩ h _ K q=>N0 h (λh=>rt) λh=>c1 h λh=>rt
def aZN:dB:=⟨205,Tryz.f205,[.v fP],[.str],[],[(116,aR1),(279,aZM)],false,[]⟩
theorem bIB:FO aZN:=mo Tryz.func205 ⟨aIY,aSr,trivial⟩
def aNB (x0:ByteArray×Int×Int×Unit):Prop:=(if (!tC x0)=true then True else ((aH x0.1+1<=9223372036854775807)/\((aJC x0.2.1)/\((aH (x0.1++aA #[32])+aH (Bt x0.2.1)<=9223372036854775807)/\((aH (x0.1++aA #[32]++Bt x0.2.1)+1<=9223372036854775807)/\((aJC x0.2.2.1)/\((aH (x0.1++aA #[32]++Bt x0.2.1++aA #[32])+aH (Bt x0.2.2.1)<=9223372036854775807)/\True)))))))
def QO (x0:ByteArray×Int×Int×Unit):ByteArray:=(if (!tC x0)=true then aA #[] else x0.1++aA #[32]++Bt x0.2.1++aA #[32]++Bt x0.2.2.1)
def aZO:=dR aZN (λ⟨x0,_⟩=>aNB x0) λ⟨x0,_⟩=>[⟨.str,QO x0⟩]
theorem aSs:c7 205 aZO:=dF bIB λ⟨x0,_⟩ h _ K q=>tv<|N0 h (λh=>rt) λh=>c1 h λh=>c1 h λh=>c1 h λh=>c1 h λh=>c1 h λh=>c1 h λh=>rt
def aZP:dB:=⟨133,Tryz.f133,[.v (.str)],[.cons .str JY,.bool],[],[(55,S55),(204,aZK),(205,aZO)],false,[]⟩
theorem bIC:FO aZP:=mo Tryz.func133 ⟨QB,aSq,aSs,trivial⟩
def aNC (x0:ByteArray):Prop:=((P55 x0 (aA #[32]))/\(if ((↑(aN (bY x0 (aA #[32]))):Int) != 3)=true then True else ((0<(↑(aN (bY x0 (aA #[32]))):Int))/\((1<(↑(aN (bY x0 (aA #[32]))):Int))/\((aJB (aD (bY x0 (aA #[32])) 1 aC))/\((2<(↑(aN (bY x0 (aA #[32]))):Int))/\((aJB (aD (bY x0 (aA #[32])) 2 aC))/\((aNB (aD (bY x0 (aA #[32])) 0 aC,AX (aD (bY x0 (aA #[32])) 1 aC),AX (aD (bY x0 (aA #[32])) 2 aC),()))/\True))))))))
def rX (x0:ByteArray):ByteArray×Int×Int×Unit:=(if ((↑(aN (bY x0 (aA #[32]))):Int) != 3)=true then (aC,0,0,()) else (if (!aB (QO (aD (bY x0 (aA #[32])) 0 aC,AX (aD (bY x0 (aA #[32])) 1 aC),AX (aD (bY x0 (aA #[32])) 2 aC),()))==aB x0)=true then (aC,0,0,()) else (aD (bY x0 (aA #[32])) 0 aC,AX (aD (bY x0 (aA #[32])) 1 aC),AX (aD (bY x0 (aA #[32])) 2 aC),())))
def F2 (x0:ByteArray):Bool:=(if ((↑(aN (bY x0 (aA #[32]))):Int) != 3)=true then false else (if (!aB (QO (aD (bY x0 (aA #[32])) 0 aC,AX (aD (bY x0 (aA #[32])) 1 aC),AX (aD (bY x0 (aA #[32])) 2 aC),()))==aB x0)=true then false else true))
def aZQ:=dR aZP (λ⟨x0,_⟩=>aNC x0) λ⟨x0,_⟩=>[⟨.cons .str JY,rX x0⟩,⟨.bool,F2 x0⟩]
theorem aSt:c7 133 aZQ:=dF bIC λ⟨x0,_⟩ h _ K q=>c1 h λh=>o3 h (λh=>rt) λh=>tP ((by decide):(0:Int)<=(0:Int))<|c1 h λh=>tP ((by decide):(0:Int)<=(1:Int))<|c1 h λh=>c1 h λh=>tP ((by decide):(0:Int)<=(2:Int))<|c1 h λh=>c1 h λh=>c1 h λh=>e2 (rt) (rt)
def aZR:dB:=⟨209,Tryz.f209,[.v gT],[.str],[],[(118,aR3),(127,aGz)],false,[]⟩
theorem bID:FO aZR:=mo Tryz.func209 ⟨aJc,QI,trivial⟩
def aND (x0:ByteArray×Int×Int×Int×Unit):Prop:=(if (!rU x0)=true then True else ((aH x0.1+1<=9223372036854775807)/\((aH (x0.1++aA #[32])+aH (n9 [x0.2.1,x0.2.2.1,x0.2.2.2.1])<=9223372036854775807)/\True)))
def QP (x0:ByteArray×Int×Int×Int×Unit):ByteArray:=(if (!rU x0)=true then aA #[] else x0.1++aA #[32]++n9 [x0.2.1,x0.2.2.1,x0.2.2.2.1])
def aZS:=dR aZR (λ⟨x0,_⟩=>aND x0) λ⟨x0,_⟩=>[⟨.str,QP x0⟩]
theorem aSu:c7 209 aZS:=dF bID λ⟨x0,_⟩ h _ K q=>tv<|N0 h (λh=>rt) λh=>c1 h λh=>tv<|c1 h λh=>rt
def aZT:dB:=⟨136,Tryz.f136,[.v (.str)],[.cons .str fL,.bool],[],[(198,aSa),(209,aZS)],false,[]⟩
theorem bIE:FO aZT:=mo Tryz.func136 ⟨aJ4,aSu,trivial⟩
def aNE (x0:ByteArray):Prop:=((aN6 x0 3)/\(if (!AV x0 3)=true then True else ((0<(↑(aN (gE x0 3)):Int))/\((1<(↑(aN (gE x0 3)):Int))/\((2<(↑(aN (gE x0 3)):Int))/\((aND (AU x0 3,aD (gE x0 3) 0 0,aD (gE x0 3) 1 0,aD (gE x0 3) 2 0,()))/\True))))))
def rY (x0:ByteArray):ByteArray×Int×Int×Int×Unit:=(if (!AV x0 3)=true then (aC,0,0,0,()) else (if (!aB (QP (AU x0 3,aD (gE x0 3) 0 0,aD (gE x0 3) 1 0,aD (gE x0 3) 2 0,()))==aB x0)=true then (aC,0,0,0,()) else (AU x0 3,aD (gE x0 3) 0 0,aD (gE x0 3) 1 0,aD (gE x0 3) 2 0,())))
def F3 (x0:ByteArray):Bool:=(if (!AV x0 3)=true then false else (if (!aB (QP (AU x0 3,aD (gE x0 3) 0 0,aD (gE x0 3) 1 0,aD (gE x0 3) 2 0,()))==aB x0)=true then false else true))
def aZU:=dR aZT (λ⟨x0,_⟩=>aNE x0) λ⟨x0,_⟩=>[⟨.cons .str fL,rY x0⟩,⟨.bool,F3 x0⟩]
theorem aSv:c7 136 aZU:=dF bIE λ⟨x0,_⟩ h _ K q=>c1 h λh=>o3 h (λh=>rt) λh=>tP ((by decide):(0:Int)<=(0:Int))<|c1 h λh=>tP ((by decide):(0:Int)<=(1:Int))<|c1 h λh=>tP ((by decide):(0:Int)<=(2:Int))<|c1 h λh=>c1 h λh=>e2 (rt) (rt)
def aNF:dB:=⟨349,Tryz.f349,[.v (.int .i64)],[.str],[],[(185,aNt),(195,aJq)],false,[]⟩
theorem bIF:FO aNF:=mo Tryz.func349 ⟨aBU,V4,trivial⟩
def aSw (v13:Int) (h0:List ByteArray) (x0:Int):eD×bG:=([eI 0 x0,eW 3 0,eW 11 1,eI 12 3,eI 13 v13],[jB .str h0,jB .str [aA #[114,111,112,101],aA #[102,105,114,115,116],aA #[114,97,100,105,111]]])
mutual
def aJD:Nat->Int->List aY->Prop
 | 0,_,_=>False
 | n+1,x0,ds=>(if (!FU x0)=true then (ds=[aP .str (aA #[])]) else (if (x0==0)=true then (ds=[aP .str (aA #[110,111,110,101])]) else (I6 n (0) ([]) (x0) ds)))
def I6:Nat->Int->List ByteArray->Int->List aY->Prop
 | 0,_,_,_,_=>False
 | n+1,v13,h0,x0,ds=>(if (decide (v13<3))=true then ((0<=v13)/\(v13<3)/\((0<=v13)/\(cC .i64 (cQ x0 (2 ^ sX (aE v13) 64)))/\(if (bD cN (↑(j3 (dX 64 (cQ x0 (2 ^ sX (aE v13) 64)) &&& dX 64 1)):Int)==1)=true then (((aN h0+1)*16<=140737488355328)/\((cC .i64 (v13+1))/\(I6 n (v13+1) (h0++[aD [aA #[114,111,112,101],aA #[102,105,114,115,116],aA #[114,97,100,105,111]] (aE v13) aC]) (x0) ds))) else ((cC .i64 (v13+1))/\(I6 n (v13+1) (h0) (x0) ds))))) else ((Sc h0 (aA #[43]))/\(ds=[aP .str (tE h0 (aA #[43]))])))
end
theorem aSx (ds:List aY) (K:jK) (q:Nat->Value):∀ n,(∀ {x0},aJD n x0 ds->St aNF (x0,()) ds [] K q)/\(∀ {v13 h0 x0},I6 n v13 h0 x0 ds->Cu aNF 7 (aSw v13 h0 x0) ds [] K q):=by
 intro n
 induction n with
 | zero=>exact ⟨λh=>h.elim,λh=>h.elim⟩
 | succ n ih =>
 obtain ⟨i,i7⟩:=ih;exact ⟨λh=>tv<|bR h (λh=>rh h) λh=>bR h (λh=>rh h) λh=>jn [(3,.str)] (i7 h),
  λh=>bR h (λh=>c2 h λh=>c2 h λh=>bR h (λh=>c1 h λh=>c1 h λh=>jn [(3,.str)] (i7 h)) λh=>c1 h λh=>jn [(3,.str)] (i7 h)) λh=>c1 h λh=>rh h⟩
abbrev N5:List ByteArray:=[aA #[114,111,112,101],aA #[102,105,114,115,116],aA #[114,97,100,105,111]]
def QQ (x0:Int) (i:Nat):Bool:=bD cN (↑(j3 (dX 64 (cQ x0 (2 ^ sX i 64)) &&& dX 64 1)):Int)==1
def Gl (x0:Int):Nat->Nat->List ByteArray
 | 0,_=>[]
 | k+1,i=>if QQ x0 i=true then N5.getD i aC :: Gl x0 k (i+1) else Gl x0 k (i+1)
def QR (x0:Int):ByteArray:=if (!FU x0)=true then aA #[] else if (x0==0)=true then aA #[110,111,110,101] else tE (Gl x0 3 0) (aA #[43])
def bIG (x0:Int):Prop:=True
theorem aG1 {x0:Int} (h:FU x0=true):0<=x0/\x0<=7:=by
 unfold FU cD at h;split at h
 ·rename_i c;exact ⟨of_decide_eq_true c,of_decide_eq_true h⟩
 ·cases h
theorem aSy {x0:Int} (h1:0<=x0) (h2:x0<=7) (i:Nat):cC .i64 (cQ x0 (2 ^ sX i 64)):=by
 have hp:(0:Int)<2 ^ sX i 64:=Int.pow_pos (by decide);rw [fG _ (by omega),aK];have:=Int.ediv_nonneg h1 (Int.le_of_lt hp);have:=Int.ediv_le_self (2 ^ sX i 64) h1;omega
theorem aSz (x0:Int) (h1:0<=x0) (h2:x0<=7) (T:List ByteArray) (hT:Sc T (aA #[43])):∀ (k i:Nat) (h0:List ByteArray),i+k=3->h0++Gl x0 k i=T->h0.length<=i->I6 (k+1) (i:Int) h0 x0 [⟨.str,tE T (aA #[43])⟩]:=by
 intro k
 induction k with
 | zero =>
  intro i h0 hi hh hl;rw [Gl,c6] at hh;subst hh;rw [I6,if_neg (by simp only [decide_eq_true_eq];omega)];exact ⟨hT,rfl⟩
 | succ k ih =>
  intro i h0 hi hh hl;have e3:(i:Int)+1=((i+1:Nat):Int):=by omega
  rw [Gl] at hh;rw [I6,if_pos (by simp only [decide_eq_true_eq];omega),e3,aF];refine ⟨by omega,by omega,by omega,aSy h1 h2 i,?_⟩;by_cases c:QQ x0 i=true
  ·rw [if_pos c] at hh;exact (if_pos c).mpr ⟨by omega,by rw [aK];omega,ih (i+1) _ (by omega) (by rw [bS];exact hh) (by rw [aO,cP];omega)⟩
  ·rw [if_neg c] at hh;exact (if_neg c).mpr ⟨by rw [aK];omega,ih (i+1) _ (by omega) hh (by omega)⟩
theorem aS0:∀ (b0 b1 b2:Bool),Sc ((if b0=true then N5.getD 0 aC :: (if b1=true then N5.getD 1 aC :: (if b2=true then [N5.getD 2 aC] else []) else (if b2=true then [N5.getD 2 aC] else [])) else (if b1=true then N5.getD 1 aC :: (if b2=true then [N5.getD 2 aC] else []) else (if b2=true then [N5.getD 2 aC] else [])))) (aA #[43]):=by
 intro b0 b1 b2;cases b0 <;> cases b1 <;> cases b2 <;> exact ⟨by decide,by decide⟩
theorem aS1 (x0:Int):∃ n,aJD n x0 [⟨.str,QR x0⟩]:=by
 unfold QR;by_cases c:(!FU x0)=true
 ·exact ⟨1,by rw [aJD,if_pos c,if_pos c]⟩
 ·obtain ⟨h1,h2⟩:=aG1 (x0:=x0) (by simpa using c);by_cases d:(x0==0)=true
  ·exact ⟨1,by rw [aJD,if_neg c,if_pos d,if_neg c,if_pos d]⟩
  ·refine ⟨5,?_⟩;rw [aJD,if_neg c,if_neg d,if_neg c,if_neg d];exact aSz x0 h1 h2 _ (aS0 (QQ x0 0) (QQ x0 1) (QQ x0 2)) 3 0 [] rfl rfl (aT _)
def aZV:=dR aNF (λ⟨x0,_⟩=>bIG x0) λ⟨x0,_⟩=>[⟨.str,QR x0⟩]
theorem aS2:c7 349 aZV:=dF bIF (λ⟨x0,_⟩ h hwf K q =>
 let ⟨n,hn⟩:=aS1 x0
 (aSx _ K q n).1 hn)
def aNG:dB:=⟨284,Tryz.f284,[.v (.str)],[.int .i64,.bool],[],[(349,aZV)],false,[]⟩
theorem bIH:FO aNG:=mo Tryz.func284 ⟨aS2,trivial⟩
def aS3 (v5:Int) (x0:ByteArray):eD×bG:=([eS 0 x0,eI 5 v5],[])
mutual
def aZW:Nat->ByteArray->List aY->Prop
 | 0,_,_=>False
 | n+1,x0,ds=>(MU n (0) (x0) ds)
def MU:Nat->Int->ByteArray->List aY->Prop
 | 0,_,_,_=>False
 | n+1,v5,x0,ds=>(if (decide (v5<8))=true then (if (aB (QR v5)==aB x0)=true then (ds=[aP (.int .i64) v5,aP .bool true]) else ((cC .i64 (v5+1))/\(MU n (v5+1) (x0) ds))) else (ds=[aP (.int .i64) 0,aP .bool false]))
end
theorem aS4 (ds:List aY) (K:jK) (q:Nat->Value):∀ n,(∀ {x0},aZW n x0 ds->St aNG (x0,()) ds [] K q)/\(∀ {v5 x0},MU n v5 x0 ds->Cu aNG 2 (aS3 v5 x0) ds [] K q):=by
 intro n
 induction n with
 | zero=>exact ⟨λh=>h.elim,λh=>h.elim⟩
 | succ n ih =>
 obtain ⟨i,i2⟩:=ih;exact ⟨λh=>jp (i2 h),
  λh=>bR h (λh=>tv<|bR h (λh=>rh h) λh=>c1 h λh=>jp (i2 h)) λh=>rh h⟩
def aQh (x0:ByteArray) (v:Int):Bool:=aB (QR v)==aB x0
def UB (x0:ByteArray):Nat->Int->Int×Bool
 | 0,_=>(0,false)
 | k+1,v=>if aQh x0 v=true then (v,true) else UB x0 k (v+1)
def aCp (x0:ByteArray):Int:=(UB x0 8 0).1
def QS (x0:ByteArray):Bool:=(UB x0 8 0).2
def bII (x0:ByteArray):Prop:=True
theorem aS5 (x0:ByteArray):∀ (k:Nat) (v:Int),v+(k:Int)=8->0<=v->MU (k+1) v x0 [⟨.int .i64,(UB x0 k v).1⟩,⟨.bool,(UB x0 k v).2⟩]:=by
 intro k
 induction k with
 | zero =>
  intro v hv h0;rw [MU,if_neg (by simp only [decide_eq_true_eq];omega)];rfl
 | succ k ih =>
  intro v hv h0;rw [MU,if_pos (by simp only [decide_eq_true_eq];omega),UB];by_cases c:aQh x0 v=true
  ·rw [if_pos c];exact (if_pos c).mpr rfl
  ·rw [if_neg c];exact (if_neg c).mpr ⟨by rw [aK];omega,ih (v+1) (by omega) (by omega)⟩
def aZX:=dR aNG (λ⟨x0,_⟩=>bII x0) λ⟨x0,_⟩=>[⟨.int .i64,aCp x0⟩,⟨.bool,QS x0⟩]
theorem aS6:c7 284 aZX:=dF bIH (λ⟨x0,_⟩ h hwf K q =>
 (aS4 _ K q 10).1 (by rw [aZW];exact aS5 x0 8 0 rfl (gA _)))
def aZY:dB:=⟨213,Tryz.f213,[.v (.str)],[.str,.int .i64,.int .i64,.bool],[],[(55,S55),(284,aZX),(73,S73)],false,[]⟩
theorem bIJ:FO aZY:=mo Tryz.func213 ⟨QB,aS6,aFb,trivial⟩
def aJE (x0:ByteArray):Prop:=((P55 x0 (aA #[32]))/\(if ((↑(aN (bY x0 (aA #[32]))):Int) != 3)=true then True else ((1<(↑(aN (bY x0 (aA #[32]))):Int))/\((2<(↑(aN (bY x0 (aA #[32]))):Int))/\((P73 (aD (bY x0 (aA #[32])) 2 aC))/\((0<(↑(aN (bY x0 (aA #[32]))):Int))/\True))))))
def I7 (x0:ByteArray):ByteArray:=(if ((↑(aN (bY x0 (aA #[32]))):Int) != 3)=true then aA #[] else (if (QS (aD (bY x0 (aA #[32])) 1 aC))=true then aD (bY x0 (aA #[32])) 0 aC else aD (bY x0 (aA #[32])) 0 aC))
def I8 (x0:ByteArray):Int:=(if ((↑(aN (bY x0 (aA #[32]))):Int) != 3)=true then 0 else (if (QS (aD (bY x0 (aA #[32])) 1 aC))=true then aCp (aD (bY x0 (aA #[32])) 1 aC) else aCp (aD (bY x0 (aA #[32])) 1 aC)))
def I9 (x0:ByteArray):Int:=(if ((↑(aN (bY x0 (aA #[32]))):Int) != 3)=true then 0 else (if (QS (aD (bY x0 (aA #[32])) 1 aC))=true then EW (aD (bY x0 (aA #[32])) 2 aC) else EW (aD (bY x0 (aA #[32])) 2 aC)))
def QT (x0:ByteArray):Bool:=(if ((↑(aN (bY x0 (aA #[32]))):Int) != 3)=true then false else (if (QS (aD (bY x0 (aA #[32])) 1 aC))=true then Yi (aD (bY x0 (aA #[32])) 2 aC) else false))
def aS7:=dR aZY (λ⟨x0,_⟩=>aJE x0) λ⟨x0,_⟩=>[⟨.str,I7 x0⟩,⟨.int .i64,I8 x0⟩,⟨.int .i64,I9 x0⟩,⟨.bool,QT x0⟩]
theorem aJF:c7 213 aS7:=dF bIJ λ⟨x0,_⟩ h _ K q=>c1 h λh=>e4h h (λh=>rt) λh=>tP ((by decide):(0:Int)<=(1:Int))<|c1 h λh=>tv<|tP ((by decide):(0:Int)<=(2:Int))<|c1 h λh=>c1 h λh=>tP ((by decide):(0:Int)<=(0:Int))<|c1 h λh=>e4 (rt) (rt)
def aZZ:dB:=⟨139,Tryz.f139,[.v (.str)],[.cons .str JY,.bool],[],[(213,aS7),(120,aR9)],false,[]⟩
theorem bIK:FO aZZ:=mo Tryz.func139 ⟨aJF,aJg,trivial⟩
def aS8 (x0:ByteArray):Prop:=((aJE x0)/\True)
def rZ (x0:ByteArray):ByteArray×Int×Int×Unit:=(if (!QT x0)=true then (aC,0,0,()) else (if (!yH (I7 x0,I8 x0,I9 x0,()))=true then (aC,0,0,()) else (I7 x0,I8 x0,I9 x0,())))
def F4 (x0:ByteArray):Bool:=(if (!QT x0)=true then false else (if (!yH (I7 x0,I8 x0,I9 x0,()))=true then false else true))
def bAa:=dR aZZ (λ⟨x0,_⟩=>aS8 x0) λ⟨x0,_⟩=>[⟨.cons .str JY,rZ x0⟩,⟨.bool,F4 x0⟩]
theorem aS9:c7 139 bAa:=dF bIK λ⟨x0,_⟩ h _ K q=>c1 h λh=>e2 (tT<|rt) (tv<|e2 (rt) (rt))
def bAb:dB:=⟨142,Tryz.f142,[.v (.str)],[.cons .str JY,.bool],[],[(213,aS7),(121,aRA)],false,[]⟩
theorem bIL:FO bAb:=mo Tryz.func142 ⟨aJF,aJi,trivial⟩
def aSA (x0:ByteArray):Prop:=((aJE x0)/\True)
def r9 (x0:ByteArray):ByteArray×Int×Int×Unit:=(if (!QT x0)=true then (aC,0,0,()) else (if (!yI (I7 x0,I8 x0,I9 x0,()))=true then (aC,0,0,()) else (I7 x0,I8 x0,I9 x0,())))
def F5 (x0:ByteArray):Bool:=(if (!QT x0)=true then false else (if (!yI (I7 x0,I8 x0,I9 x0,()))=true then false else true))
def bAc:=dR bAb (λ⟨x0,_⟩=>aSA x0) λ⟨x0,_⟩=>[⟨.cons .str JY,r9 x0⟩,⟨.bool,F5 x0⟩]
theorem aSB:c7 142 bAc:=dF bIL λ⟨x0,_⟩ h _ K q=>c1 h λh=>e2 (tT<|rt) (tv<|e2 (rt) (rt))
def bAd:dB:=⟨220,Tryz.f220,[.v (.str),.v (.int .i64)],[.sl (.int .i64),.bool],[],[(74,S74)],false,[]⟩
theorem bIM:FO bAd:=mo Tryz.func220 ⟨aJw,trivial⟩
def aG2 (x0:ByteArray) (x1:Int):Prop:=((P74 x0)/\True)
def dC (x0:ByteArray) (x1:Int):List Int:=uX x0
def mR (x0:ByteArray) (x1:Int):Bool:=(↑(aN (uX x0)):Int)==x1
def aG3:=dR bAd (λ⟨x0,x1,_⟩=>aG2 x0 x1) λ⟨x0,x1,_⟩=>[⟨.sl (.int .i64),dC x0 x1⟩,⟨.bool,mR x0 x1⟩]
theorem QU:c7 220 aG3:=dF bIM λ⟨x0,x1,_⟩ h _ K q=>c1 h λh=>rt
def bAe:dB:=⟨145,Tryz.f145,[.v (.str)],[.cons (.int .i64) JY,.bool],[],[(220,aG3),(111,aRt)],false,[]⟩
theorem bIN:FO bAe:=mo Tryz.func145 ⟨QU,aIH,trivial⟩
def aNH (x0:ByteArray):Prop:=((aG2 x0 3)/\(if (!mR x0 3)=true then True else ((0<(↑(aN (dC x0 3)):Int))/\((1<(↑(aN (dC x0 3)):Int))/\((2<(↑(aN (dC x0 3)):Int))/\True)))))
def sA (x0:ByteArray):Int×Int×Int×Unit:=(if (!mR x0 3)=true then (0,0,0,()) else (if (!wE (aD (dC x0 3) 0 0,aD (dC x0 3) 1 0,aD (dC x0 3) 2 0,()))=true then (0,0,0,()) else (aD (dC x0 3) 0 0,aD (dC x0 3) 1 0,aD (dC x0 3) 2 0,())))
def F6 (x0:ByteArray):Bool:=(if (!mR x0 3)=true then false else (if (!wE (aD (dC x0 3) 0 0,aD (dC x0 3) 1 0,aD (dC x0 3) 2 0,()))=true then false else true))
def bAf:=dR bAe (λ⟨x0,_⟩=>aNH x0) λ⟨x0,_⟩=>[⟨.cons (.int .i64) JY,sA x0⟩,⟨.bool,F6 x0⟩]
theorem aSC:c7 145 bAf:=dF bIN λ⟨x0,_⟩ h _ K q=>c1 h λh=>o3 h (λh=>rt) λh=>tP ((by decide):(0:Int)<=(0:Int))<|c1 h λh=>tP ((by decide):(0:Int)<=(1:Int))<|c1 h λh=>tP ((by decide):(0:Int)<=(2:Int))<|c1 h λh=>tv<|e2 (rt) (rt)
def bAg:dB:=⟨146,Tryz.f146,[.own fL,.v fL,.v (.int .i64)],[.sl fL,.int .i64],[],[(77,S77)],false,[]⟩
theorem bIO:FO bAg:=mo Tryz.func146 ⟨aQa,trivial⟩
def aNI (x0:List cU) (x1:Int×Int×Int×Unit) (x2:Int):Prop:=(if (decide ((x0.length:Int)>=x2))=true then True else ((P77 x0)/\((aN (Yt x0)+1)*24<=140737488355328)/\True))
def QV (x0:List cU) (x1:Int×Int×Int×Unit) (x2:Int):List cU:=(if (decide ((x0.length:Int)>=x2))=true then x0 else Yt x0++[x1])
def F7 (x0:List cU) (x1:Int×Int×Int×Unit) (x2:Int):Int:=(if (decide ((x0.length:Int)>=x2))=true then 5 else 0)
def bAh:=wD bAg (λ⟨x0,x1,x2,_⟩=>aNI x0 x1 x2) (λ⟨x0,x1,x2,_⟩=>[none]) λ⟨x0,x1,x2,_⟩=>[⟨.sl fL,QV x0 x1 x2⟩,⟨.int .i64,F7 x0 x1 x2⟩]
theorem aSD:c7 146 bAh:=dF bIO λ⟨x0,x1,x2,_⟩ h _ K q=>o3 h (λh=>rt) λh=>cS h λs0 h=>cS h λs1 h=>tP s0<|tP s1<|tP (VP [eW 0 0,eT 1 fL x1,eI 2 x2,eO 4 1 0 [],eW 6 2,eI 7 0,eW 8 0,eI 9 (x0.length:Int),eI 10 x2,eB 11 (decide ((x0.length:Int)>=x2)),eW 13 0,eT 15 fL x1,eW 16 3,eW 17 2] [jB fL x0,some (fY fL [x1] true none (some false)),jB fL (Yt x0++[x1]),jB fL [x1]])<|rt
def bAi:dB:=⟨352,Tryz.f352,[.v (.int .i64),.v (.int .i64)],[.int .i64],[],[],false,[]⟩
theorem bIP:FO bAi:=mo Tryz.func352 trivial
def aJG (x0:Int) (x1:Int):Prop:=(if (x1==2)=true then ((cC .i64 (c8 x0 4))/\True) else True)
def pS (x0:Int) (x1:Int):Int:=(if (x1==2)=true then (if (c8 x0 4==0)=true then 29 else 28) else (if (x1==4)=true then 30 else (if (x1==6)=true then 30 else (if (x1==9)=true then 30 else (if (x1==11)=true then 30 else 31)))))
def aSE:=dR bAi (λ⟨x0,x1,_⟩=>aJG x0 x1) λ⟨x0,x1,_⟩=>[⟨.int .i64,pS x0 x1⟩]
theorem aJH:c7 352 aSE:=dF bIP λ⟨x0,x1,_⟩ h _ K q=>N0 h (λh=>tP ((by decide):(4:Int)≠(0:Int))<|c1 h λh=>e1 (rt) (rt)) λh=>e1 (rt) (e1 (rt) (e1 (rt) (e1 (rt) (rt))))
def aNJ:dB:=⟨321,Tryz.f321,[.v (.int .i64),.v (.int .i64),.v (.int .i64)],[.int .i64],[],[(352,aSE)],false,[]⟩
theorem bIQ:FO aNJ:=mo Tryz.func321 ⟨aJH,trivial⟩
def aSF (v7:Int) (v8:Int) (x0:Int) (x1:Int):eD×bG:=([eI 0 x0,eI 1 x1,eI 7 v7,eI 8 v8],[])
mutual
def aSG:Nat->Int->Int->Int->List aY->Prop
 | 0,_,_,_,_=>False
 | n+1,x0,x1,x2,ds=>((cC .i64 (x0 - 2000))/\((cC .i64 ((x0 - 2000)*365))/\((cC .i64 (x0 - 1997))/\((cC .i64 (bM (x0 - 1997) 4))/\((cC .i64 ((x0 - 2000)*365+bM (x0 - 1997) 4))/\((cC .i64 ((x0 - 2000)*365+bM (x0 - 1997) 4+x2))/\((cC .i64 ((x0 - 2000)*365+bM (x0 - 1997) 4+x2 - 1))/\(MV n ((x0 - 2000)*365+bM (x0 - 1997) 4+x2 - 1) (1) (x0) (x1) ds))))))))
def MV:Nat->Int->Int->Int->Int->List aY->Prop
 | 0,_,_,_,_,_=>False
 | n+1,v7,v8,x0,x1,ds=>(if (decide (v8<x1))=true then ((aJG x0 v8)/\((cC .i64 (v7+pS x0 v8))/\((cC .i64 (v8+1))/\(MV n (v7+pS x0 v8) (v8+1) (x0) (x1) ds)))) else (ds=[aP (.int .i64) v7]))
end
theorem aSH (ds:List aY) (K:jK) (q:Nat->Value):∀ n,(∀ {x0 x1 x2},aSG n x0 x1 x2 ds->St aNJ (x0,x1,x2,()) ds [] K q)/\(∀ {v7 v8 x0 x1},MV n v7 v8 x0 x1 ds->Cu aNJ 3 (aSF v7 v8 x0 x1) ds [] K q):=by
 intro n
 induction n with
 | zero=>exact ⟨λh=>h.elim,λh=>h.elim⟩
 | succ n ih =>
 obtain ⟨i,i3⟩:=ih;exact ⟨λ{x0} {x1} {x2} h=>c1 h λh=>c1 h λh=>c1 h λh=>tP ((by decide):(4:Int)≠(0:Int))<|c1 h λh=>c1 h λh=>c1 h λh=>c1 h λh=>jp (i3 h),
  λh=>bR h (λh=>c1 h λh=>c1 h λh=>c1 h λh=>jp (i3 h)) λh=>rh h⟩
def mP (y:Int):Nat->Int
 | 0=>0
 | k+1=>mP y k+pS y ((k:Int)+1)
def UC (y d:Int):Int:=(y - 2000)*365+bM (y - 1997) 4+d - 1
def gK (x0 x1 x2:Int):Int:=UC x0 x2+mP x0 (x1 - 1).toNat
def Yz (x0 x1 x2:Int):Prop:=(2000<=x0/\x0<=2099)/\(1<=x1/\x1<=12)/\(1<=x2/\x2<=31)
theorem QW {y m:Int} (hy:2000<=y/\y<=2099):aJG y m/\28<=pS y m/\pS y m<=31:=by
 have e:c8 y 4=y % 4:=Int.tmod_eq_emod_of_nonneg (by omega);unfold aJG pS;rw [e];have hi:cC .i64 (y % 4):=by rw [aK];omega
 refine ⟨?_,?_,?_⟩
 ·split
  ·exact ⟨hi,trivial⟩
  ·trivial
 ·repeat' split
  all_goals omega
 ·repeat' split
  all_goals omega
theorem V5 {y:Int} (hy:2000<=y/\y<=2099):∀ k,0<=mP y k/\mP y k<=31*k
 | 0=>by simp [mP]
 | k+1=>by
  have:=V5 hy k;have:=QW hy (m:=(k:Int)+1);simp only [mP];omega
theorem aNK {y m:Int} (hy:2000<=y/\y<=2099) (hm:1<=m/\m<=12) (v:Int) (hv:0<=v/\v<=1000000):∀ (k i:Nat),(i:Int)+k=m - 1 ->
  MV (k+1) (v+mP y i) ((i:Int)+1) y m [⟨.int .i64,v+mP y (m - 1).toNat⟩]:=by
 intro k
 induction k with
 | zero =>
  intro i hi;rw [MV,if_neg (by simp;omega),show (m - 1).toNat=i by omega]
 | succ k ih =>
  intro i hi;obtain ⟨p,l1,l2⟩:=QW hy (m:=(i:Int)+1);obtain ⟨b1,b2⟩:=V5 hy i;rw [MV,if_pos (by simp;omega)];have e1:v+mP y i+pS y ((i:Int)+1)=v+mP y (i+1):=by simp only [mP];omega
  have e2:(i:Int)+1+1=((i+1:Nat):Int)+1:=by omega
  refine ⟨p,by rw [aK];omega,by rw [aK];omega,?_⟩;rw [e1,e2];exact ih (i+1) (by omega)
theorem aSI (x0 x1 x2:Int) (h:Yz x0 x1 x2):aSG ((x1 - 1).toNat+1+1) x0 x1 x2 [⟨.int .i64,gK x0 x1 x2⟩]:=by
 obtain ⟨h0,h1,h2⟩:=h;have e:bM (x0 - 1997) 4=(x0 - 1997) / 4:=gF (by omega);rw [aSG];have:=aNK h0 h1 (UC x0 x2) (by unfold UC;rw [e];omega) (x1 - 1).toNat 0 (by omega);refine ⟨by rw [aK];omega,by rw [aK];omega,by rw [aK];omega,by rw [aK,e];omega,by rw [aK,e];omega,by rw [aK,e];omega,by rw [aK,e];omega,?_⟩;simpa [mP,gK,UC] using this
def aSJ:=dR aNJ (λ⟨x0,x1,x2,_⟩=>Yz x0 x1 x2) λ⟨x0,x1,x2,_⟩=>[⟨.int .i64,gK x0 x1 x2⟩]
theorem aJI:c7 321 aSJ:=dF bIQ (λ⟨x0,x1,x2,_⟩ h hwf K q =>
 (aSH _ K q _).1 (aSI x0 x1 x2 h))
def bAj:dB:=⟨289,Tryz.f289,[.v (.int .i64),.v (.int .i64),.v (.int .i64)],[.int .i64,.int .i64],[],[(108,p8),(352,aSE),(321,aSJ)],false,[]⟩
theorem bIR:FO bAj:=mo Tryz.func289 ⟨iA,aJH,aJI,trivial⟩
def aSK (x0:Int) (x1:Int) (x2:Int):Prop:=(if (!cD x0 2000 2099)=true then True else (if (!cD x1 1 12)=true then True else ((aJG x0 x1)/\(if (!cD x2 1 (pS x0 x1))=true then True else ((Yz x0 x1 x2)/\True)))))
def Ia (x0:Int) (x1:Int) (x2:Int):Int:=(if (!cD x0 2000 2099)=true then 0 else (if (!cD x1 1 12)=true then 0 else (if (!cD x2 1 (pS x0 x1))=true then 0 else gK x0 x1 x2)))
def F8 (x0:Int) (x1:Int) (x2:Int):Int:=(if (!cD x0 2000 2099)=true then 2 else (if (!cD x1 1 12)=true then 2 else (if (!cD x2 1 (pS x0 x1))=true then 2 else 0)))
def bAk:=dR bAj (λ⟨x0,x1,x2,_⟩=>aSK x0 x1 x2) λ⟨x0,x1,x2,_⟩=>[⟨.int .i64,Ia x0 x1 x2⟩,⟨.int .i64,F8 x0 x1 x2⟩]
theorem aSL:c7 289 bAk:=dF bIR λ⟨x0,x1,x2,_⟩ h _ K q=>tv<|o3 h (λh=>tT<|tT<|rt) λh=>tv<|o3 h (λh=>tT<|rt) λh=>c1 h λh=>tv<|o3 h (λh=>rt) λh=>c1 h λh=>rt
def aJJ:dB:=⟨240,Tryz.f240,[.v (.int .i64)],[.int .i64,.int .i64,.int .i64],[],[(321,aSJ)],false,[]⟩
theorem bIS:FO aJJ:=mo Tryz.func240 ⟨aJI,trivial⟩
def aSM (v5:Int) (x0:Int):eD×bG:=([eI 0 x0,eI 5 v5,eI 6 1],[])
def aSN (v6:Int) (x0:Int) (v5:Int):eD×bG:=([eI 0 x0,eI 5 v5,eI 6 v6],[])
mutual
def aSO:Nat->Int->List aY->Prop
 | 0,_,_=>False
 | n+1,x0,ds=>(MW n (2000) (x0) ds)
def MW:Nat->Int->Int->List aY->Prop
 | 0,_,_,_=>False
 | n+1,v5,x0,ds=>(if (decide (v5<2099))=true then ((cC .i64 (v5+1))/\((Yz (v5+1) 1 1)/\(if (decide (gK (v5+1) 1 1<=x0))=true then ((cC .i64 (v5+1))/\(MW n (v5+1) (x0) ds)) else (Ib n (1) (x0) (v5) ds)))) else (Ib n (1) (x0) (v5) ds))
def Ib:Nat->Int->Int->Int->List aY->Prop
 | 0,_,_,_,_=>False
 | n+1,v6,x0,v5,ds=>(if (decide (v6<12))=true then ((cC .i64 (v6+1))/\((Yz v5 (v6+1) 1)/\(if (decide (gK v5 (v6+1) 1<=x0))=true then ((cC .i64 (v6+1))/\(Ib n (v6+1) (x0) (v5) ds)) else ((Yz v5 v6 1)/\((cC .i64 (x0 - gK v5 v6 1))/\((cC .i64 (x0 - gK v5 v6 1+1))/\(ds=[aP (.int .i64) v5,aP (.int .i64) v6,aP (.int .i64) (x0 - gK v5 v6 1+1)]))))))) else ((Yz v5 v6 1)/\((cC .i64 (x0 - gK v5 v6 1))/\((cC .i64 (x0 - gK v5 v6 1+1))/\(ds=[aP (.int .i64) v5,aP (.int .i64) v6,aP (.int .i64) (x0 - gK v5 v6 1+1)])))))
end
theorem aSP (ds:List aY) (K:jK) (q:Nat->Value):∀ n,(∀ {x0},aSO n x0 ds->St aJJ (x0,()) ds [] K q)/\(∀ {v5 x0},MW n v5 x0 ds->Cu aJJ 2 (aSM v5 x0) ds [] K q)/\(∀ {v6 x0 v5},Ib n v6 x0 v5 ds->Cu aJJ 4 (aSN v6 x0 v5) ds [] K q):=by
 intro n
 induction n with
 | zero=>exact ⟨λh=>h.elim,λh=>h.elim,λh=>h.elim⟩
 | succ n ih =>
 obtain ⟨i,i2,i4⟩:=ih;exact ⟨λh=>jp (i2 h),
  λh=>bR h (λh=>c1 h λh=>c1 h λh=>bR h (λh=>c1 h λh=>jp (i2 h)) λh=>jp (i4 h)) λh=>tF<|jp (i4 h),
  λh=>bR h (λh=>c1 h λh=>c1 h λh=>bR h (λh=>c1 h λh=>jp (i4 h)) λh=>c1 h λh=>c1 h λh=>c1 h λh=>rh h) λh=>tF<|c1 h λh=>c1 h λh=>c1 h λh=>rh h⟩
def KF (day:Int):Nat->Int->Int
 | 0,y=>y
 | k+1,y=>if gK (y+1) 1 1<=day then KF day k (y+1) else y
def KG (day y:Int):Nat->Int->Int
 | 0,m=>m
 | k+1,m=>if gK y (m+1) 1<=day then KG day y k (m+1) else m
def yK (x0:Int):Int:=KF x0 99 2000
def AY (x0:Int):Int:=KG x0 (yK x0) 11 1
def Ic (x0:Int):Int:=x0 - gK (yK x0) (AY x0) 1+1
def aSQ (x0:Int):Prop:=0<=x0/\x0<=1000000
theorem V6 {y m:Int} (hy:2000<=y/\y<=2099) (hm:1<=m/\m<=12):Yz y m 1/\0<=gK y m 1/\gK y m 1<=1000000:=by
 have e:bM (y - 1997) 4=(y - 1997) / 4:=gF (by omega);have:=V5 hy (m - 1).toNat;refine ⟨⟨hy,hm,by omega⟩,?_,?_⟩ <;> unfold gK UC <;> rw [e] <;> omega
theorem aFf {y day:Int} (hy:2000<=y/\y<=2099) (hd:0<=day/\day<=1000000) (e:Nat):∀ (k:Nat) (m:Int),m+k=12->1<=m ->
  Ib (k+1+e) m day y [⟨.int .i64,y⟩,⟨.int .i64,KG day y k m⟩,⟨.int .i64,day - gK y (KG day y k m) 1+1⟩]:=by
 intro k
 induction k with
 | zero =>
  intro m hm h1;obtain ⟨p,b1,b2⟩:=V6 hy (m:=m) (by omega);rw [show 0+1+e=e+1 by omega,Ib,if_neg (by simp;omega)];exact ⟨p,by rw [aK];omega,by rw [aK];omega,rfl⟩
 | succ k ih =>
  intro m hm h1;obtain ⟨p,b1,b2⟩:=V6 hy (m:=m) (by omega);obtain ⟨q,c1,c2⟩:=V6 hy (m:=m+1) (by omega);rw [show k+1+1+e=(k+1+e)+1 by omega,Ib,if_pos (by simp;omega)];refine ⟨by rw [aK];omega,q,?_⟩;unfold KG;by_cases hc:gK y (m+1) 1<=day
  ·rw [if_pos (by simpa using hc),if_pos hc];exact ⟨by rw [aK];omega,ih (m+1) (by omega) (by omega)⟩
  ·rw [if_neg (by simpa using hc),if_neg hc];exact ⟨p,by rw [aK];omega,by rw [aK];omega,rfl⟩
theorem aNL {day:Int} (hd:0<=day/\day<=1000000):∀ (k:Nat) (y:Int),y+k=2099->2000<=y ->
  MW (k+1+12) y day [⟨.int .i64,KF day k y⟩,⟨.int .i64,KG day (KF day k y) 11 1⟩,⟨.int .i64,day - gK (KF day k y) (KG day (KF day k y) 11 1) 1+1⟩]:=by
 intro k
 induction k with
 | zero =>
  intro y hy h1;rw [show 0+1+12=(11+1+0)+1 by omega,MW,if_neg (by simp;omega)];exact aFf (by omega) hd 0 11 1 (by omega) (by omega)
 | succ k ih =>
  intro y hy h1;obtain ⟨q,c1,c2⟩:=V6 (y:=y+1) (m:=1) (by omega) (by omega);rw [show k+1+1+12=(k+1+12)+1 by omega,MW,if_pos (by simp;omega)];refine ⟨by rw [aK];omega,q,?_⟩;unfold KF;by_cases hc:gK (y+1) 1 1<=day
  ·rw [if_pos (by simpa using hc),if_pos hc];exact ⟨by rw [aK];omega,ih (y+1) (by omega) (by omega)⟩
  ·rw [if_neg (by simpa using hc),if_neg hc,show k+1+12=11+1+(k+1) by omega];exact aFf (by omega) hd (k+1) 11 1 (by omega) (by omega)
theorem aSR (x0:Int) (h:aSQ x0):aSO (99+1+12+1) x0 [⟨.int .i64,yK x0⟩,⟨.int .i64,AY x0⟩,⟨.int .i64,Ic x0⟩]:=by
 rw [aSO];exact aNL h 99 2000 (by omega) (by omega)
def bAl:=dR aJJ (λ⟨x0,_⟩=>aSQ x0) λ⟨x0,_⟩=>[⟨.int .i64,yK x0⟩,⟨.int .i64,AY x0⟩,⟨.int .i64,Ic x0⟩]
theorem aSS:c7 240 bAl:=dF bIS (λ⟨x0,_⟩ h hwf K q =>
 (aSP _ K q _).1 (aSR x0 h))
def bAm:dB:=⟨159,Tryz.f159,[.v (.int .i64)],[.str],[],[(239,aJe),(240,bAl),(126,VZ),(241,aSm)],false,[]⟩
theorem bIT:FO bAm:=mo Tryz.func159 ⟨VW,aSS,DX,aJ7,trivial⟩
def OH (x0:Int):Prop:=(if (!rV x0)=true then True else ((aSQ x0)/\((BG (yK x0))/\((aH (dU (yK x0))+1<=9223372036854775807)/\((aCo (AY x0) 2)/\((aH (dU (yK x0)++aA #[45])+aH (uZ (AY x0) 2)<=9223372036854775807)/\((aH (dU (yK x0)++aA #[45]++uZ (AY x0) 2)+1<=9223372036854775807)/\((aCo (Ic x0) 2)/\((aH (dU (yK x0)++aA #[45]++uZ (AY x0) 2++aA #[45])+aH (uZ (Ic x0) 2)<=9223372036854775807)/\True)))))))))
def u0 (x0:Int):ByteArray:=(if (!rV x0)=true then aA #[] else dU (yK x0)++aA #[45]++uZ (AY x0) 2++aA #[45]++uZ (Ic x0) 2)
def aJK:=dR bAm (λ⟨x0,_⟩=>OH x0) λ⟨x0,_⟩=>[⟨.str,u0 x0⟩]
theorem V7:c7 159 aJK:=dF bIT λ⟨x0,_⟩ h _ K q=>tv<|N0 h (λh=>rt) λh=>c1 h λh=>c1 h λh=>c1 h λh=>c1 h λh=>c1 h λh=>c1 h λh=>c1 h λh=>c1 h λh=>rt
def bAn:dB:=⟨221,Tryz.f221,[.v (.str)],[.int .i64,.bool],[],[(55,S55),(290,aSi),(289,bAk),(159,aJK)],false,[]⟩
theorem bIU:FO bAn:=mo Tryz.func221 ⟨QB,aJ5,aSL,V7,trivial⟩
def aG4 (x0:ByteArray):Prop:=((P55 x0 (aA #[45]))/\(if ((↑(aN (bY x0 (aA #[45]))):Int) != 3)=true then True else ((0<(↑(aN (bY x0 (aA #[45]))):Int))/\((1<(↑(aN (bY x0 (aA #[45]))):Int))/\((2<(↑(aN (bY x0 (aA #[45]))):Int))/\((aSK (eX (aD (bY x0 (aA #[45])) 0 aC)) (eX (aD (bY x0 (aA #[45])) 1 aC)) (eX (aD (bY x0 (aA #[45])) 2 aC)))/\(if (F8 (eX (aD (bY x0 (aA #[45])) 0 aC)) (eX (aD (bY x0 (aA #[45])) 1 aC)) (eX (aD (bY x0 (aA #[45])) 2 aC)) != 0)=true then True else ((OH (Ia (eX (aD (bY x0 (aA #[45])) 0 aC)) (eX (aD (bY x0 (aA #[45])) 1 aC)) (eX (aD (bY x0 (aA #[45])) 2 aC))))/\True))))))))
def DY (x0:ByteArray):Int:=(if ((↑(aN (bY x0 (aA #[45]))):Int) != 3)=true then 0 else (if (F8 (eX (aD (bY x0 (aA #[45])) 0 aC)) (eX (aD (bY x0 (aA #[45])) 1 aC)) (eX (aD (bY x0 (aA #[45])) 2 aC)) != 0)=true then 0 else (if (!aB (u0 (Ia (eX (aD (bY x0 (aA #[45])) 0 aC)) (eX (aD (bY x0 (aA #[45])) 1 aC)) (eX (aD (bY x0 (aA #[45])) 2 aC))))==aB x0)=true then 0 else Ia (eX (aD (bY x0 (aA #[45])) 0 aC)) (eX (aD (bY x0 (aA #[45])) 1 aC)) (eX (aD (bY x0 (aA #[45])) 2 aC)))))
def F9 (x0:ByteArray):Bool:=(if ((↑(aN (bY x0 (aA #[45]))):Int) != 3)=true then false else (if (F8 (eX (aD (bY x0 (aA #[45])) 0 aC)) (eX (aD (bY x0 (aA #[45])) 1 aC)) (eX (aD (bY x0 (aA #[45])) 2 aC)) != 0)=true then false else (if (!aB (u0 (Ia (eX (aD (bY x0 (aA #[45])) 0 aC)) (eX (aD (bY x0 (aA #[45])) 1 aC)) (eX (aD (bY x0 (aA #[45])) 2 aC))))==aB x0)=true then false else true)))
def bAo:=dR bAn (λ⟨x0,_⟩=>aG4 x0) λ⟨x0,_⟩=>[⟨.int .i64,DY x0⟩,⟨.bool,F9 x0⟩]
theorem aST:c7 221 bAo:=dF bIU λ⟨x0,_⟩ h _ K q=>c1 h λh=>o3 h (λh=>rt) λh=>tP ((by decide):(0:Int)<=(0:Int))<|c1 h λh=>tv<|tP ((by decide):(0:Int)<=(1:Int))<|c1 h λh=>tv<|tP ((by decide):(0:Int)<=(2:Int))<|c1 h λh=>tv<|c1 h λh=>o3 h (λh=>tT<|rt) λh=>c1 h λh=>e2 (rt) (rt)
def bAp:dB:=⟨222,Tryz.f222,[.v fL],[.str],[],[(184,aNr),(159,aJK),(127,aGz)],false,[]⟩
theorem bIV:FO bAp:=mo Tryz.func222 ⟨aBS,V7,QI,trivial⟩
def aNM (x0:Int×Int×Int×Unit):Prop:=(if (!tD x0)=true then True else ((OH x0.1)/\((aH (u0 x0.1)+1<=9223372036854775807)/\((aH (u0 x0.1++aA #[32])+aH (n9 [x0.2.1,x0.2.2.1])<=9223372036854775807)/\True))))
def QX (x0:Int×Int×Int×Unit):ByteArray:=(if (!tD x0)=true then aA #[] else u0 x0.1++aA #[32]++n9 [x0.2.1,x0.2.2.1])
def bAq:=dR bAp (λ⟨x0,_⟩=>aNM x0) λ⟨x0,_⟩=>[⟨.str,QX x0⟩]
theorem aSU:c7 222 bAq:=dF bIV λ⟨x0,_⟩ h _ K q=>tv<|N0 h (λh=>rt) λh=>c1 h λh=>c1 h λh=>tv<|c1 h λh=>rt
def bAr:dB:=⟨147,Tryz.f147,[.v (.str)],[.cons (.int .i64) JY,.bool],[],[(72,S72),(221,bAo),(220,aG3),(222,bAq)],false,[]⟩
theorem bIW:FO bAr:=mo Tryz.func147 ⟨aFa,aST,QU,aSU,trivial⟩
def aNN (x0:ByteArray):Prop:=((P72 x0 (aA #[32]))/\((aG4 (pI x0 (aA #[32])))/\((aG2 (iR x0 (aA #[32])) 2)/\(if (!F9 (pI x0 (aA #[32])))=true then True else (if (!mR (iR x0 (aA #[32])) 2)=true then True else ((0<(↑(aN (dC (iR x0 (aA #[32])) 2)):Int))/\((1<(↑(aN (dC (iR x0 (aA #[32])) 2)):Int))/\((aNM (DY (pI x0 (aA #[32])),aD (dC (iR x0 (aA #[32])) 2) 0 0,aD (dC (iR x0 (aA #[32])) 2) 1 0,()))/\True))))))))
def MX (x0:ByteArray):Int×Int×Int×Unit:=(if (!F9 (pI x0 (aA #[32])))=true then (0,0,0,()) else (if (!mR (iR x0 (aA #[32])) 2)=true then (0,0,0,()) else (if (!aB (QX (DY (pI x0 (aA #[32])),aD (dC (iR x0 (aA #[32])) 2) 0 0,aD (dC (iR x0 (aA #[32])) 2) 1 0,()))==aB x0)=true then (0,0,0,()) else (DY (pI x0 (aA #[32])),aD (dC (iR x0 (aA #[32])) 2) 0 0,aD (dC (iR x0 (aA #[32])) 2) 1 0,()))))
def V8 (x0:ByteArray):Bool:=(if (!F9 (pI x0 (aA #[32])))=true then false else (if (!mR (iR x0 (aA #[32])) 2)=true then false else (if (!aB (QX (DY (pI x0 (aA #[32])),aD (dC (iR x0 (aA #[32])) 2) 0 0,aD (dC (iR x0 (aA #[32])) 2) 1 0,()))==aB x0)=true then false else true)))
def bAs:=dR bAr (λ⟨x0,_⟩=>aNN x0) λ⟨x0,_⟩=>[⟨.cons (.int .i64) JY,MX x0⟩,⟨.bool,V8 x0⟩]
theorem aSV:c7 147 bAs:=dF bIW λ⟨x0,_⟩ h _ K q=>c1 h λh=>c1 h λh=>c1 h λh=>o3 h (λh=>tT<|rt) λh=>o3 h (λh=>rt) λh=>tP ((by decide):(0:Int)<=(0:Int))<|c1 h λh=>tP ((by decide):(0:Int)<=(1:Int))<|c1 h λh=>c1 h λh=>e2 (rt) (rt)
def bAt:dB:=⟨148,Tryz.f148,[.v (.sl fL),.v fL],[.sl fL,.int .i64],[],[(81,S81),(66,S66),(184,aNr),(119,aR8)],false,[]⟩
theorem bIX:FO bAt:=mo Tryz.func148 ⟨aQe,Tx,aBS,aJf,trivial⟩
def aSW (x0:List cU) (x1:Int×Int×Int×Unit):Prop:=((P81 x0)/\((aN (QM x0)+1)*24<=140737488355328)/\True)
def V9 (x0:List cU) (x1:Int×Int×Int×Unit):List cU:=(if (!jV x0)=true then [] else (if (!tD x1)=true then [] else (if (!AQ (QM x0++[x1]))=true then [] else (if (decide ((x0.length:Int)>=24))=true then [] else QM x0++[x1]))))
def Va (x0:List cU) (x1:Int×Int×Int×Unit):Int:=(if (!jV x0)=true then 1 else (if (!tD x1)=true then 2 else (if (!AQ (QM x0++[x1]))=true then 6 else (if (decide ((x0.length:Int)>=24))=true then 5 else 0))))
def bAu:=dR bAt (λ⟨x0,x1,_⟩=>aSW x0 x1) λ⟨x0,x1,_⟩=>[⟨.sl fL,V9 x0 x1⟩,⟨.int .i64,Va x0 x1⟩]
theorem aSX:c7 148 bAu:=dF bIX λ⟨x0,x1,_⟩ h _ K q=>cS h λs0 h=>cS h λs1 h=>tP s0<|tP s1<|tP (VP [eL 0 fL x0,eT 1 fL x1,eO 3 0 0 [],(4,.a (.val (.slice none 0 0))),eI 5 0,eW 6 1,eL 7 fL x0,eT 9 fL x1,eW 10 2,eW 11 1] [some (fY fL [x1] true none (some false)),jB fL (QM x0++[x1]),jB fL [x1]])<|tv<|e2 (rt) (tv<|e2 (rt) (tv<|e2 (rt) (e2 (rt) (rt))))
def bAv:dB:=⟨149,Tryz.f149,[.v (.str)],[.cons (.int .i64) fL,.bool],[],[(220,aG3),(58,S58)],false,[]⟩
theorem bIY:FO bAv:=mo Tryz.func149 ⟨QU,aIG,trivial⟩
def aNO (x0:ByteArray):Prop:=((aG2 x0 4)/\(if (!mR x0 4)=true then True else ((0<(↑(aN (dC x0 4)):Int))/\((1<(↑(aN (dC x0 4)):Int))/\((2<(↑(aN (dC x0 4)):Int))/\((3<(↑(aN (dC x0 4)):Int))/\True))))))
def Vb (x0:ByteArray):Int×Int×Int×Int×Unit:=(if (!mR x0 4)=true then (0,0,0,0,()) else (if (!BV (aD (dC x0 4) 0 0,aD (dC x0 4) 1 0,aD (dC x0 4) 2 0,aD (dC x0 4) 3 0,()))=true then (0,0,0,0,()) else (aD (dC x0 4) 0 0,aD (dC x0 4) 1 0,aD (dC x0 4) 2 0,aD (dC x0 4) 3 0,())))
def Vc (x0:ByteArray):Bool:=(if (!mR x0 4)=true then false else (if (!BV (aD (dC x0 4) 0 0,aD (dC x0 4) 1 0,aD (dC x0 4) 2 0,aD (dC x0 4) 3 0,()))=true then false else true))
def bAw:=dR bAv (λ⟨x0,_⟩=>aNO x0) λ⟨x0,_⟩=>[⟨.cons (.int .i64) fL,Vb x0⟩,⟨.bool,Vc x0⟩]
theorem aSY:c7 149 bAw:=dF bIY λ⟨x0,_⟩ h _ K q=>c1 h λh=>o3 h (λh=>rt) λh=>tP ((by decide):(0:Int)<=(0:Int))<|c1 h λh=>tP ((by decide):(0:Int)<=(1:Int))<|c1 h λh=>tP ((by decide):(0:Int)<=(2:Int))<|c1 h λh=>tP ((by decide):(0:Int)<=(3:Int))<|c1 h λh=>tv<|e2 (rt) (rt)
def bAx:dB:=⟨150,Tryz.f150,[.v (.str)],[.cons (.int .i64) JY,.bool],[],[(220,aG3),(61,S61)],false,[]⟩
theorem bIZ:FO bAx:=mo Tryz.func150 ⟨QU,aIU,trivial⟩
def aNP (x0:ByteArray):Prop:=((aG2 x0 3)/\(if (!mR x0 3)=true then True else ((0<(↑(aN (dC x0 3)):Int))/\((1<(↑(aN (dC x0 3)):Int))/\((2<(↑(aN (dC x0 3)):Int))/\True)))))
def Ve (x0:ByteArray):Int×Int×Int×Unit:=(if (!mR x0 3)=true then (0,0,0,()) else (if (!vQ (aD (dC x0 3) 0 0,aD (dC x0 3) 1 0,aD (dC x0 3) 2 0,()))=true then (0,0,0,()) else (aD (dC x0 3) 0 0,aD (dC x0 3) 1 0,aD (dC x0 3) 2 0,())))
def Vf (x0:ByteArray):Bool:=(if (!mR x0 3)=true then false else (if (!vQ (aD (dC x0 3) 0 0,aD (dC x0 3) 1 0,aD (dC x0 3) 2 0,()))=true then false else true))
def bAy:=dR bAx (λ⟨x0,_⟩=>aNP x0) λ⟨x0,_⟩=>[⟨.cons (.int .i64) JY,Ve x0⟩,⟨.bool,Vf x0⟩]
theorem aSZ:c7 150 bAy:=dF bIZ λ⟨x0,_⟩ h _ K q=>c1 h λh=>o3 h (λh=>rt) λh=>tP ((by decide):(0:Int)<=(0:Int))<|c1 h λh=>tP ((by decide):(0:Int)<=(1:Int))<|c1 h λh=>tP ((by decide):(0:Int)<=(2:Int))<|c1 h λh=>tv<|e2 (rt) (rt)
def bAz:dB:=⟨151,Tryz.f151,[.v (.str)],[.cons (.int .i64) fL,.bool],[],[(220,aG3),(64,S64)],false,[]⟩
theorem bJa:FO bAz:=mo Tryz.func151 ⟨QU,aJb,trivial⟩
def aNQ (x0:ByteArray):Prop:=((aG2 x0 4)/\(if (!mR x0 4)=true then True else ((0<(↑(aN (dC x0 4)):Int))/\((1<(↑(aN (dC x0 4)):Int))/\((2<(↑(aN (dC x0 4)):Int))/\((3<(↑(aN (dC x0 4)):Int))/\True))))))
def Vg (x0:ByteArray):Int×Int×Int×Int×Unit:=(if (!mR x0 4)=true then (0,0,0,0,()) else (if (!uG (aD (dC x0 4) 0 0,aD (dC x0 4) 1 0,aD (dC x0 4) 2 0,aD (dC x0 4) 3 0,()))=true then (0,0,0,0,()) else (aD (dC x0 4) 0 0,aD (dC x0 4) 1 0,aD (dC x0 4) 2 0,aD (dC x0 4) 3 0,())))
def Vh (x0:ByteArray):Bool:=(if (!mR x0 4)=true then false else (if (!uG (aD (dC x0 4) 0 0,aD (dC x0 4) 1 0,aD (dC x0 4) 2 0,aD (dC x0 4) 3 0,()))=true then false else true))
def bA0:=dR bAz (λ⟨x0,_⟩=>aNQ x0) λ⟨x0,_⟩=>[⟨.cons (.int .i64) fL,Vg x0⟩,⟨.bool,Vh x0⟩]
theorem aTa:c7 151 bA0:=dF bJa λ⟨x0,_⟩ h _ K q=>c1 h λh=>o3 h (λh=>rt) λh=>tP ((by decide):(0:Int)<=(0:Int))<|c1 h λh=>tP ((by decide):(0:Int)<=(1:Int))<|c1 h λh=>tP ((by decide):(0:Int)<=(2:Int))<|c1 h λh=>tP ((by decide):(0:Int)<=(3:Int))<|c1 h λh=>tv<|e2 (rt) (rt)
end
theorem aTb:KE aL (kR kE (kR (lF cN) (kR (lF cN) (kR (lF cN) HH)))) 27 80 276 4:=KE.of (vO 27) rfl rfl (by decide) (by decide) (by decide) eG Tryz.func276 (by kernel_rfl) (by kernel_rfl) (by kernel_rfl) (by kernel_rfl)
theorem aTc:KE aL (kR kE (kR (lF cN) (kR (lF cN) HH))) 36 89 280 3:=KE.of (vO 36) rfl rfl (by decide) (by decide) (by decide) eG Tryz.func280 (by kernel_rfl) (by kernel_rfl) (by kernel_rfl) (by kernel_rfl)
theorem aTd:KE aL (kR kE (kR (lF cN) (kR (lF cN) (kR (lF cN) HH)))) 39 92 282 4:=KE.of (vO 39) rfl rfl (by decide) (by decide) (by decide) eG Tryz.func282 (by kernel_rfl) (by kernel_rfl) (by kernel_rfl) (by kernel_rfl)
theorem aTe:KE aL (kR kE (kR (lF cN) (kR (lF cN) HH))) 41 98 285 3:=KE.of (vO 41) rfl rfl (by decide) (by decide) (by decide) eG Tryz.func285 (by kernel_rfl) (by kernel_rfl) (by kernel_rfl) (by kernel_rfl)
theorem aTf:KE aL (kR kE (kR (lF cN) (kR (lF cN) HH))) 42 101 287 3:=KE.of (vO 42) rfl rfl (by decide) (by decide) (by decide) eG Tryz.func287 (by kernel_rfl) (by kernel_rfl) (by kernel_rfl) (by kernel_rfl)
open Go.RowKit in
set_option maxHeartbeats 8000000 in
theorem QY : aCn aL 203 27 80 4 /\ aCn aL 208 36 89 3 /\ aCn aL 212 39 92 4 /\ aCn aL 216 41 98 3 /\ aCn aL 219 42 101 3 := by
  refine ⟨?_, ?_, ?_, ?_, ?_⟩ <;>
  (intro w m b off cap vb voff vcap i0 vs hu hi0 hz1 hcapm hroom hsrc R1 R2
   have mixed := mixed
   first | go_enter zI, CL | go_enter zJ, CM | go_enter zK, CN | go_enter zL, CO | go_enter zM, CP
   go_wp2_with (at_builtin; refine wpList_append_room_src _ rfl _ _ _ _ rfl _ i0 hu hi0 b off m cap rfl _ rfl 1 vs hsrc hroom R1.out R2.out ?_)
   go_ret
   exact ⟨rfl, 0, rfl⟩)
open Go.RowKit in
set_option maxHeartbeats 8000000 in
theorem KH : QK aL 203 27 80 /\ QK aL 208 36 89 /\ QK aL 212 39 92 /\ QK aL 216 41 98 /\ QK aL 219 42 101 := by
  refine ⟨?_, ?_, ?_, ?_, ?_⟩ <;>
  (intro w m ad cap vb voff vcap G ROW hnil hlen hroom hmax hge hgm hrun
   have mixed := mixed
   first | go_enter zI, CL | go_enter zJ, CM | go_enter zK, CN | go_enter zL, CO | go_enter zM, CP
   cases ad with
   | none =>
     have h0 := hnil rfl;subst h0
     go_wp2_with (at_builtin; refine vR _ rfl _ _ _ _ rfl _ _ rfl rfl _ _ (hrun _) ?_)
     go_ret
     exact ⟨rfl, rfl⟩
   | some a =>
     obtain ⟨ab, ao, asp⟩ := a
     go_wp2_with (at_builtin; refine vR _ rfl _ _ _ _ rfl _ _ rfl rfl _ _ (hrun _) ?_)
     all_goals (go_ret; exact ⟨rfl, rfl⟩))
open Go.RowKit in
set_option maxHeartbeats 8000000 in
theorem Fa : I5 aL 203 27 276 4 /\ I5 aL 208 36 280 3 /\ I5 aL 212 39 282 4 /\ I5 aL 216 41 285 3 /\ I5 aL 219 42 287 3 := by
  refine ⟨?_, ?_, ?_, ?_, ?_⟩ <;>
  (intro w m b off cap vb voff vcap i vs ds W1 hi hroom hcapm N hov hcp1 hcp2
   have hz2 : ¬ ((i : Int) = (m : Int)) := by omega
   have hw1 : cN.wrap ((i : Int) + 1) = (i : Int) + 1 := by unfold maxLen at hcapm; rw [rN]; omega
   have hw2 : cN.wrap ((m : Int) + 1) = (m : Int) + 1 := by unfold maxLen at hcapm; rw [rN]; omega
   have hb1 : (0 : Int) <= (i : Int) + 1 := by omega
   have hin : i <= m := by omega
   have htn : ((i : Int) + 1).toNat = i + 1 := by omega
   have htn2 : ((m : Int) + 1).toNat = m + 1 := by omega
   have hb2 : ¬ (cap = i + 1) := by omega
   have hb3 : (i : Int) <= (m : Int) + 1 := by omega
   have hb4 : ¬ (cap = i) := by omega
   have hb5 : ¬ ((cap : Int) < (m : Int) + 1) := by omega
   have mixed := mixed
   first | go_enter zI, CL | go_enter zJ, CM | go_enter zK, CN | go_enter zL, CO | go_enter zM, CP
   go_wp2_with (simp only [hov])
   go_region_law_o (refine scp rfl _ _ _ _ rfl _ _ (by simp [SJ, Gy]) (by simp [SJ, Gy]) (hcp1 _ _ _) ?_)
   go_wp2_with (at_builtin; refine lcp _ rfl _ _ _ _ rfl _ _ rfl rfl (hcp2 _ (λ_ => rfl) (λ_ => rfl) _ _) ?_)
   go_ret
   exact ⟨rfl, 1, by rw [N.out]; rfl⟩)
open Go.RowKit in
set_option maxHeartbeats 8000000 in
theorem KI : QL aL 203 27 80 4 /\ QL aL 208 36 89 3 /\ QL aL 212 39 92 4 /\ QL aL 216 41 98 3 /\ QL aL 219 42 101 3 := by
  refine ⟨?_, ?_, ?_, ?_, ?_⟩ <;>
  (intro w m b off cap vb voff vcap i vs ds ROW G hi hroom hlen hcapm hge hgm hrz hcpA hcpB
   have hz2 : ¬ ((i : Int) = (m : Int)) := by omega
   have hw1 : cN.wrap ((i : Int) + 1) = (i : Int) + 1 := by unfold maxLen at hgm; rw [rN]; omega
   have hw2 : cN.wrap ((m : Int) + 1) = (m : Int) + 1 := by unfold maxLen at hgm; rw [rN]; omega
   have hw3 : cN.wrap ((m : Int) + 1 - (i : Int)) = (m : Int) + 1 - (i : Int) := by unfold maxLen at hgm; rw [rN]; omega
   have hb1 : (0 : Int) <= (i : Int) + 1 := by omega
   have hin : i <= m := by omega
   have htn : ((i : Int) + 1).toNat = i + 1 := by omega
   have hGi : ¬ (G = i) := by omega
   have hGim : ¬ (G = i + 1) := by omega
   have hci : ¬ (cap = i) := by omega
   have hb3 : (i : Int) <= (m : Int) := by omega
   have hb5 : (cap : Int) < (m : Int) + 1 := by omega
   have hG63 : G <= 9223372036854775807 := by unfold maxLen at hgm; exact hgm
   have mixed := mixed
   first | go_enter zI, CL | go_enter zJ, CM | go_enter zK, CN | go_enter zL, CO | go_enter zM, CP
   go_wp2_with (first
     | (at_builtin; refine vR _ rfl _ _ _ _ rfl _ _ rfl rfl _ _ (hrz _) ?_)
     | (at_builtin; refine lcp _ rfl _ _ _ _ rfl _ _ rfl rfl (hcpA _ _) ?_))
   go_region_law_o (refine scp rfl _ _ _ _ rfl _ _ (by simp [SJ, Gy]) (by simp [SJ, Gy]) (hcpB 3 (G - (i + 1)) (cap - i)) ?_)
   go_wp2
   go_ret
   exact ⟨rfl, rfl⟩)
def aTg:List AT:=[tW gT,nV (lF .i64),tW gT]
def aCq (x0:List dG) (x1:Int) (x2:List dG):List dG:=x0.take x1.toNat++(x2++x0.drop x1.toNat)
def bA1 (x0:List dG) (x1:Int) (x2:List dG):Prop:=0<=x1/\x1<=x0.length/\x2.length=1/\x0.length<=1048576
def bA2:Am.Spec:={ sig:=aTg,pre:=λ⟨x0,x1,x2,_⟩=>bA1 x0 x1 x2,upd:=λ_=>[none,none],res:=λ⟨x0,x1,x2,_⟩=>[⟨p6 gT,aCq x0 x1 x2⟩] }
theorem aTh:c7 203 bA2:=yB zI<|aTb.contract Fa.1 KI.1 QY.1 KH.1
noncomputable section
def bA3:dB:=⟨275,Tryz.f275,[.v (.str)],[.bool],[],[],false,[]⟩
theorem bJb:FO bA3:=mo Tryz.func275 trivial
def bJc (x0:ByteArray):Prop:=True
def MY (x0:ByteArray):Bool := !aB x0==aB x0
def bA4:=dR bA3 (λ⟨x0,_⟩=>bJc x0) λ⟨x0,_⟩=>[⟨.bool,MY x0⟩]
theorem aTi:c7 275 bA4:=dF bJb λ⟨x0,_⟩ h _ K q=>rt
def bA5:dB:=⟨202,Tryz.f202,[.v (.str),.v (.str)],[.int .i64],[],[(275,bA4)],false,[]⟩
theorem bJd:FO bA5:=mo Tryz.func202 ⟨aTi,trivial⟩
def bJe (x0:ByteArray) (x1:ByteArray):Prop:=True
def DZ (x0:ByteArray) (x1:ByteArray):Int:=(if (MY x0)=true then (if (MY x1)=true then 0 else -1) else (if (MY x1)=true then 1 else (if (Op.bytesLess (aB x0) (aB x1))=true then -1 else (if (!(Op.bytesLess (aB x0) (aB x1)||aB x0==aB x1))=true then 1 else 0))))
def aG5:=dR bA5 (λ⟨x0,x1,_⟩=>bJe x0 x1) λ⟨x0,x1,_⟩=>[⟨.int .i64,DZ x0 x1⟩]
theorem QZ:c7 202 aG5:=dF bJd λ⟨x0,x1,_⟩ h _ K q=>tv<|tv<|e1 (e1 (rt) (rt)) (e1 (rt) (e1 (rt) (e1 (rt) (rt))))
def bA6:dB:=⟨132,Tryz.f132,[.v gT],[.str],[],[],false,[]⟩
theorem bJf:FO bA6:=mo Tryz.func132 trivial
def bJg (x0:ByteArray×Int×Int×Int×Unit):Prop:=True
def Vi (x0:ByteArray×Int×Int×Int×Unit):ByteArray:=x0.1
def aTj:=dR bA6 (λ⟨x0,_⟩=>bJg x0) λ⟨x0,_⟩=>[⟨.str,Vi x0⟩]
theorem aJL:c7 132 aTj:=dF bJf λ⟨x0,_⟩ h _ K q=>rt
def bA7:dB:=⟨201,Tryz.f201,[.v gT,.v gT,.p .fn],[.int .i64],[],[(202,aG5),(132,aTj)],false,[]⟩
theorem bJh:FO bA7:=mo Tryz.func201 ⟨QZ,aJL,trivial⟩
def aJM (x0:ByteArray×Int×Int×Int×Unit) (x1:ByteArray×Int×Int×Int×Unit) (x2:Option Nat):Prop:=x2=some 132/\True
def Q0 (x0:ByteArray×Int×Int×Int×Unit) (x1:ByteArray×Int×Int×Int×Unit) (x2:Option Nat):Int:=DZ (Vi x0) (Vi x1)
def bA8:=dR bA7 (λ⟨x0,x1,x2,_⟩=>aJM x0 x1 x2) λ⟨x0,x1,x2,_⟩=>[⟨.int .i64,Q0 x0 x1 x2⟩]
theorem aTk:c7 201 bA8:=dF bJh λ⟨x0,x1,x2,_⟩ h _ K q=>by
 obtain ⟨rfl,h⟩:=h;exact tv<|tv<|tv<|rt
def KJ:dB:=⟨200,Tryz.f200,[.v (.sl gT),.v gT,.fn 201 [(true,.fn)]],[.int .i64,.bool],[],[(201,bA8)],false,[]⟩
theorem aJN:FO KJ:=mo Tryz.func200 ⟨aTk,trivial⟩
def aCr (v9:Int) (v10:Int) (x0:List dG) (x2:Option Nat) (x1:ByteArray×Int×Int×Int×Unit):eD×bG:=([eL 0 gT x0,(2,nU 201 [pM aU x2]),eO 4 0 0 [],eI 8 (x0.length:Int),eI 9 v9,eI 10 v10],[some (fY gT [x1] true none (some false))])
mutual
def ZA:Nat->List dG->ByteArray×Int×Int×Int×Unit->Option Nat->List aY->Prop
 | 0,_,_,_,_=>False
 | n+1,x0,x1,x2,ds=>(wJ n (0) ((x0.length:Int)) (x0) (x2) (x1) ds)
def wJ:Nat->Int->Int->List dG->Option Nat->ByteArray×Int×Int×Int×Unit->List aY->Prop
 | 0,_,_,_,_,_,_=>False
 | n+1,v9,v10,x0,x2,x1,ds=>(if (decide (v9<v10))=true then ((cC .i64 (v9+v10))/\((cC .u64 (v9+v10))/\((cC .u64 (cQ (v9+v10) 2))/\((cC .i64 (cQ (v9+v10) 2))/\((0<=cQ (v9+v10) 2)/\(cQ (v9+v10) 2<(x0.length:Int))/\((aJM (aD x0 (aE (cQ (v9+v10) 2)) (aC,0,0,0,())) x1 x2)/\(if (decide (Q0 (aD x0 (aE (cQ (v9+v10) 2)) (aC,0,0,0,())) x1 x2<0))=true then ((cC .i64 (cQ (v9+v10) 2+1))/\(wJ n (cQ (v9+v10) 2+1) (v10) (x0) (x2) (x1) ds)) else (wJ n (v9) (cQ (v9+v10) 2) (x0) (x2) (x1) ds)))))))) else (if (decide (v9<(x0.length:Int)))=true then ((0<=v9)/\(v9<(x0.length:Int))/\((aJM (aD x0 (aE v9) (aC,0,0,0,())) x1 x2)/\(ds=[aP (.int .i64) v9,aP .bool (Q0 (aD x0 (aE v9) (aC,0,0,0,())) x1 x2==0)]))) else (ds=[aP (.int .i64) v9,aP .bool false])))
end
theorem aCs (ds:List aY) (K:jK) (q:Nat->Value):∀ n,(∀ {x0 x1 x2},ZA n x0 x1 x2 ds->St KJ (x0,x1,(x2,()),()) ds [] K q)/\(∀ {v9 v10 x0 x2 x1},wJ n v9 v10 x0 x2 x1 ds->Cu KJ 3 (aCr v9 v10 x0 x2 x1) ds [] K q):=by
 intro n
 induction n with
 | zero=>exact ⟨λh=>h.elim,λh=>h.elim⟩
 | succ n ih =>
 obtain ⟨i,i3⟩:=ih;exact ⟨λh=>jp (i3 h),
  λ{v9} {v10} {x0} {x2} {x1} h=>bR h (λh=>c1 h λh=>c1 h λh=>tP ((by decide):(0:Int)<=(1:Int))<|c1 h λh=>c1 h λh=>c2 h λh=>c1 h λh=>bR h (λh=>c1 h λh=>jp (i3 h)) λh=>jp (i3 h)) λh=>bR h (λh=>c2 h λh=>c1 h λh=>rh h) λh=>rh h⟩
def AZ (x0:List dG) (x1:ByteArray×Int×Int×Int×Unit) (y0:Option Nat) (h:Nat):Bool:=decide (Q0 (x0.getD h (aC,(0:Int),(0:Int),(0:Int),())) x1 y0<0)
def Q2 (x0:List dG) (x1:ByteArray×Int×Int×Int×Unit) (y0:Option Nat):Nat:=gS (AZ x0 x1 y0) (x0.length+1) 0 x0.length
def Fb (x0:List dG) (x1:ByteArray×Int×Int×Int×Unit) (y0:Option Nat) (k:Nat):Bool:=if k<x0.length then Q0 (x0.getD k (aC,(0:Int),(0:Int),(0:Int),())) x1 y0==0 else false
def l5 (x0:List dG) (x1:ByteArray×Int×Int×Int×Unit) (y0:Option Nat):Int:=(Q2 x0 x1 y0:Nat)
def mA (x0:List dG) (x1:ByteArray×Int×Int×Int×Unit) (y0:Option Nat):Bool:=Fb x0 x1 y0 (Q2 x0 x1 y0)
def ZB (x0:List dG) (x1:ByteArray×Int×Int×Int×Unit) (y0:Option Nat):Prop:=x0.length<=4611686018427387903/\∀ y∈x0,aJM y x1 y0
theorem Fc (n:Int):cC .u64 n↔0<=n/\n<=18446744073709551615:=by
 have e1:(cL).min=0:=by decide
 have e2:(cL).max=18446744073709551615:=by decide
 simp only [cC,e1,e2]
theorem aCt (x0:List dG) (x1:ByteArray×Int×Int×Int×Unit) (y0:Option Nat) (hm:x0.length<=4611686018427387903) (hp:∀ y∈x0,aJM y x1 y0):∀ (k i j:Nat),j - i<k->i<=j->j<=x0.length ->
  wJ k (i:Int) (j:Int) x0 y0 x1 [⟨.int .i64,((gS (AZ x0 x1 y0) k i j:Nat):Int)⟩,⟨.bool,Fb x0 x1 y0 (gS (AZ x0 x1 y0) k i j)⟩]:=by
 intro k
 induction k with
 | zero=>intro i j h;omega
 | succ k ih =>
  intro i j h hij hj;rw [wJ];by_cases hlt:i<j
  ·rw [if_pos (by simpa using hlt)];have e:cQ ((i:Int)+(j:Int)) 2=(((i+j) / 2:Nat):Int):=by
    rw [fG _ (by omega)];omega
   have hP:=hp _ (dN x0 ((i+j) / 2) (aC,(0:Int),(0:Int),(0:Int),()) (by omega));rw [e,aF];refine ⟨by rw [aK];omega,by rw [Fc];omega,by rw [Fc];omega,by rw [aK];omega,by omega,by omega,hP,?_⟩;simp only [gS,if_pos hlt];by_cases hq:AZ x0 x1 y0 ((i+j) / 2)=true
   ·rw [if_pos hq];exact (if_pos hq).mpr ⟨by rw [aK];omega,ih ((i+j) / 2+1) j (by omega) (by omega) hj⟩
   ·rw [if_neg hq];exact (if_neg hq).mpr (ih i ((i+j) / 2) (by omega) (by omega) (by omega))
  ·rw [if_neg (by simpa using hlt)];simp only [gS,if_neg hlt,Fb];by_cases hl:i<x0.length
   ·rw [if_pos (by simpa using hl),if_pos hl];exact ⟨by omega,by omega,hp _ (dN x0 i (aC,(0:Int),(0:Int),(0:Int),()) hl),rfl⟩
   ·rw [if_neg (by simpa using hl),if_neg hl]
def ZC:=dR KJ (λ⟨x0,x1,⟨y0,_⟩,_⟩=>ZB x0 x1 y0) λ⟨x0,x1,⟨y0,_⟩,_⟩=>[⟨.int .i64,l5 x0 x1 y0⟩,⟨.bool,mA x0 x1 y0⟩]
theorem aCu:c7 200 ZC:=dF aJN (λ⟨x0,x1,⟨y0,_⟩,_⟩ h hwf K q =>
 (aCs _ K q ((x0.length+1+1))).1 (by rw [ZA];exact aCt x0 x1 y0 h.1 h.2 (x0.length+1) 0 x0.length (by omega) (by omega) (aT _)))
def ZD:dB:=⟨131,Tryz.f131,[.own gT,.v gT,.fn 132 [],.v (.int .i64)],[.sl gT,.int .i64],[],[(76,S76),(203,bA2),(200,ZC),(132,aTj)],false,[]⟩
theorem aJO:FO ZD:=mo Tryz.func131 ⟨aPZ,aTh,aCu,aJL,trivial⟩
def KK (x0:List dG) (x1:ByteArray×Int×Int×Int×Unit) (x3:Int):Prop:=((ZB x0 x1 (some 132))/\(if (mA x0 x1 (some 132))=true then True else (if (decide ((x0.length:Int)>=x3))=true then True else ((P76 x0)/\(bA1 (Ys x0) (l5 x0 x1 (some 132)) [x1])/\True))))
def A4 (x0:List dG) (x1:ByteArray×Int×Int×Int×Unit) (x3:Int):List dG:=(if (mA x0 x1 (some 132))=true then x0 else (if (decide ((x0.length:Int)>=x3))=true then x0 else aCq (Ys x0) (l5 x0 x1 (some 132)) [x1]))
def qM (x0:List dG) (x1:ByteArray×Int×Int×Int×Unit) (x3:Int):Int:=(if (mA x0 x1 (some 132))=true then 4 else (if (decide ((x0.length:Int)>=x3))=true then 5 else 0))
def ZE:=wD ZD (λ⟨x0,x1,_,x3,_⟩=>KK x0 x1 x3) (λ⟨x0,x1,_,x3,_⟩=>[none]) λ⟨x0,x1,_,x3,_⟩=>[⟨.sl gT,A4 x0 x1 x3⟩,⟨.int .i64,qM x0 x1 x3⟩]
theorem aCv:c7 131 ZE:=dF aJO λ⟨x0,x1,_,x3,_⟩ h _ K q=>c1 h λh=>o3 h (λh=>rt) λh=>o3 h (λh=>rt) λh=>cS h λs1 h=>cS h λs2 h=>tP s1<|tP s2<|tP (VP [eW 0 0,eT 1 gT x1,(2,nU 132 []),eI 3 x3,eO 5 1 0 [],eO 6 2 0 [],eW 8 5,eI 9 0,eI 10 (l5 x0 x1 (some 132)),eB 11 (mA x0 x1 (some 132)),(12,gO [O8 (l5 x0 x1 (some 132)),N1 (mA x0 x1 (some 132))]),eW 13 0,eT 14 gT x1,(15,nU 201 [HM 2 0 []]),(16,gO [O8 (l5 x0 x1 (some 132)),N1 (mA x0 x1 (some 132))]),eI 17 (l5 x0 x1 (some 132)),eB 18 (mA x0 x1 (some 132)),eB 19 (mA x0 x1 (some 132)),eB 20 (mA x0 x1 (some 132)),eB 22 (decide ((x0.length:Int)>=x3)),eW 23 0,eI 24 (x0.length:Int),eI 25 x3,eB 26 (decide ((x0.length:Int)>=x3)),eW 28 0,eI 30 (l5 x0 x1 (some 132)),eT 31 gT x1,eW 33 5] [jB gT x0,some (fY gT [x1] true none (some false)),some (fY aU [some 132] true none (some false)),none,none,jB gT (aCq (Ys x0) (l5 x0 x1 (some 132)) [x1])])<|rt
end
def aTl:List AT:=[tW fP,nV (lF .i64),tW fP]
def aCw (x0:List bX) (x1:Int) (x2:List bX):List bX:=x0.take x1.toNat++(x2++x0.drop x1.toNat)
def bA9 (x0:List bX) (x1:Int) (x2:List bX):Prop:=0<=x1/\x1<=x0.length/\x2.length=1/\x0.length<=1048576
def bAA:Am.Spec:={ sig:=aTl,pre:=λ⟨x0,x1,x2,_⟩=>bA9 x0 x1 x2,upd:=λ_=>[none,none],res:=λ⟨x0,x1,x2,_⟩=>[⟨p6 fP,aCw x0 x1 x2⟩] }
theorem aTm:c7 208 bAA:=yB zJ<|aTc.contract Fa.2.1 KI.2.1 QY.2.1 KH.2.1
noncomputable section
def bAB:dB:=⟨135,Tryz.f135,[.v fP],[.str],[],[],false,[]⟩
theorem bJi:FO bAB:=mo Tryz.func135 trivial
def bJj (x0:ByteArray×Int×Int×Unit):Prop:=True
def Vj (x0:ByteArray×Int×Int×Unit):ByteArray:=x0.1
def aTn:=dR bAB (λ⟨x0,_⟩=>bJj x0) λ⟨x0,_⟩=>[⟨.str,Vj x0⟩]
theorem aJP:c7 135 aTn:=dF bJi λ⟨x0,_⟩ h _ K q=>rt
def bAC:dB:=⟨207,Tryz.f207,[.v fP,.v fP,.p .fn],[.int .i64],[],[(202,aG5),(135,aTn)],false,[]⟩
theorem bJk:FO bAC:=mo Tryz.func207 ⟨QZ,aJP,trivial⟩
def aJQ (x0:ByteArray×Int×Int×Unit) (x1:ByteArray×Int×Int×Unit) (x2:Option Nat):Prop:=x2=some 135/\True
def Q3 (x0:ByteArray×Int×Int×Unit) (x1:ByteArray×Int×Int×Unit) (x2:Option Nat):Int:=DZ (Vj x0) (Vj x1)
def bAD:=dR bAC (λ⟨x0,x1,x2,_⟩=>aJQ x0 x1 x2) λ⟨x0,x1,x2,_⟩=>[⟨.int .i64,Q3 x0 x1 x2⟩]
theorem aTo:c7 207 bAD:=dF bJk λ⟨x0,x1,x2,_⟩ h _ K q=>by
 obtain ⟨rfl,h⟩:=h;exact tv<|tv<|tv<|rt
def KL:dB:=⟨206,Tryz.f206,[.v (.sl fP),.v fP,.fn 207 [(true,.fn)]],[.int .i64,.bool],[],[(207,bAD)],false,[]⟩
theorem aJR:FO KL:=mo Tryz.func206 ⟨aTo,trivial⟩
def aCx (v9:Int) (v10:Int) (x0:List bX) (x2:Option Nat) (x1:ByteArray×Int×Int×Unit):eD×bG:=([eL 0 fP x0,(2,nU 207 [pM aU x2]),eO 4 0 0 [],eI 8 (x0.length:Int),eI 9 v9,eI 10 v10],[some (fY fP [x1] true none (some false))])
mutual
def ZF:Nat->List bX->ByteArray×Int×Int×Unit->Option Nat->List aY->Prop
 | 0,_,_,_,_=>False
 | n+1,x0,x1,x2,ds=>(wK n (0) ((x0.length:Int)) (x0) (x2) (x1) ds)
def wK:Nat->Int->Int->List bX->Option Nat->ByteArray×Int×Int×Unit->List aY->Prop
 | 0,_,_,_,_,_,_=>False
 | n+1,v9,v10,x0,x2,x1,ds=>(if (decide (v9<v10))=true then ((cC .i64 (v9+v10))/\((cC .u64 (v9+v10))/\((cC .u64 (cQ (v9+v10) 2))/\((cC .i64 (cQ (v9+v10) 2))/\((0<=cQ (v9+v10) 2)/\(cQ (v9+v10) 2<(x0.length:Int))/\((aJQ (aD x0 (aE (cQ (v9+v10) 2)) (aC,0,0,())) x1 x2)/\(if (decide (Q3 (aD x0 (aE (cQ (v9+v10) 2)) (aC,0,0,())) x1 x2<0))=true then ((cC .i64 (cQ (v9+v10) 2+1))/\(wK n (cQ (v9+v10) 2+1) (v10) (x0) (x2) (x1) ds)) else (wK n (v9) (cQ (v9+v10) 2) (x0) (x2) (x1) ds)))))))) else (if (decide (v9<(x0.length:Int)))=true then ((0<=v9)/\(v9<(x0.length:Int))/\((aJQ (aD x0 (aE v9) (aC,0,0,())) x1 x2)/\(ds=[aP (.int .i64) v9,aP .bool (Q3 (aD x0 (aE v9) (aC,0,0,())) x1 x2==0)]))) else (ds=[aP (.int .i64) v9,aP .bool false])))
end
theorem aCy (ds:List aY) (K:jK) (q:Nat->Value):∀ n,(∀ {x0 x1 x2},ZF n x0 x1 x2 ds->St KL (x0,x1,(x2,()),()) ds [] K q)/\(∀ {v9 v10 x0 x2 x1},wK n v9 v10 x0 x2 x1 ds->Cu KL 3 (aCx v9 v10 x0 x2 x1) ds [] K q):=by
 intro n
 induction n with
 | zero=>exact ⟨λh=>h.elim,λh=>h.elim⟩
 | succ n ih =>
 obtain ⟨i,i3⟩:=ih;exact ⟨λh=>jp (i3 h),
  λ{v9} {v10} {x0} {x2} {x1} h=>bR h (λh=>c1 h λh=>c1 h λh=>tP ((by decide):(0:Int)<=(1:Int))<|c1 h λh=>c1 h λh=>c2 h λh=>c1 h λh=>bR h (λh=>c1 h λh=>jp (i3 h)) λh=>jp (i3 h)) λh=>bR h (λh=>c2 h λh=>c1 h λh=>rh h) λh=>rh h⟩
def A5 (x0:List bX) (x1:ByteArray×Int×Int×Unit) (y0:Option Nat) (h:Nat):Bool:=decide (Q3 (x0.getD h (aC,(0:Int),(0:Int),())) x1 y0<0)
def Q4 (x0:List bX) (x1:ByteArray×Int×Int×Unit) (y0:Option Nat):Nat:=gS (A5 x0 x1 y0) (x0.length+1) 0 x0.length
def Fe (x0:List bX) (x1:ByteArray×Int×Int×Unit) (y0:Option Nat) (k:Nat):Bool:=if k<x0.length then Q3 (x0.getD k (aC,(0:Int),(0:Int),())) x1 y0==0 else false
def mB (x0:List bX) (x1:ByteArray×Int×Int×Unit) (y0:Option Nat):Int:=(Q4 x0 x1 y0:Nat)
def mC (x0:List bX) (x1:ByteArray×Int×Int×Unit) (y0:Option Nat):Bool:=Fe x0 x1 y0 (Q4 x0 x1 y0)
def ZG (x0:List bX) (x1:ByteArray×Int×Int×Unit) (y0:Option Nat):Prop:=x0.length<=4611686018427387903/\∀ y∈x0,aJQ y x1 y0
theorem Ff (n:Int):cC .u64 n↔0<=n/\n<=18446744073709551615:=by
 have e1:(cL).min=0:=by decide
 have e2:(cL).max=18446744073709551615:=by decide
 simp only [cC,e1,e2]
theorem aCz (x0:List bX) (x1:ByteArray×Int×Int×Unit) (y0:Option Nat) (hm:x0.length<=4611686018427387903) (hp:∀ y∈x0,aJQ y x1 y0):∀ (k i j:Nat),j - i<k->i<=j->j<=x0.length ->
  wK k (i:Int) (j:Int) x0 y0 x1 [⟨.int .i64,((gS (A5 x0 x1 y0) k i j:Nat):Int)⟩,⟨.bool,Fe x0 x1 y0 (gS (A5 x0 x1 y0) k i j)⟩]:=by
 intro k
 induction k with
 | zero=>intro i j h;omega
 | succ k ih =>
  intro i j h hij hj;rw [wK];by_cases hlt:i<j
  ·rw [if_pos (by simpa using hlt)];have e:cQ ((i:Int)+(j:Int)) 2=(((i+j) / 2:Nat):Int):=by
    rw [fG _ (by omega)];omega
   have hP:=hp _ (dN x0 ((i+j) / 2) (aC,(0:Int),(0:Int),()) (by omega));rw [e,aF];refine ⟨by rw [aK];omega,by rw [Ff];omega,by rw [Ff];omega,by rw [aK];omega,by omega,by omega,hP,?_⟩;simp only [gS,if_pos hlt];by_cases hq:A5 x0 x1 y0 ((i+j) / 2)=true
   ·rw [if_pos hq];exact (if_pos hq).mpr ⟨by rw [aK];omega,ih ((i+j) / 2+1) j (by omega) (by omega) hj⟩
   ·rw [if_neg hq];exact (if_neg hq).mpr (ih i ((i+j) / 2) (by omega) (by omega) (by omega))
  ·rw [if_neg (by simpa using hlt)];simp only [gS,if_neg hlt,Fe];by_cases hl:i<x0.length
   ·rw [if_pos (by simpa using hl),if_pos hl];exact ⟨by omega,by omega,hp _ (dN x0 i (aC,(0:Int),(0:Int),()) hl),rfl⟩
   ·rw [if_neg (by simpa using hl),if_neg hl]
def ZH:=dR KL (λ⟨x0,x1,⟨y0,_⟩,_⟩=>ZG x0 x1 y0) λ⟨x0,x1,⟨y0,_⟩,_⟩=>[⟨.int .i64,mB x0 x1 y0⟩,⟨.bool,mC x0 x1 y0⟩]
theorem aC0:c7 206 ZH:=dF aJR (λ⟨x0,x1,⟨y0,_⟩,_⟩ h hwf K q =>
 (aCy _ K q ((x0.length+1+1))).1 (by rw [ZF];exact aCz x0 x1 y0 h.1 h.2 (x0.length+1) 0 x0.length (by omega) (by omega) (aT _)))
def ZI:dB:=⟨134,Tryz.f134,[.own fP,.v fP,.fn 135 [],.v (.int .i64)],[.sl fP,.int .i64],[],[(79,S79),(208,bAA),(206,ZH),(135,aTn)],false,[]⟩
theorem aJS:FO ZI:=mo Tryz.func134 ⟨aQc,aTm,aC0,aJP,trivial⟩
def KM (x0:List bX) (x1:ByteArray×Int×Int×Unit) (x3:Int):Prop:=((ZG x0 x1 (some 135))/\(if (mC x0 x1 (some 135))=true then True else (if (decide ((x0.length:Int)>=x3))=true then True else ((P79 x0)/\(bA9 (Yv x0) (mB x0 x1 (some 135)) [x1])/\True))))
def A6 (x0:List bX) (x1:ByteArray×Int×Int×Unit) (x3:Int):List bX:=(if (mC x0 x1 (some 135))=true then x0 else (if (decide ((x0.length:Int)>=x3))=true then x0 else aCw (Yv x0) (mB x0 x1 (some 135)) [x1]))
def qN (x0:List bX) (x1:ByteArray×Int×Int×Unit) (x3:Int):Int:=(if (mC x0 x1 (some 135))=true then 4 else (if (decide ((x0.length:Int)>=x3))=true then 5 else 0))
def ZJ:=wD ZI (λ⟨x0,x1,_,x3,_⟩=>KM x0 x1 x3) (λ⟨x0,x1,_,x3,_⟩=>[none]) λ⟨x0,x1,_,x3,_⟩=>[⟨.sl fP,A6 x0 x1 x3⟩,⟨.int .i64,qN x0 x1 x3⟩]
theorem aC1:c7 134 ZJ:=dF aJS λ⟨x0,x1,_,x3,_⟩ h _ K q=>c1 h λh=>o3 h (λh=>rt) λh=>o3 h (λh=>rt) λh=>cS h λs1 h=>cS h λs2 h=>tP s1<|tP s2<|tP (VP [eW 0 0,eT 1 fP x1,(2,nU 135 []),eI 3 x3,eO 5 1 0 [],eO 6 2 0 [],eW 8 5,eI 9 0,eI 10 (mB x0 x1 (some 135)),eB 11 (mC x0 x1 (some 135)),(12,gO [O8 (mB x0 x1 (some 135)),N1 (mC x0 x1 (some 135))]),eW 13 0,eT 14 fP x1,(15,nU 207 [HM 2 0 []]),(16,gO [O8 (mB x0 x1 (some 135)),N1 (mC x0 x1 (some 135))]),eI 17 (mB x0 x1 (some 135)),eB 18 (mC x0 x1 (some 135)),eB 19 (mC x0 x1 (some 135)),eB 20 (mC x0 x1 (some 135)),eB 22 (decide ((x0.length:Int)>=x3)),eW 23 0,eI 24 (x0.length:Int),eI 25 x3,eB 26 (decide ((x0.length:Int)>=x3)),eW 28 0,eI 30 (mB x0 x1 (some 135)),eT 31 fP x1,eW 33 5] [jB fP x0,some (fY fP [x1] true none (some false)),some (fY aU [some 135] true none (some false)),none,none,jB fP (aCw (Yv x0) (mB x0 x1 (some 135)) [x1])])<|rt
end
def aTp:List AT:=[tW gT,nV (lF .i64),tW gT]
def aC2 (x0:List dG) (x1:Int) (x2:List dG):List dG:=x0.take x1.toNat++(x2++x0.drop x1.toNat)
def bAE (x0:List dG) (x1:Int) (x2:List dG):Prop:=0<=x1/\x1<=x0.length/\x2.length=1/\x0.length<=1048576
def bAF:Am.Spec:={ sig:=aTp,pre:=λ⟨x0,x1,x2,_⟩=>bAE x0 x1 x2,upd:=λ_=>[none,none],res:=λ⟨x0,x1,x2,_⟩=>[⟨p6 gT,aC2 x0 x1 x2⟩] }
theorem aTq:c7 212 bAF:=yB zK<|aTd.contract Fa.2.2.1 KI.2.2.1 QY.2.2.1 KH.2.2.1
noncomputable section
def bAG:dB:=⟨138,Tryz.f138,[.v gT],[.str],[],[],false,[]⟩
theorem bJl:FO bAG:=mo Tryz.func138 trivial
def bJm (x0:ByteArray×Int×Int×Int×Unit):Prop:=True
def Vk (x0:ByteArray×Int×Int×Int×Unit):ByteArray:=x0.1
def aTr:=dR bAG (λ⟨x0,_⟩=>bJm x0) λ⟨x0,_⟩=>[⟨.str,Vk x0⟩]
theorem aJT:c7 138 aTr:=dF bJl λ⟨x0,_⟩ h _ K q=>rt
def bAH:dB:=⟨211,Tryz.f211,[.v gT,.v gT,.p .fn],[.int .i64],[],[(202,aG5),(138,aTr)],false,[]⟩
theorem bJn:FO bAH:=mo Tryz.func211 ⟨QZ,aJT,trivial⟩
def aJU (x0:ByteArray×Int×Int×Int×Unit) (x1:ByteArray×Int×Int×Int×Unit) (x2:Option Nat):Prop:=x2=some 138/\True
def Q6 (x0:ByteArray×Int×Int×Int×Unit) (x1:ByteArray×Int×Int×Int×Unit) (x2:Option Nat):Int:=DZ (Vk x0) (Vk x1)
def bAI:=dR bAH (λ⟨x0,x1,x2,_⟩=>aJU x0 x1 x2) λ⟨x0,x1,x2,_⟩=>[⟨.int .i64,Q6 x0 x1 x2⟩]
theorem aTs:c7 211 bAI:=dF bJn λ⟨x0,x1,x2,_⟩ h _ K q=>by
 obtain ⟨rfl,h⟩:=h;exact tv<|tv<|tv<|rt
def KN:dB:=⟨210,Tryz.f210,[.v (.sl gT),.v gT,.fn 211 [(true,.fn)]],[.int .i64,.bool],[],[(211,bAI)],false,[]⟩
theorem aJV:FO KN:=mo Tryz.func210 ⟨aTs,trivial⟩
def aC3 (v9:Int) (v10:Int) (x0:List dG) (x2:Option Nat) (x1:ByteArray×Int×Int×Int×Unit):eD×bG:=([eL 0 gT x0,(2,nU 211 [pM aU x2]),eO 4 0 0 [],eI 8 (x0.length:Int),eI 9 v9,eI 10 v10],[some (fY gT [x1] true none (some false))])
mutual
def ZK:Nat->List dG->ByteArray×Int×Int×Int×Unit->Option Nat->List aY->Prop
 | 0,_,_,_,_=>False
 | n+1,x0,x1,x2,ds=>(wL n (0) ((x0.length:Int)) (x0) (x2) (x1) ds)
def wL:Nat->Int->Int->List dG->Option Nat->ByteArray×Int×Int×Int×Unit->List aY->Prop
 | 0,_,_,_,_,_,_=>False
 | n+1,v9,v10,x0,x2,x1,ds=>(if (decide (v9<v10))=true then ((cC .i64 (v9+v10))/\((cC .u64 (v9+v10))/\((cC .u64 (cQ (v9+v10) 2))/\((cC .i64 (cQ (v9+v10) 2))/\((0<=cQ (v9+v10) 2)/\(cQ (v9+v10) 2<(x0.length:Int))/\((aJU (aD x0 (aE (cQ (v9+v10) 2)) (aC,0,0,0,())) x1 x2)/\(if (decide (Q6 (aD x0 (aE (cQ (v9+v10) 2)) (aC,0,0,0,())) x1 x2<0))=true then ((cC .i64 (cQ (v9+v10) 2+1))/\(wL n (cQ (v9+v10) 2+1) (v10) (x0) (x2) (x1) ds)) else (wL n (v9) (cQ (v9+v10) 2) (x0) (x2) (x1) ds)))))))) else (if (decide (v9<(x0.length:Int)))=true then ((0<=v9)/\(v9<(x0.length:Int))/\((aJU (aD x0 (aE v9) (aC,0,0,0,())) x1 x2)/\(ds=[aP (.int .i64) v9,aP .bool (Q6 (aD x0 (aE v9) (aC,0,0,0,())) x1 x2==0)]))) else (ds=[aP (.int .i64) v9,aP .bool false])))
end
theorem aC4 (ds:List aY) (K:jK) (q:Nat->Value):∀ n,(∀ {x0 x1 x2},ZK n x0 x1 x2 ds->St KN (x0,x1,(x2,()),()) ds [] K q)/\(∀ {v9 v10 x0 x2 x1},wL n v9 v10 x0 x2 x1 ds->Cu KN 3 (aC3 v9 v10 x0 x2 x1) ds [] K q):=by
 intro n
 induction n with
 | zero=>exact ⟨λh=>h.elim,λh=>h.elim⟩
 | succ n ih =>
 obtain ⟨i,i3⟩:=ih;exact ⟨λh=>jp (i3 h),
  λ{v9} {v10} {x0} {x2} {x1} h=>bR h (λh=>c1 h λh=>c1 h λh=>tP ((by decide):(0:Int)<=(1:Int))<|c1 h λh=>c1 h λh=>c2 h λh=>c1 h λh=>bR h (λh=>c1 h λh=>jp (i3 h)) λh=>jp (i3 h)) λh=>bR h (λh=>c2 h λh=>c1 h λh=>rh h) λh=>rh h⟩
def A7 (x0:List dG) (x1:ByteArray×Int×Int×Int×Unit) (y0:Option Nat) (h:Nat):Bool:=decide (Q6 (x0.getD h (aC,(0:Int),(0:Int),(0:Int),())) x1 y0<0)
def Q7 (x0:List dG) (x1:ByteArray×Int×Int×Int×Unit) (y0:Option Nat):Nat:=gS (A7 x0 x1 y0) (x0.length+1) 0 x0.length
def Fg (x0:List dG) (x1:ByteArray×Int×Int×Int×Unit) (y0:Option Nat) (k:Nat):Bool:=if k<x0.length then Q6 (x0.getD k (aC,(0:Int),(0:Int),(0:Int),())) x1 y0==0 else false
def mD (x0:List dG) (x1:ByteArray×Int×Int×Int×Unit) (y0:Option Nat):Int:=(Q7 x0 x1 y0:Nat)
def mE (x0:List dG) (x1:ByteArray×Int×Int×Int×Unit) (y0:Option Nat):Bool:=Fg x0 x1 y0 (Q7 x0 x1 y0)
def ZL (x0:List dG) (x1:ByteArray×Int×Int×Int×Unit) (y0:Option Nat):Prop:=x0.length<=4611686018427387903/\∀ y∈x0,aJU y x1 y0
theorem Fh (n:Int):cC .u64 n↔0<=n/\n<=18446744073709551615:=by
 have e1:(cL).min=0:=by decide
 have e2:(cL).max=18446744073709551615:=by decide
 simp only [cC,e1,e2]
theorem aC5 (x0:List dG) (x1:ByteArray×Int×Int×Int×Unit) (y0:Option Nat) (hm:x0.length<=4611686018427387903) (hp:∀ y∈x0,aJU y x1 y0):∀ (k i j:Nat),j - i<k->i<=j->j<=x0.length ->
  wL k (i:Int) (j:Int) x0 y0 x1 [⟨.int .i64,((gS (A7 x0 x1 y0) k i j:Nat):Int)⟩,⟨.bool,Fg x0 x1 y0 (gS (A7 x0 x1 y0) k i j)⟩]:=by
 intro k
 induction k with
 | zero=>intro i j h;omega
 | succ k ih =>
  intro i j h hij hj;rw [wL];by_cases hlt:i<j
  ·rw [if_pos (by simpa using hlt)];have e:cQ ((i:Int)+(j:Int)) 2=(((i+j) / 2:Nat):Int):=by
    rw [fG _ (by omega)];omega
   have hP:=hp _ (dN x0 ((i+j) / 2) (aC,(0:Int),(0:Int),(0:Int),()) (by omega));rw [e,aF];refine ⟨by rw [aK];omega,by rw [Fh];omega,by rw [Fh];omega,by rw [aK];omega,by omega,by omega,hP,?_⟩;simp only [gS,if_pos hlt];by_cases hq:A7 x0 x1 y0 ((i+j) / 2)=true
   ·rw [if_pos hq];exact (if_pos hq).mpr ⟨by rw [aK];omega,ih ((i+j) / 2+1) j (by omega) (by omega) hj⟩
   ·rw [if_neg hq];exact (if_neg hq).mpr (ih i ((i+j) / 2) (by omega) (by omega) (by omega))
  ·rw [if_neg (by simpa using hlt)];simp only [gS,if_neg hlt,Fg];by_cases hl:i<x0.length
   ·rw [if_pos (by simpa using hl),if_pos hl];exact ⟨by omega,by omega,hp _ (dN x0 i (aC,(0:Int),(0:Int),(0:Int),()) hl),rfl⟩
   ·rw [if_neg (by simpa using hl),if_neg hl]
def ZM:=dR KN (λ⟨x0,x1,⟨y0,_⟩,_⟩=>ZL x0 x1 y0) λ⟨x0,x1,⟨y0,_⟩,_⟩=>[⟨.int .i64,mD x0 x1 y0⟩,⟨.bool,mE x0 x1 y0⟩]
theorem aC6:c7 210 ZM:=dF aJV (λ⟨x0,x1,⟨y0,_⟩,_⟩ h hwf K q =>
 (aC4 _ K q ((x0.length+1+1))).1 (by rw [ZK];exact aC5 x0 x1 y0 h.1 h.2 (x0.length+1) 0 x0.length (by omega) (by omega) (aT _)))
def ZN:dB:=⟨137,Tryz.f137,[.own gT,.v gT,.fn 138 [],.v (.int .i64)],[.sl gT,.int .i64],[],[(80,S80),(212,bAF),(210,ZM),(138,aTr)],false,[]⟩
theorem aJW:FO ZN:=mo Tryz.func137 ⟨aQd,aTq,aC6,aJT,trivial⟩
def KO (x0:List dG) (x1:ByteArray×Int×Int×Int×Unit) (x3:Int):Prop:=((ZL x0 x1 (some 138))/\(if (mE x0 x1 (some 138))=true then True else (if (decide ((x0.length:Int)>=x3))=true then True else ((P80 x0)/\(bAE (Yw x0) (mD x0 x1 (some 138)) [x1])/\True))))
def A8 (x0:List dG) (x1:ByteArray×Int×Int×Int×Unit) (x3:Int):List dG:=(if (mE x0 x1 (some 138))=true then x0 else (if (decide ((x0.length:Int)>=x3))=true then x0 else aC2 (Yw x0) (mD x0 x1 (some 138)) [x1]))
def qO (x0:List dG) (x1:ByteArray×Int×Int×Int×Unit) (x3:Int):Int:=(if (mE x0 x1 (some 138))=true then 4 else (if (decide ((x0.length:Int)>=x3))=true then 5 else 0))
def ZO:=wD ZN (λ⟨x0,x1,_,x3,_⟩=>KO x0 x1 x3) (λ⟨x0,x1,_,x3,_⟩=>[none]) λ⟨x0,x1,_,x3,_⟩=>[⟨.sl gT,A8 x0 x1 x3⟩,⟨.int .i64,qO x0 x1 x3⟩]
theorem aC7:c7 137 ZO:=dF aJW λ⟨x0,x1,_,x3,_⟩ h _ K q=>c1 h λh=>o3 h (λh=>rt) λh=>o3 h (λh=>rt) λh=>cS h λs1 h=>cS h λs2 h=>tP s1<|tP s2<|tP (VP [eW 0 0,eT 1 gT x1,(2,nU 138 []),eI 3 x3,eO 5 1 0 [],eO 6 2 0 [],eW 8 5,eI 9 0,eI 10 (mD x0 x1 (some 138)),eB 11 (mE x0 x1 (some 138)),(12,gO [O8 (mD x0 x1 (some 138)),N1 (mE x0 x1 (some 138))]),eW 13 0,eT 14 gT x1,(15,nU 211 [HM 2 0 []]),(16,gO [O8 (mD x0 x1 (some 138)),N1 (mE x0 x1 (some 138))]),eI 17 (mD x0 x1 (some 138)),eB 18 (mE x0 x1 (some 138)),eB 19 (mE x0 x1 (some 138)),eB 20 (mE x0 x1 (some 138)),eB 22 (decide ((x0.length:Int)>=x3)),eW 23 0,eI 24 (x0.length:Int),eI 25 x3,eB 26 (decide ((x0.length:Int)>=x3)),eW 28 0,eI 30 (mD x0 x1 (some 138)),eT 31 gT x1,eW 33 5] [jB gT x0,some (fY gT [x1] true none (some false)),some (fY aU [some 138] true none (some false)),none,none,jB gT (aC2 (Yw x0) (mD x0 x1 (some 138)) [x1])])<|rt
end
def aTt:List AT:=[tW fP,nV (lF .i64),tW fP]
def aC8 (x0:List bX) (x1:Int) (x2:List bX):List bX:=x0.take x1.toNat++(x2++x0.drop x1.toNat)
def bAJ (x0:List bX) (x1:Int) (x2:List bX):Prop:=0<=x1/\x1<=x0.length/\x2.length=1/\x0.length<=1048576
def bAK:Am.Spec:={ sig:=aTt,pre:=λ⟨x0,x1,x2,_⟩=>bAJ x0 x1 x2,upd:=λ_=>[none,none],res:=λ⟨x0,x1,x2,_⟩=>[⟨p6 fP,aC8 x0 x1 x2⟩] }
theorem aTu:c7 216 bAK:=yB zL<|aTe.contract Fa.2.2.2.1 KI.2.2.2.1 QY.2.2.2.1 KH.2.2.2.1
noncomputable section
def bAL:dB:=⟨141,Tryz.f141,[.v fP],[.str],[],[],false,[]⟩
theorem bJo:FO bAL:=mo Tryz.func141 trivial
def bJp (x0:ByteArray×Int×Int×Unit):Prop:=True
def Vl (x0:ByteArray×Int×Int×Unit):ByteArray:=x0.1
def aTv:=dR bAL (λ⟨x0,_⟩=>bJp x0) λ⟨x0,_⟩=>[⟨.str,Vl x0⟩]
theorem aJX:c7 141 aTv:=dF bJo λ⟨x0,_⟩ h _ K q=>rt
def bAM:dB:=⟨215,Tryz.f215,[.v fP,.v fP,.p .fn],[.int .i64],[],[(202,aG5),(141,aTv)],false,[]⟩
theorem bJq:FO bAM:=mo Tryz.func215 ⟨QZ,aJX,trivial⟩
def aJY (x0:ByteArray×Int×Int×Unit) (x1:ByteArray×Int×Int×Unit) (x2:Option Nat):Prop:=x2=some 141/\True
def Q8 (x0:ByteArray×Int×Int×Unit) (x1:ByteArray×Int×Int×Unit) (x2:Option Nat):Int:=DZ (Vl x0) (Vl x1)
def bAN:=dR bAM (λ⟨x0,x1,x2,_⟩=>aJY x0 x1 x2) λ⟨x0,x1,x2,_⟩=>[⟨.int .i64,Q8 x0 x1 x2⟩]
theorem aTw:c7 215 bAN:=dF bJq λ⟨x0,x1,x2,_⟩ h _ K q=>by
 obtain ⟨rfl,h⟩:=h;exact tv<|tv<|tv<|rt
def KP:dB:=⟨214,Tryz.f214,[.v (.sl fP),.v fP,.fn 215 [(true,.fn)]],[.int .i64,.bool],[],[(215,bAN)],false,[]⟩
theorem aJZ:FO KP:=mo Tryz.func214 ⟨aTw,trivial⟩
def aC9 (v9:Int) (v10:Int) (x0:List bX) (x2:Option Nat) (x1:ByteArray×Int×Int×Unit):eD×bG:=([eL 0 fP x0,(2,nU 215 [pM aU x2]),eO 4 0 0 [],eI 8 (x0.length:Int),eI 9 v9,eI 10 v10],[some (fY fP [x1] true none (some false))])
mutual
def ZP:Nat->List bX->ByteArray×Int×Int×Unit->Option Nat->List aY->Prop
 | 0,_,_,_,_=>False
 | n+1,x0,x1,x2,ds=>(wM n (0) ((x0.length:Int)) (x0) (x2) (x1) ds)
def wM:Nat->Int->Int->List bX->Option Nat->ByteArray×Int×Int×Unit->List aY->Prop
 | 0,_,_,_,_,_,_=>False
 | n+1,v9,v10,x0,x2,x1,ds=>(if (decide (v9<v10))=true then ((cC .i64 (v9+v10))/\((cC .u64 (v9+v10))/\((cC .u64 (cQ (v9+v10) 2))/\((cC .i64 (cQ (v9+v10) 2))/\((0<=cQ (v9+v10) 2)/\(cQ (v9+v10) 2<(x0.length:Int))/\((aJY (aD x0 (aE (cQ (v9+v10) 2)) (aC,0,0,())) x1 x2)/\(if (decide (Q8 (aD x0 (aE (cQ (v9+v10) 2)) (aC,0,0,())) x1 x2<0))=true then ((cC .i64 (cQ (v9+v10) 2+1))/\(wM n (cQ (v9+v10) 2+1) (v10) (x0) (x2) (x1) ds)) else (wM n (v9) (cQ (v9+v10) 2) (x0) (x2) (x1) ds)))))))) else (if (decide (v9<(x0.length:Int)))=true then ((0<=v9)/\(v9<(x0.length:Int))/\((aJY (aD x0 (aE v9) (aC,0,0,())) x1 x2)/\(ds=[aP (.int .i64) v9,aP .bool (Q8 (aD x0 (aE v9) (aC,0,0,())) x1 x2==0)]))) else (ds=[aP (.int .i64) v9,aP .bool false])))
end
theorem aCA (ds:List aY) (K:jK) (q:Nat->Value):∀ n,(∀ {x0 x1 x2},ZP n x0 x1 x2 ds->St KP (x0,x1,(x2,()),()) ds [] K q)/\(∀ {v9 v10 x0 x2 x1},wM n v9 v10 x0 x2 x1 ds->Cu KP 3 (aC9 v9 v10 x0 x2 x1) ds [] K q):=by
 intro n
 induction n with
 | zero=>exact ⟨λh=>h.elim,λh=>h.elim⟩
 | succ n ih =>
 obtain ⟨i,i3⟩:=ih;exact ⟨λh=>jp (i3 h),
  λ{v9} {v10} {x0} {x2} {x1} h=>bR h (λh=>c1 h λh=>c1 h λh=>tP ((by decide):(0:Int)<=(1:Int))<|c1 h λh=>c1 h λh=>c2 h λh=>c1 h λh=>bR h (λh=>c1 h λh=>jp (i3 h)) λh=>jp (i3 h)) λh=>bR h (λh=>c2 h λh=>c1 h λh=>rh h) λh=>rh h⟩
def A9 (x0:List bX) (x1:ByteArray×Int×Int×Unit) (y0:Option Nat) (h:Nat):Bool:=decide (Q8 (x0.getD h (aC,(0:Int),(0:Int),())) x1 y0<0)
def Q9 (x0:List bX) (x1:ByteArray×Int×Int×Unit) (y0:Option Nat):Nat:=gS (A9 x0 x1 y0) (x0.length+1) 0 x0.length
def Fi (x0:List bX) (x1:ByteArray×Int×Int×Unit) (y0:Option Nat) (k:Nat):Bool:=if k<x0.length then Q8 (x0.getD k (aC,(0:Int),(0:Int),())) x1 y0==0 else false
def mF (x0:List bX) (x1:ByteArray×Int×Int×Unit) (y0:Option Nat):Int:=(Q9 x0 x1 y0:Nat)
def mG (x0:List bX) (x1:ByteArray×Int×Int×Unit) (y0:Option Nat):Bool:=Fi x0 x1 y0 (Q9 x0 x1 y0)
def ZQ (x0:List bX) (x1:ByteArray×Int×Int×Unit) (y0:Option Nat):Prop:=x0.length<=4611686018427387903/\∀ y∈x0,aJY y x1 y0
theorem Fj (n:Int):cC .u64 n↔0<=n/\n<=18446744073709551615:=by
 have e1:(cL).min=0:=by decide
 have e2:(cL).max=18446744073709551615:=by decide
 simp only [cC,e1,e2]
theorem aCB (x0:List bX) (x1:ByteArray×Int×Int×Unit) (y0:Option Nat) (hm:x0.length<=4611686018427387903) (hp:∀ y∈x0,aJY y x1 y0):∀ (k i j:Nat),j - i<k->i<=j->j<=x0.length ->
  wM k (i:Int) (j:Int) x0 y0 x1 [⟨.int .i64,((gS (A9 x0 x1 y0) k i j:Nat):Int)⟩,⟨.bool,Fi x0 x1 y0 (gS (A9 x0 x1 y0) k i j)⟩]:=by
 intro k
 induction k with
 | zero=>intro i j h;omega
 | succ k ih =>
  intro i j h hij hj;rw [wM];by_cases hlt:i<j
  ·rw [if_pos (by simpa using hlt)];have e:cQ ((i:Int)+(j:Int)) 2=(((i+j) / 2:Nat):Int):=by
    rw [fG _ (by omega)];omega
   have hP:=hp _ (dN x0 ((i+j) / 2) (aC,(0:Int),(0:Int),()) (by omega));rw [e,aF];refine ⟨by rw [aK];omega,by rw [Fj];omega,by rw [Fj];omega,by rw [aK];omega,by omega,by omega,hP,?_⟩;simp only [gS,if_pos hlt];by_cases hq:A9 x0 x1 y0 ((i+j) / 2)=true
   ·rw [if_pos hq];exact (if_pos hq).mpr ⟨by rw [aK];omega,ih ((i+j) / 2+1) j (by omega) (by omega) hj⟩
   ·rw [if_neg hq];exact (if_neg hq).mpr (ih i ((i+j) / 2) (by omega) (by omega) (by omega))
  ·rw [if_neg (by simpa using hlt)];simp only [gS,if_neg hlt,Fi];by_cases hl:i<x0.length
   ·rw [if_pos (by simpa using hl),if_pos hl];exact ⟨by omega,by omega,hp _ (dN x0 i (aC,(0:Int),(0:Int),()) hl),rfl⟩
   ·rw [if_neg (by simpa using hl),if_neg hl]
def ZR:=dR KP (λ⟨x0,x1,⟨y0,_⟩,_⟩=>ZQ x0 x1 y0) λ⟨x0,x1,⟨y0,_⟩,_⟩=>[⟨.int .i64,mF x0 x1 y0⟩,⟨.bool,mG x0 x1 y0⟩]
theorem aCC:c7 214 ZR:=dF aJZ (λ⟨x0,x1,⟨y0,_⟩,_⟩ h hwf K q =>
 (aCA _ K q ((x0.length+1+1))).1 (by rw [ZP];exact aCB x0 x1 y0 h.1 h.2 (x0.length+1) 0 x0.length (by omega) (by omega) (aT _)))
def ZS:dB:=⟨140,Tryz.f140,[.own fP,.v fP,.fn 141 [],.v (.int .i64)],[.sl fP,.int .i64],[],[(82,S82),(216,bAK),(214,ZR),(141,aTv)],false,[]⟩
theorem aKa:FO ZS:=mo Tryz.func140 ⟨aQf,aTu,aCC,aJX,trivial⟩
def KR (x0:List bX) (x1:ByteArray×Int×Int×Unit) (x3:Int):Prop:=((ZQ x0 x1 (some 141))/\(if (mG x0 x1 (some 141))=true then True else (if (decide ((x0.length:Int)>=x3))=true then True else ((P82 x0)/\(bAJ (Yx x0) (mF x0 x1 (some 141)) [x1])/\True))))
def Aa (x0:List bX) (x1:ByteArray×Int×Int×Unit) (x3:Int):List bX:=(if (mG x0 x1 (some 141))=true then x0 else (if (decide ((x0.length:Int)>=x3))=true then x0 else aC8 (Yx x0) (mF x0 x1 (some 141)) [x1]))
def qP (x0:List bX) (x1:ByteArray×Int×Int×Unit) (x3:Int):Int:=(if (mG x0 x1 (some 141))=true then 4 else (if (decide ((x0.length:Int)>=x3))=true then 5 else 0))
def ZT:=wD ZS (λ⟨x0,x1,_,x3,_⟩=>KR x0 x1 x3) (λ⟨x0,x1,_,x3,_⟩=>[none]) λ⟨x0,x1,_,x3,_⟩=>[⟨.sl fP,Aa x0 x1 x3⟩,⟨.int .i64,qP x0 x1 x3⟩]
theorem aCD:c7 140 ZT:=dF aKa λ⟨x0,x1,_,x3,_⟩ h _ K q=>c1 h λh=>o3 h (λh=>rt) λh=>o3 h (λh=>rt) λh=>cS h λs1 h=>cS h λs2 h=>tP s1<|tP s2<|tP (VP [eW 0 0,eT 1 fP x1,(2,nU 141 []),eI 3 x3,eO 5 1 0 [],eO 6 2 0 [],eW 8 5,eI 9 0,eI 10 (mF x0 x1 (some 141)),eB 11 (mG x0 x1 (some 141)),(12,gO [O8 (mF x0 x1 (some 141)),N1 (mG x0 x1 (some 141))]),eW 13 0,eT 14 fP x1,(15,nU 215 [HM 2 0 []]),(16,gO [O8 (mF x0 x1 (some 141)),N1 (mG x0 x1 (some 141))]),eI 17 (mF x0 x1 (some 141)),eB 18 (mG x0 x1 (some 141)),eB 19 (mG x0 x1 (some 141)),eB 20 (mG x0 x1 (some 141)),eB 22 (decide ((x0.length:Int)>=x3)),eW 23 0,eI 24 (x0.length:Int),eI 25 x3,eB 26 (decide ((x0.length:Int)>=x3)),eW 28 0,eI 30 (mF x0 x1 (some 141)),eT 31 fP x1,eW 33 5] [jB fP x0,some (fY fP [x1] true none (some false)),some (fY aU [some 141] true none (some false)),none,none,jB fP (aC8 (Yx x0) (mF x0 x1 (some 141)) [x1])])<|rt
end
def aTx:List AT:=[tW fP,nV (lF .i64),tW fP]
def aCE (x0:List bX) (x1:Int) (x2:List bX):List bX:=x0.take x1.toNat++(x2++x0.drop x1.toNat)
def bAO (x0:List bX) (x1:Int) (x2:List bX):Prop:=0<=x1/\x1<=x0.length/\x2.length=1/\x0.length<=1048576
def bAP:Am.Spec:={ sig:=aTx,pre:=λ⟨x0,x1,x2,_⟩=>bAO x0 x1 x2,upd:=λ_=>[none,none],res:=λ⟨x0,x1,x2,_⟩=>[⟨p6 fP,aCE x0 x1 x2⟩] }
theorem aTy:c7 219 bAP:=yB zM<|aTf.contract Fa.2.2.2.2 KI.2.2.2.2 QY.2.2.2.2 KH.2.2.2.2
noncomputable section
def bAQ:dB:=⟨144,Tryz.f144,[.v fP],[.str],[],[],false,[]⟩
theorem bJr:FO bAQ:=mo Tryz.func144 trivial
def bJs (x0:ByteArray×Int×Int×Unit):Prop:=True
def Vm (x0:ByteArray×Int×Int×Unit):ByteArray:=x0.1
def aTz:=dR bAQ (λ⟨x0,_⟩=>bJs x0) λ⟨x0,_⟩=>[⟨.str,Vm x0⟩]
theorem aKb:c7 144 aTz:=dF bJr λ⟨x0,_⟩ h _ K q=>rt
def bAR:dB:=⟨218,Tryz.f218,[.v fP,.v fP,.p .fn],[.int .i64],[],[(202,aG5),(144,aTz)],false,[]⟩
theorem bJt:FO bAR:=mo Tryz.func218 ⟨QZ,aKb,trivial⟩
def aKc (x0:ByteArray×Int×Int×Unit) (x1:ByteArray×Int×Int×Unit) (x2:Option Nat):Prop:=x2=some 144/\True
def Qa (x0:ByteArray×Int×Int×Unit) (x1:ByteArray×Int×Int×Unit) (x2:Option Nat):Int:=DZ (Vm x0) (Vm x1)
def bAS:=dR bAR (λ⟨x0,x1,x2,_⟩=>aKc x0 x1 x2) λ⟨x0,x1,x2,_⟩=>[⟨.int .i64,Qa x0 x1 x2⟩]
theorem aT0:c7 218 bAS:=dF bJt λ⟨x0,x1,x2,_⟩ h _ K q=>by
 obtain ⟨rfl,h⟩:=h;exact tv<|tv<|tv<|rt
def KS:dB:=⟨217,Tryz.f217,[.v (.sl fP),.v fP,.fn 218 [(true,.fn)]],[.int .i64,.bool],[],[(218,bAS)],false,[]⟩
theorem aKd:FO KS:=mo Tryz.func217 ⟨aT0,trivial⟩
def aCF (v9:Int) (v10:Int) (x0:List bX) (x2:Option Nat) (x1:ByteArray×Int×Int×Unit):eD×bG:=([eL 0 fP x0,(2,nU 218 [pM aU x2]),eO 4 0 0 [],eI 8 (x0.length:Int),eI 9 v9,eI 10 v10],[some (fY fP [x1] true none (some false))])
mutual
def ZU:Nat->List bX->ByteArray×Int×Int×Unit->Option Nat->List aY->Prop
 | 0,_,_,_,_=>False
 | n+1,x0,x1,x2,ds=>(wN n (0) ((x0.length:Int)) (x0) (x2) (x1) ds)
def wN:Nat->Int->Int->List bX->Option Nat->ByteArray×Int×Int×Unit->List aY->Prop
 | 0,_,_,_,_,_,_=>False
 | n+1,v9,v10,x0,x2,x1,ds=>(if (decide (v9<v10))=true then ((cC .i64 (v9+v10))/\((cC .u64 (v9+v10))/\((cC .u64 (cQ (v9+v10) 2))/\((cC .i64 (cQ (v9+v10) 2))/\((0<=cQ (v9+v10) 2)/\(cQ (v9+v10) 2<(x0.length:Int))/\((aKc (aD x0 (aE (cQ (v9+v10) 2)) (aC,0,0,())) x1 x2)/\(if (decide (Qa (aD x0 (aE (cQ (v9+v10) 2)) (aC,0,0,())) x1 x2<0))=true then ((cC .i64 (cQ (v9+v10) 2+1))/\(wN n (cQ (v9+v10) 2+1) (v10) (x0) (x2) (x1) ds)) else (wN n (v9) (cQ (v9+v10) 2) (x0) (x2) (x1) ds)))))))) else (if (decide (v9<(x0.length:Int)))=true then ((0<=v9)/\(v9<(x0.length:Int))/\((aKc (aD x0 (aE v9) (aC,0,0,())) x1 x2)/\(ds=[aP (.int .i64) v9,aP .bool (Qa (aD x0 (aE v9) (aC,0,0,())) x1 x2==0)]))) else (ds=[aP (.int .i64) v9,aP .bool false])))
end
theorem aCG (ds:List aY) (K:jK) (q:Nat->Value):∀ n,(∀ {x0 x1 x2},ZU n x0 x1 x2 ds->St KS (x0,x1,(x2,()),()) ds [] K q)/\(∀ {v9 v10 x0 x2 x1},wN n v9 v10 x0 x2 x1 ds->Cu KS 3 (aCF v9 v10 x0 x2 x1) ds [] K q):=by
 intro n
 induction n with
 | zero=>exact ⟨λh=>h.elim,λh=>h.elim⟩
 | succ n ih =>
 obtain ⟨i,i3⟩:=ih;exact ⟨λh=>jp (i3 h),
  λ{v9} {v10} {x0} {x2} {x1} h=>bR h (λh=>c1 h λh=>c1 h λh=>tP ((by decide):(0:Int)<=(1:Int))<|c1 h λh=>c1 h λh=>c2 h λh=>c1 h λh=>bR h (λh=>c1 h λh=>jp (i3 h)) λh=>jp (i3 h)) λh=>bR h (λh=>c2 h λh=>c1 h λh=>rh h) λh=>rh h⟩
def Ab (x0:List bX) (x1:ByteArray×Int×Int×Unit) (y0:Option Nat) (h:Nat):Bool:=decide (Qa (x0.getD h (aC,(0:Int),(0:Int),())) x1 y0<0)
def Qb (x0:List bX) (x1:ByteArray×Int×Int×Unit) (y0:Option Nat):Nat:=gS (Ab x0 x1 y0) (x0.length+1) 0 x0.length
def Fk (x0:List bX) (x1:ByteArray×Int×Int×Unit) (y0:Option Nat) (k:Nat):Bool:=if k<x0.length then Qa (x0.getD k (aC,(0:Int),(0:Int),())) x1 y0==0 else false
def mH (x0:List bX) (x1:ByteArray×Int×Int×Unit) (y0:Option Nat):Int:=(Qb x0 x1 y0:Nat)
def mI (x0:List bX) (x1:ByteArray×Int×Int×Unit) (y0:Option Nat):Bool:=Fk x0 x1 y0 (Qb x0 x1 y0)
def ZV (x0:List bX) (x1:ByteArray×Int×Int×Unit) (y0:Option Nat):Prop:=x0.length<=4611686018427387903/\∀ y∈x0,aKc y x1 y0
theorem Fl (n:Int):cC .u64 n↔0<=n/\n<=18446744073709551615:=by
 have e1:(cL).min=0:=by decide
 have e2:(cL).max=18446744073709551615:=by decide
 simp only [cC,e1,e2]
theorem aCH (x0:List bX) (x1:ByteArray×Int×Int×Unit) (y0:Option Nat) (hm:x0.length<=4611686018427387903) (hp:∀ y∈x0,aKc y x1 y0):∀ (k i j:Nat),j - i<k->i<=j->j<=x0.length ->
  wN k (i:Int) (j:Int) x0 y0 x1 [⟨.int .i64,((gS (Ab x0 x1 y0) k i j:Nat):Int)⟩,⟨.bool,Fk x0 x1 y0 (gS (Ab x0 x1 y0) k i j)⟩]:=by
 intro k
 induction k with
 | zero=>intro i j h;omega
 | succ k ih =>
  intro i j h hij hj;rw [wN];by_cases hlt:i<j
  ·rw [if_pos (by simpa using hlt)];have e:cQ ((i:Int)+(j:Int)) 2=(((i+j) / 2:Nat):Int):=by
    rw [fG _ (by omega)];omega
   have hP:=hp _ (dN x0 ((i+j) / 2) (aC,(0:Int),(0:Int),()) (by omega));rw [e,aF];refine ⟨by rw [aK];omega,by rw [Fl];omega,by rw [Fl];omega,by rw [aK];omega,by omega,by omega,hP,?_⟩;simp only [gS,if_pos hlt];by_cases hq:Ab x0 x1 y0 ((i+j) / 2)=true
   ·rw [if_pos hq];exact (if_pos hq).mpr ⟨by rw [aK];omega,ih ((i+j) / 2+1) j (by omega) (by omega) hj⟩
   ·rw [if_neg hq];exact (if_neg hq).mpr (ih i ((i+j) / 2) (by omega) (by omega) (by omega))
  ·rw [if_neg (by simpa using hlt)];simp only [gS,if_neg hlt,Fk];by_cases hl:i<x0.length
   ·rw [if_pos (by simpa using hl),if_pos hl];exact ⟨by omega,by omega,hp _ (dN x0 i (aC,(0:Int),(0:Int),()) hl),rfl⟩
   ·rw [if_neg (by simpa using hl),if_neg hl]
def ZW:=dR KS (λ⟨x0,x1,⟨y0,_⟩,_⟩=>ZV x0 x1 y0) λ⟨x0,x1,⟨y0,_⟩,_⟩=>[⟨.int .i64,mH x0 x1 y0⟩,⟨.bool,mI x0 x1 y0⟩]
theorem aCI:c7 217 ZW:=dF aKd (λ⟨x0,x1,⟨y0,_⟩,_⟩ h hwf K q =>
 (aCG _ K q ((x0.length+1+1))).1 (by rw [ZU];exact aCH x0 x1 y0 h.1 h.2 (x0.length+1) 0 x0.length (by omega) (by omega) (aT _)))
def ZX:dB:=⟨143,Tryz.f143,[.own fP,.v fP,.fn 144 [],.v (.int .i64)],[.sl fP,.int .i64],[],[(83,S83),(219,bAP),(217,ZW),(144,aTz)],false,[]⟩
theorem aKe:FO ZX:=mo Tryz.func143 ⟨aQg,aTy,aCI,aKb,trivial⟩
def KT (x0:List bX) (x1:ByteArray×Int×Int×Unit) (x3:Int):Prop:=((ZV x0 x1 (some 144))/\(if (mI x0 x1 (some 144))=true then True else (if (decide ((x0.length:Int)>=x3))=true then True else ((P83 x0)/\(bAO (Yy x0) (mH x0 x1 (some 144)) [x1])/\True))))
def Ac (x0:List bX) (x1:ByteArray×Int×Int×Unit) (x3:Int):List bX:=(if (mI x0 x1 (some 144))=true then x0 else (if (decide ((x0.length:Int)>=x3))=true then x0 else aCE (Yy x0) (mH x0 x1 (some 144)) [x1]))
def qQ (x0:List bX) (x1:ByteArray×Int×Int×Unit) (x3:Int):Int:=(if (mI x0 x1 (some 144))=true then 4 else (if (decide ((x0.length:Int)>=x3))=true then 5 else 0))
def ZY:=wD ZX (λ⟨x0,x1,_,x3,_⟩=>KT x0 x1 x3) (λ⟨x0,x1,_,x3,_⟩=>[none]) λ⟨x0,x1,_,x3,_⟩=>[⟨.sl fP,Ac x0 x1 x3⟩,⟨.int .i64,qQ x0 x1 x3⟩]
theorem aCJ:c7 143 ZY:=dF aKe λ⟨x0,x1,_,x3,_⟩ h _ K q=>c1 h λh=>o3 h (λh=>rt) λh=>o3 h (λh=>rt) λh=>cS h λs1 h=>cS h λs2 h=>tP s1<|tP s2<|tP (VP [eW 0 0,eT 1 fP x1,(2,nU 144 []),eI 3 x3,eO 5 1 0 [],eO 6 2 0 [],eW 8 5,eI 9 0,eI 10 (mH x0 x1 (some 144)),eB 11 (mI x0 x1 (some 144)),(12,gO [O8 (mH x0 x1 (some 144)),N1 (mI x0 x1 (some 144))]),eW 13 0,eT 14 fP x1,(15,nU 218 [HM 2 0 []]),(16,gO [O8 (mH x0 x1 (some 144)),N1 (mI x0 x1 (some 144))]),eI 17 (mH x0 x1 (some 144)),eB 18 (mI x0 x1 (some 144)),eB 19 (mI x0 x1 (some 144)),eB 20 (mI x0 x1 (some 144)),eB 22 (decide ((x0.length:Int)>=x3)),eW 23 0,eI 24 (x0.length:Int),eI 25 x3,eB 26 (decide ((x0.length:Int)>=x3)),eW 28 0,eI 30 (mH x0 x1 (some 144)),eT 31 fP x1,eW 33 5] [jB fP x0,some (fY fP [x1] true none (some false)),some (fY aU [some 144] true none (some false)),none,none,jB fP (aCE (Yy x0) (mH x0 x1 (some 144)) [x1])])<|rt
def d84:dB:=⟨84,Tryz.f84,[.po vP,.v Gk],[.bool,.int .i64],[],[(130,aZE),(133,aZQ),(136,aZU),(139,bAa),(142,bAc),(145,bAf),(146,bAh),(147,bAs),(148,bAu),(149,bAw),(150,bAy),(151,bA0),(131,ZE),(134,ZJ),(137,ZO),(140,ZT),(143,ZY)],false,[]⟩
theorem o84:FO d84:=mo Tryz.func84 ⟨aSc,aSt,aSv,aS9,aSB,aSC,aSD,aSV,aSX,aSY,aSZ,aTa,aCv,aC1,aC7,aCD,aCJ,trivial⟩
def P84 (x0:fV) (x1:ByteArray×ByteArray×List Int×List Int×Unit):Prop:=(if (aB x1.1==aB (aA #[98,101,110,100]))=true then ((aN8 x1.2.1)/\((KK x0.1 (rW x1.2.1) 12)/\True)) else (if (aB x1.1==aB (aA #[119,111,114,107,101,114]))=true then ((aNC x1.2.1)/\((KM x0.2.2.2.2.2.2.1 (rX x1.2.1) 12)/\True)) else (if (aB x1.1==aB (aA #[102,97,114,101]))=true then ((aNE x1.2.1)/\((KO x0.2.2.2.2.2.2.2.2.1 (rY x1.2.1) 8)/\True)) else (if (aB x1.1==aB (aA #[104,101,108,112,101,114]))=true then ((aS8 x1.2.1)/\((KR x0.2.2.2.2.2.2.2.2.2.2.1 (rZ x1.2.1) 10)/\True)) else (if (aB x1.1==aB (aA #[116,97,115,107]))=true then ((aSA x1.2.1)/\((KT x0.2.2.2.2.2.2.2.2.2.2.2.1 (r9 x1.2.1) 8)/\True)) else (if (aB x1.1==aB (aA #[104,111,117,114]))=true then ((aNH x1.2.1)/\((aNI x0.2.2.1 (sA x1.2.1) 48)/\True)) else (if (aB x1.1==aB (aA #[116,101,115,116]))=true then ((aNN x1.2.1)/\((aSW x0.2.2.2.2.2.2.2.2.2.1 (MX x1.2.1))/\True)) else (if (aB x1.1==aB (aA #[114,111,112,101]))=true then ((aNO x1.2.1)/\True) else (if (aB x1.1==aB (aA #[109,111,116,111,114]))=true then ((aNP x1.2.1)/\True) else ((aNQ x1.2.1)/\True))))))))))
def ZZ (x0:fV) (x1:ByteArray×ByteArray×List Int×List Int×Unit):Bool:=(if (aB x1.1==aB (aA #[98,101,110,100]))=true then FZ x1.2.1 else (if (aB x1.1==aB (aA #[119,111,114,107,101,114]))=true then F2 x1.2.1 else (if (aB x1.1==aB (aA #[102,97,114,101]))=true then F3 x1.2.1 else (if (aB x1.1==aB (aA #[104,101,108,112,101,114]))=true then F4 x1.2.1 else (if (aB x1.1==aB (aA #[116,97,115,107]))=true then F5 x1.2.1 else (if (aB x1.1==aB (aA #[104,111,117,114]))=true then F6 x1.2.1 else (if (aB x1.1==aB (aA #[116,101,115,116]))=true then V8 x1.2.1 else (if (aB x1.1==aB (aA #[114,111,112,101]))=true then Vc x1.2.1 else (if (aB x1.1==aB (aA #[109,111,116,111,114]))=true then Vf x1.2.1 else Vh x1.2.1)))))))))
def Z0 (x0:fV) (x1:ByteArray×ByteArray×List Int×List Int×Unit):Int:=(if (aB x1.1==aB (aA #[98,101,110,100]))=true then qM x0.1 (rW x1.2.1) 12 else (if (aB x1.1==aB (aA #[119,111,114,107,101,114]))=true then qN x0.2.2.2.2.2.2.1 (rX x1.2.1) 12 else (if (aB x1.1==aB (aA #[102,97,114,101]))=true then qO x0.2.2.2.2.2.2.2.2.1 (rY x1.2.1) 8 else (if (aB x1.1==aB (aA #[104,101,108,112,101,114]))=true then qP x0.2.2.2.2.2.2.2.2.2.2.1 (rZ x1.2.1) 10 else (if (aB x1.1==aB (aA #[116,97,115,107]))=true then qQ x0.2.2.2.2.2.2.2.2.2.2.2.1 (r9 x1.2.1) 8 else (if (aB x1.1==aB (aA #[104,111,117,114]))=true then F7 x0.2.2.1 (sA x1.2.1) 48 else (if (aB x1.1==aB (aA #[116,101,115,116]))=true then Va x0.2.2.2.2.2.2.2.2.2.1 (MX x1.2.1) else (if (aB x1.1==aB (aA #[114,111,112,101]))=true then 0 else (if (aB x1.1==aB (aA #[109,111,116,111,114]))=true then 0 else 0)))))))))
def Z1 (x0:fV) (x1:ByteArray×ByteArray×List Int×List Int×Unit):fV:=(if (aB x1.1==aB (aA #[98,101,110,100]))=true then (A4 x0.1 (rW x1.2.1) 12,x0.2.1,x0.2.2.1,x0.2.2.2.1,x0.2.2.2.2.1,x0.2.2.2.2.2.1,x0.2.2.2.2.2.2.1,x0.2.2.2.2.2.2.2.1,x0.2.2.2.2.2.2.2.2.1,x0.2.2.2.2.2.2.2.2.2.1,x0.2.2.2.2.2.2.2.2.2.2.1,x0.2.2.2.2.2.2.2.2.2.2.2.1,()) else (if (aB x1.1==aB (aA #[119,111,114,107,101,114]))=true then (x0.1,x0.2.1,x0.2.2.1,x0.2.2.2.1,x0.2.2.2.2.1,x0.2.2.2.2.2.1,A6 x0.2.2.2.2.2.2.1 (rX x1.2.1) 12,x0.2.2.2.2.2.2.2.1,x0.2.2.2.2.2.2.2.2.1,x0.2.2.2.2.2.2.2.2.2.1,x0.2.2.2.2.2.2.2.2.2.2.1,x0.2.2.2.2.2.2.2.2.2.2.2.1,()) else (if (aB x1.1==aB (aA #[102,97,114,101]))=true then (x0.1,x0.2.1,x0.2.2.1,x0.2.2.2.1,x0.2.2.2.2.1,x0.2.2.2.2.2.1,x0.2.2.2.2.2.2.1,x0.2.2.2.2.2.2.2.1,A8 x0.2.2.2.2.2.2.2.2.1 (rY x1.2.1) 8,x0.2.2.2.2.2.2.2.2.2.1,x0.2.2.2.2.2.2.2.2.2.2.1,x0.2.2.2.2.2.2.2.2.2.2.2.1,()) else (if (aB x1.1==aB (aA #[104,101,108,112,101,114]))=true then (x0.1,x0.2.1,x0.2.2.1,x0.2.2.2.1,x0.2.2.2.2.1,x0.2.2.2.2.2.1,x0.2.2.2.2.2.2.1,x0.2.2.2.2.2.2.2.1,x0.2.2.2.2.2.2.2.2.1,x0.2.2.2.2.2.2.2.2.2.1,Aa x0.2.2.2.2.2.2.2.2.2.2.1 (rZ x1.2.1) 10,x0.2.2.2.2.2.2.2.2.2.2.2.1,()) else (if (aB x1.1==aB (aA #[116,97,115,107]))=true then (x0.1,x0.2.1,x0.2.2.1,x0.2.2.2.1,x0.2.2.2.2.1,x0.2.2.2.2.2.1,x0.2.2.2.2.2.2.1,x0.2.2.2.2.2.2.2.1,x0.2.2.2.2.2.2.2.2.1,x0.2.2.2.2.2.2.2.2.2.1,x0.2.2.2.2.2.2.2.2.2.2.1,Ac x0.2.2.2.2.2.2.2.2.2.2.2.1 (r9 x1.2.1) 8,()) else (if (aB x1.1==aB (aA #[104,111,117,114]))=true then (x0.1,x0.2.1,QV x0.2.2.1 (sA x1.2.1) 48,x0.2.2.2.1,x0.2.2.2.2.1,x0.2.2.2.2.2.1,x0.2.2.2.2.2.2.1,x0.2.2.2.2.2.2.2.1,x0.2.2.2.2.2.2.2.2.1,x0.2.2.2.2.2.2.2.2.2.1,x0.2.2.2.2.2.2.2.2.2.2.1,x0.2.2.2.2.2.2.2.2.2.2.2.1,()) else (if (aB x1.1==aB (aA #[116,101,115,116]))=true then (x0.1,x0.2.1,x0.2.2.1,x0.2.2.2.1,x0.2.2.2.2.1,x0.2.2.2.2.2.1,x0.2.2.2.2.2.2.1,x0.2.2.2.2.2.2.2.1,x0.2.2.2.2.2.2.2.2.1,V9 x0.2.2.2.2.2.2.2.2.2.1 (MX x1.2.1),x0.2.2.2.2.2.2.2.2.2.2.1,x0.2.2.2.2.2.2.2.2.2.2.2.1,()) else (if (aB x1.1==aB (aA #[114,111,112,101]))=true then (x0.1,(Vb x1.2.1),x0.2.2.1,x0.2.2.2.1,x0.2.2.2.2.1,x0.2.2.2.2.2.1,x0.2.2.2.2.2.2.1,x0.2.2.2.2.2.2.2.1,x0.2.2.2.2.2.2.2.2.1,x0.2.2.2.2.2.2.2.2.2.1,x0.2.2.2.2.2.2.2.2.2.2.1,x0.2.2.2.2.2.2.2.2.2.2.2.1,()) else (if (aB x1.1==aB (aA #[109,111,116,111,114]))=true then (x0.1,x0.2.1,x0.2.2.1,x0.2.2.2.1,(Ve x1.2.1),x0.2.2.2.2.2.1,x0.2.2.2.2.2.2.1,x0.2.2.2.2.2.2.2.1,x0.2.2.2.2.2.2.2.2.1,x0.2.2.2.2.2.2.2.2.2.1,x0.2.2.2.2.2.2.2.2.2.2.1,x0.2.2.2.2.2.2.2.2.2.2.2.1,()) else (x0.1,x0.2.1,x0.2.2.1,x0.2.2.2.1,x0.2.2.2.2.1,x0.2.2.2.2.2.1,x0.2.2.2.2.2.2.1,(Vg x1.2.1),x0.2.2.2.2.2.2.2.2.1,x0.2.2.2.2.2.2.2.2.2.1,x0.2.2.2.2.2.2.2.2.2.2.1,x0.2.2.2.2.2.2.2.2.2.2.2.1,()))))))))))
def S84:=wD d84 (λ⟨x0,x1,_⟩=>P84 x0 x1) (λ⟨x0,x1,_⟩=>[some ⟨.cons (.sl gT) YA1,[Z1 x0 x1]⟩]) λ⟨x0,x1,_⟩=>[⟨.bool,ZZ x0 x1⟩,⟨.int .i64,Z0 x0 x1⟩]
theorem bAT:c7 84 S84:=dF o84 λ⟨x0,x1,_⟩ h _ K q=>OE h (λh=>c1 h λh=>cS h λs1 h=>tP s1<|tP (VP [eP 0 8 0 vP,eT 1 Gk x1,eO 3 9 0 [],eB 4 false,eI 5 0,eB 6 (FZ x1.2.1),eI 7 (qM x0.1 (rW x1.2.1) 12),eO 8 10 0 [],eO 15 9 0 [0],eS 16 x1.1,eB 26 (aB x1.1==aB (aA #[98,101,110,100])),eB 27 (aB x1.1==aB (aA #[98,101,110,100])),(28,gO [pE gT (rW x1.2.1),N1 (FZ x1.2.1)]),eO 29 9 0 [1],eS 30 x1.2.1,(31,gO [pE gT (rW x1.2.1),N1 (FZ x1.2.1)]),eT 32 gT (rW x1.2.1),eB 33 (FZ x1.2.1),(34,gO [oF 11 none,O8 (qM x0.1 (rW x1.2.1) 12)]),eP 35 8 0 vP,eP 36 8 0 vP,eP 37 8 0 vP,eP 38 8 0 (.sl gT),eT 40 gT (rW x1.2.1),(41,gO [oF 11 none,O8 (qM x0.1 (rW x1.2.1) 12)]),eW 42 11,eI 43 (qM x0.1 (rW x1.2.1) 12),eP 44 8 0 vP,eP 45 8 0 (.sl gT)] [none,jB fL x0.2.2.1,jB fL x0.2.2.2.1,jB fP x0.2.2.2.2.2.2.1,jB gT x0.2.2.2.2.2.2.2.2.1,jB fL x0.2.2.2.2.2.2.2.2.2.1,jB fP x0.2.2.2.2.2.2.2.2.2.2.1,jB fP x0.2.2.2.2.2.2.2.2.2.2.2.1,hB_ vP [vI 11,lM x0.2.1.1,lM x0.2.1.2.1,lM x0.2.1.2.2.1,lM x0.2.1.2.2.2.1,vI 1,vI 2,lM x0.2.2.2.2.1.1,lM x0.2.2.2.2.1.2.1,lM x0.2.2.2.2.1.2.2.1,lM x0.2.2.2.2.2.1.1,lM x0.2.2.2.2.2.1.2.1,lM x0.2.2.2.2.2.1.2.2.1,vI 3,lM x0.2.2.2.2.2.2.2.1.1,lM x0.2.2.2.2.2.2.2.1.2.1,lM x0.2.2.2.2.2.2.2.1.2.2.1,lM x0.2.2.2.2.2.2.2.1.2.2.2.1,vI 4,vI 5,vI 6,vI 7],some (fY Gk [x1] true none (some false)),some (fY gT [rW x1.2.1] true none (some false)),jB gT (A4 x0.1 (rW x1.2.1) 12)])<|rt) λh=>OE h (λh=>c1 h λh=>cS h λs1 h=>tP s1<|tP (VP [eP 0 8 0 vP,eT 1 Gk x1,eO 3 9 0 [],eB 4 false,eI 5 0,eB 6 (F2 x1.2.1),eI 7 (qN x0.2.2.2.2.2.2.1 (rX x1.2.1) 12),eO 9 10 0 [],eO 15 9 0 [0],eS 16 x1.1,eB 26 (aB x1.1==aB (aA #[98,101,110,100])),eB 27 (aB x1.1==aB (aA #[98,101,110,100])),eB 46 (aB x1.1==aB (aA #[119,111,114,107,101,114])),eB 47 (aB x1.1==aB (aA #[119,111,114,107,101,114])),(48,gO [pE fP (rX x1.2.1),N1 (F2 x1.2.1)]),eO 49 9 0 [1],eS 50 x1.2.1,(51,gO [pE fP (rX x1.2.1),N1 (F2 x1.2.1)]),eT 52 fP (rX x1.2.1),eB 53 (F2 x1.2.1),(54,gO [oF 11 none,O8 (qN x0.2.2.2.2.2.2.1 (rX x1.2.1) 12)]),eP 55 8 0 vP,eP 56 8 0 vP,eP 57 8 0 vP,eP 58 8 13 (.sl fP),eT 60 fP (rX x1.2.1),(61,gO [oF 11 none,O8 (qN x0.2.2.2.2.2.2.1 (rX x1.2.1) 12)]),eW 62 11,eI 63 (qN x0.2.2.2.2.2.2.1 (rX x1.2.1) 12),eP 64 8 0 vP,eP 65 8 13 (.sl fP)] [jB gT x0.1,jB fL x0.2.2.1,jB fL x0.2.2.2.1,none,jB gT x0.2.2.2.2.2.2.2.2.1,jB fL x0.2.2.2.2.2.2.2.2.2.1,jB fP x0.2.2.2.2.2.2.2.2.2.2.1,jB fP x0.2.2.2.2.2.2.2.2.2.2.2.1,hB_ vP [vI 0,lM x0.2.1.1,lM x0.2.1.2.1,lM x0.2.1.2.2.1,lM x0.2.1.2.2.2.1,vI 1,vI 2,lM x0.2.2.2.2.1.1,lM x0.2.2.2.2.1.2.1,lM x0.2.2.2.2.1.2.2.1,lM x0.2.2.2.2.2.1.1,lM x0.2.2.2.2.2.1.2.1,lM x0.2.2.2.2.2.1.2.2.1,vI 11,lM x0.2.2.2.2.2.2.2.1.1,lM x0.2.2.2.2.2.2.2.1.2.1,lM x0.2.2.2.2.2.2.2.1.2.2.1,lM x0.2.2.2.2.2.2.2.1.2.2.2.1,vI 4,vI 5,vI 6,vI 7],some (fY Gk [x1] true none (some false)),some (fY fP [rX x1.2.1] true none (some false)),jB fP (A6 x0.2.2.2.2.2.2.1 (rX x1.2.1) 12)])<|rt) λh=>OE h (λh=>c1 h λh=>cS h λs1 h=>tP s1<|tP (VP [eP 0 8 0 vP,eT 1 Gk x1,eO 3 9 0 [],eB 4 false,eI 5 0,eB 6 (F3 x1.2.1),eI 7 (qO x0.2.2.2.2.2.2.2.2.1 (rY x1.2.1) 8),eO 10 10 0 [],eO 15 9 0 [0],eS 16 x1.1,eB 26 (aB x1.1==aB (aA #[98,101,110,100])),eB 27 (aB x1.1==aB (aA #[98,101,110,100])),eB 46 (aB x1.1==aB (aA #[119,111,114,107,101,114])),eB 47 (aB x1.1==aB (aA #[119,111,114,107,101,114])),eB 66 (aB x1.1==aB (aA #[102,97,114,101])),eB 67 (aB x1.1==aB (aA #[102,97,114,101])),(68,gO [pE gT (rY x1.2.1),N1 (F3 x1.2.1)]),eO 69 9 0 [1],eS 70 x1.2.1,(71,gO [pE gT (rY x1.2.1),N1 (F3 x1.2.1)]),eT 72 gT (rY x1.2.1),eB 73 (F3 x1.2.1),(74,gO [oF 11 none,O8 (qO x0.2.2.2.2.2.2.2.2.1 (rY x1.2.1) 8)]),eP 75 8 0 vP,eP 76 8 0 vP,eP 77 8 0 vP,eP 78 8 18 (.sl gT),eT 80 gT (rY x1.2.1),(81,gO [oF 11 none,O8 (qO x0.2.2.2.2.2.2.2.2.1 (rY x1.2.1) 8)]),eW 82 11,eI 83 (qO x0.2.2.2.2.2.2.2.2.1 (rY x1.2.1) 8),eP 84 8 0 vP,eP 85 8 18 (.sl gT)] [jB gT x0.1,jB fL x0.2.2.1,jB fL x0.2.2.2.1,jB fP x0.2.2.2.2.2.2.1,none,jB fL x0.2.2.2.2.2.2.2.2.2.1,jB fP x0.2.2.2.2.2.2.2.2.2.2.1,jB fP x0.2.2.2.2.2.2.2.2.2.2.2.1,hB_ vP [vI 0,lM x0.2.1.1,lM x0.2.1.2.1,lM x0.2.1.2.2.1,lM x0.2.1.2.2.2.1,vI 1,vI 2,lM x0.2.2.2.2.1.1,lM x0.2.2.2.2.1.2.1,lM x0.2.2.2.2.1.2.2.1,lM x0.2.2.2.2.2.1.1,lM x0.2.2.2.2.2.1.2.1,lM x0.2.2.2.2.2.1.2.2.1,vI 3,lM x0.2.2.2.2.2.2.2.1.1,lM x0.2.2.2.2.2.2.2.1.2.1,lM x0.2.2.2.2.2.2.2.1.2.2.1,lM x0.2.2.2.2.2.2.2.1.2.2.2.1,vI 11,vI 5,vI 6,vI 7],some (fY Gk [x1] true none (some false)),some (fY gT [rY x1.2.1] true none (some false)),jB gT (A8 x0.2.2.2.2.2.2.2.2.1 (rY x1.2.1) 8)])<|rt) λh=>OE h (λh=>c1 h λh=>cS h λs1 h=>tP s1<|tP (VP [eP 0 8 0 vP,eT 1 Gk x1,eO 3 9 0 [],eB 4 false,eI 5 0,eB 6 (F4 x1.2.1),eI 7 (qP x0.2.2.2.2.2.2.2.2.2.2.1 (rZ x1.2.1) 10),eO 11 10 0 [],eO 15 9 0 [0],eS 16 x1.1,eB 26 (aB x1.1==aB (aA #[98,101,110,100])),eB 27 (aB x1.1==aB (aA #[98,101,110,100])),eB 46 (aB x1.1==aB (aA #[119,111,114,107,101,114])),eB 47 (aB x1.1==aB (aA #[119,111,114,107,101,114])),eB 66 (aB x1.1==aB (aA #[102,97,114,101])),eB 67 (aB x1.1==aB (aA #[102,97,114,101])),eB 86 (aB x1.1==aB (aA #[104,101,108,112,101,114])),eB 87 (aB x1.1==aB (aA #[104,101,108,112,101,114])),(88,gO [pE fP (rZ x1.2.1),N1 (F4 x1.2.1)]),eO 89 9 0 [1],eS 90 x1.2.1,(91,gO [pE fP (rZ x1.2.1),N1 (F4 x1.2.1)]),eT 92 fP (rZ x1.2.1),eB 93 (F4 x1.2.1),(94,gO [oF 11 none,O8 (qP x0.2.2.2.2.2.2.2.2.2.2.1 (rZ x1.2.1) 10)]),eP 95 8 0 vP,eP 96 8 0 vP,eP 97 8 0 vP,eP 98 8 20 (.sl fP),eT 100 fP (rZ x1.2.1),(101,gO [oF 11 none,O8 (qP x0.2.2.2.2.2.2.2.2.2.2.1 (rZ x1.2.1) 10)]),eW 102 11,eI 103 (qP x0.2.2.2.2.2.2.2.2.2.2.1 (rZ x1.2.1) 10),eP 104 8 0 vP,eP 105 8 20 (.sl fP)] [jB gT x0.1,jB fL x0.2.2.1,jB fL x0.2.2.2.1,jB fP x0.2.2.2.2.2.2.1,jB gT x0.2.2.2.2.2.2.2.2.1,jB fL x0.2.2.2.2.2.2.2.2.2.1,none,jB fP x0.2.2.2.2.2.2.2.2.2.2.2.1,hB_ vP [vI 0,lM x0.2.1.1,lM x0.2.1.2.1,lM x0.2.1.2.2.1,lM x0.2.1.2.2.2.1,vI 1,vI 2,lM x0.2.2.2.2.1.1,lM x0.2.2.2.2.1.2.1,lM x0.2.2.2.2.1.2.2.1,lM x0.2.2.2.2.2.1.1,lM x0.2.2.2.2.2.1.2.1,lM x0.2.2.2.2.2.1.2.2.1,vI 3,lM x0.2.2.2.2.2.2.2.1.1,lM x0.2.2.2.2.2.2.2.1.2.1,lM x0.2.2.2.2.2.2.2.1.2.2.1,lM x0.2.2.2.2.2.2.2.1.2.2.2.1,vI 4,vI 5,vI 11,vI 7],some (fY Gk [x1] true none (some false)),some (fY fP [rZ x1.2.1] true none (some false)),jB fP (Aa x0.2.2.2.2.2.2.2.2.2.2.1 (rZ x1.2.1) 10)])<|rt) λh=>OE h (λh=>c1 h λh=>cS h λs1 h=>tP s1<|tP (VP [eP 0 8 0 vP,eT 1 Gk x1,eO 3 9 0 [],eB 4 false,eI 5 0,eB 6 (F5 x1.2.1),eI 7 (qQ x0.2.2.2.2.2.2.2.2.2.2.2.1 (r9 x1.2.1) 8),eO 12 10 0 [],eO 15 9 0 [0],eS 16 x1.1,eB 26 (aB x1.1==aB (aA #[98,101,110,100])),eB 27 (aB x1.1==aB (aA #[98,101,110,100])),eB 46 (aB x1.1==aB (aA #[119,111,114,107,101,114])),eB 47 (aB x1.1==aB (aA #[119,111,114,107,101,114])),eB 66 (aB x1.1==aB (aA #[102,97,114,101])),eB 67 (aB x1.1==aB (aA #[102,97,114,101])),eB 86 (aB x1.1==aB (aA #[104,101,108,112,101,114])),eB 87 (aB x1.1==aB (aA #[104,101,108,112,101,114])),eB 106 (aB x1.1==aB (aA #[116,97,115,107])),eB 107 (aB x1.1==aB (aA #[116,97,115,107])),(108,gO [pE fP (r9 x1.2.1),N1 (F5 x1.2.1)]),eO 109 9 0 [1],eS 110 x1.2.1,(111,gO [pE fP (r9 x1.2.1),N1 (F5 x1.2.1)]),eT 112 fP (r9 x1.2.1),eB 113 (F5 x1.2.1),(114,gO [oF 11 none,O8 (qQ x0.2.2.2.2.2.2.2.2.2.2.2.1 (r9 x1.2.1) 8)]),eP 115 8 0 vP,eP 116 8 0 vP,eP 117 8 0 vP,eP 118 8 21 (.sl fP),eT 120 fP (r9 x1.2.1),(121,gO [oF 11 none,O8 (qQ x0.2.2.2.2.2.2.2.2.2.2.2.1 (r9 x1.2.1) 8)]),eW 122 11,eI 123 (qQ x0.2.2.2.2.2.2.2.2.2.2.2.1 (r9 x1.2.1) 8),eP 124 8 0 vP,eP 125 8 21 (.sl fP)] [jB gT x0.1,jB fL x0.2.2.1,jB fL x0.2.2.2.1,jB fP x0.2.2.2.2.2.2.1,jB gT x0.2.2.2.2.2.2.2.2.1,jB fL x0.2.2.2.2.2.2.2.2.2.1,jB fP x0.2.2.2.2.2.2.2.2.2.2.1,none,hB_ vP [vI 0,lM x0.2.1.1,lM x0.2.1.2.1,lM x0.2.1.2.2.1,lM x0.2.1.2.2.2.1,vI 1,vI 2,lM x0.2.2.2.2.1.1,lM x0.2.2.2.2.1.2.1,lM x0.2.2.2.2.1.2.2.1,lM x0.2.2.2.2.2.1.1,lM x0.2.2.2.2.2.1.2.1,lM x0.2.2.2.2.2.1.2.2.1,vI 3,lM x0.2.2.2.2.2.2.2.1.1,lM x0.2.2.2.2.2.2.2.1.2.1,lM x0.2.2.2.2.2.2.2.1.2.2.1,lM x0.2.2.2.2.2.2.2.1.2.2.2.1,vI 4,vI 5,vI 6,vI 11],some (fY Gk [x1] true none (some false)),some (fY fP [r9 x1.2.1] true none (some false)),jB fP (Ac x0.2.2.2.2.2.2.2.2.2.2.2.1 (r9 x1.2.1) 8)])<|rt) λh=>OE h (λh=>c1 h λh=>cS h λs1 h=>tP s1<|tP (VP [eP 0 8 0 vP,eT 1 Gk x1,eO 3 9 0 [],eB 4 false,eI 5 0,eB 6 (F6 x1.2.1),eI 7 (F7 x0.2.2.1 (sA x1.2.1) 48),eO 13 10 0 [],eO 15 9 0 [0],eS 16 x1.1,eB 26 (aB x1.1==aB (aA #[98,101,110,100])),eB 27 (aB x1.1==aB (aA #[98,101,110,100])),eB 46 (aB x1.1==aB (aA #[119,111,114,107,101,114])),eB 47 (aB x1.1==aB (aA #[119,111,114,107,101,114])),eB 66 (aB x1.1==aB (aA #[102,97,114,101])),eB 67 (aB x1.1==aB (aA #[102,97,114,101])),eB 86 (aB x1.1==aB (aA #[104,101,108,112,101,114])),eB 87 (aB x1.1==aB (aA #[104,101,108,112,101,114])),eB 106 (aB x1.1==aB (aA #[116,97,115,107])),eB 107 (aB x1.1==aB (aA #[116,97,115,107])),eB 126 (aB x1.1==aB (aA #[104,111,117,114])),eB 127 (aB x1.1==aB (aA #[104,111,117,114])),(128,gO [pE fL (sA x1.2.1),N1 (F6 x1.2.1)]),eO 129 9 0 [1],eS 130 x1.2.1,(131,gO [pE fL (sA x1.2.1),N1 (F6 x1.2.1)]),eT 132 fL (sA x1.2.1),eB 133 (F6 x1.2.1),(134,gO [oF 11 none,O8 (F7 x0.2.2.1 (sA x1.2.1) 48)]),eP 135 8 0 vP,eP 136 8 0 vP,eP 137 8 0 vP,eP 138 8 5 (.sl fL),eT 140 fL (sA x1.2.1),(141,gO [oF 11 none,O8 (F7 x0.2.2.1 (sA x1.2.1) 48)]),eW 142 11,eI 143 (F7 x0.2.2.1 (sA x1.2.1) 48),eP 144 8 0 vP,eP 145 8 5 (.sl fL)] [jB gT x0.1,none,jB fL x0.2.2.2.1,jB fP x0.2.2.2.2.2.2.1,jB gT x0.2.2.2.2.2.2.2.2.1,jB fL x0.2.2.2.2.2.2.2.2.2.1,jB fP x0.2.2.2.2.2.2.2.2.2.2.1,jB fP x0.2.2.2.2.2.2.2.2.2.2.2.1,hB_ vP [vI 0,lM x0.2.1.1,lM x0.2.1.2.1,lM x0.2.1.2.2.1,lM x0.2.1.2.2.2.1,vI 11,vI 2,lM x0.2.2.2.2.1.1,lM x0.2.2.2.2.1.2.1,lM x0.2.2.2.2.1.2.2.1,lM x0.2.2.2.2.2.1.1,lM x0.2.2.2.2.2.1.2.1,lM x0.2.2.2.2.2.1.2.2.1,vI 3,lM x0.2.2.2.2.2.2.2.1.1,lM x0.2.2.2.2.2.2.2.1.2.1,lM x0.2.2.2.2.2.2.2.1.2.2.1,lM x0.2.2.2.2.2.2.2.1.2.2.2.1,vI 4,vI 5,vI 6,vI 7],some (fY Gk [x1] true none (some false)),some (fY fL [sA x1.2.1] true none (some false)),jB fL (QV x0.2.2.1 (sA x1.2.1) 48)])<|rt) λh=>OE h (λh=>c1 h λh=>c1 h λh=>rt) λh=>OE h (λh=>c1 h λh=>rt) λh=>OE h (λh=>c1 h λh=>rt) λh=>c1 h λh=>rt
def bAU:dB:=⟨223,Tryz.f223,[.v (.int .i64)],[.bool],[],[(108,p8)],false,[]⟩
theorem bJv:FO bAU:=mo Tryz.func223 ⟨iA,trivial⟩
def bJw (x0:Int):Prop:=True
def Vn (x0:Int):Bool:=cD x0 1 4
def bAV:=dR bAU (λ⟨x0,_⟩=>bJw x0) λ⟨x0,_⟩=>[⟨.bool,Vn x0⟩]
theorem aT1:c7 223 bAV:=dF bJv λ⟨x0,_⟩ h _ K q=>tv<|rt
def bAW:dB:=⟨291,Tryz.f291,[.v fL],[.cons (.int .i64) JY],[],[(115,aRz)],false,[]⟩
theorem bJx:FO bAW:=mo Tryz.func291 ⟨aIV,trivial⟩
def aT2 (x0:Int×Int×Int×Unit):Prop:=(if (!FT x0)=true then True else ((cC .i64 (x0.2.1+1))/\True))
def Vo (x0:Int×Int×Int×Unit):Int×Int×Int×Unit:=(if (!FT x0)=true then x0 else (if (decide (x0.2.1+1<3))=true then (x0.1,x0.2.1+1,x0.2.2) else (if (x0.1==3)=true then (0,0,0,()) else (if (x0.2.2.1==0)=true then (2,0,0,()) else (3,0,x0.2.2.1,())))))
def bAX:=dR bAW (λ⟨x0,_⟩=>aT2 x0) λ⟨x0,_⟩=>[⟨.cons (.int .i64) JY,Vo x0⟩]
theorem aT3:c7 291 bAX:=dF bJx λ⟨x0,_⟩ h _ K q=>tv<|N0 h (λh=>rt) λh=>c1 h λh=>e1 (rt) (e1 (rt) (e1 (rt) (rt)))
def bAY:dB:=⟨224,Tryz.f224,[.v fL,.v (.int .i64)],[.cons (.int .i64) JY,.bool],[],[(291,bAX)],false,[]⟩
theorem bJy:FO bAY:=mo Tryz.func224 ⟨aT3,trivial⟩
def aT4 (x0:Int×Int×Int×Unit) (x1:Int):Prop:=(if (x1==4)=true then ((aT2 x0)/\True) else (if (x1==1)=true then True else (if (x1==2)=true then (if (x0.1==2)=true then True else (if (x1==3)=true then (if (x0.1==3)=true then (if (decide (x0.2.2.1<3))=true then ((cC .i64 (x0.2.2.1+1))/\True) else True) else True) else True)) else (if (x1==3)=true then (if (x0.1==3)=true then (if (decide (x0.2.2.1<3))=true then ((cC .i64 (x0.2.2.1+1))/\True) else True) else True) else True))))
def Vp (x0:Int×Int×Int×Unit) (x1:Int):Int×Int×Int×Unit:=(if (x1==4)=true then Vo x0 else (if (x1==1)=true then (if (x0.1==0)=true then (1,0,0,()) else (if (x0.1==3)=true then (1,0,0,()) else (if (x1==2)=true then (if (x0.1==2)=true then (3,0,0,()) else (if (x1==3)=true then x0 else x0)) else (if (x1==3)=true then x0 else x0)))) else (if (x1==2)=true then (if (x0.1==2)=true then (3,0,0,()) else (if (x1==3)=true then (if (x0.1==3)=true then (if (decide (x0.2.2.1<3))=true then (1,0,x0.2.2.1+1,()) else x0) else x0) else x0)) else (if (x1==3)=true then (if (x0.1==3)=true then (if (decide (x0.2.2.1<3))=true then (1,0,x0.2.2.1+1,()) else x0) else x0) else x0))))
def aCK (x0:Int×Int×Int×Unit) (x1:Int):Bool:=(if (x1==4)=true then true else (if (x1==1)=true then (if (x0.1==0)=true then true else (if (x0.1==3)=true then true else (if (x1==2)=true then (if (x0.1==2)=true then true else (if (x1==3)=true then false else false)) else (if (x1==3)=true then false else false)))) else (if (x1==2)=true then (if (x0.1==2)=true then true else (if (x1==3)=true then (if (x0.1==3)=true then (if (decide (x0.2.2.1<3))=true then true else false) else false) else false)) else (if (x1==3)=true then (if (x0.1==3)=true then (if (decide (x0.2.2.1<3))=true then true else false) else false) else false))))
def bAZ:=dR bAY (λ⟨x0,x1,_⟩=>aT4 x0 x1) λ⟨x0,x1,_⟩=>[⟨.cons (.int .i64) JY,Vp x0 x1⟩,⟨.bool,aCK x0 x1⟩]
theorem aT5:c7 224 bAZ:=dF bJy λ⟨x0,x1,_⟩ h _ K q=>o3 h (λh=>c1 h λh=>rt) λh=>o3 h (λh=>e2 (tT<|rt) (e2k (λb3=>rt) λb3=>e2 (e2 (rt) (e2 (kF b3<|tF<|rt) (tF<|tF<|rt))) (tF<|e2 (kF b3<|tF<|rt) (tF<|tF<|rt)))) λh=>tF<|o3 h (λh=>o3 h (λh=>rt) λh=>o3 h (λh=>o3 h (λh=>o3 h (λh=>c1 h λh=>rt) λh=>rt) λh=>tF<|rt) λh=>tF<|tF<|rt) λh=>tF<|o3 h (λh=>o3 h (λh=>o3 h (λh=>c1 h λh=>rt) λh=>rt) λh=>tF<|rt) λh=>tF<|tF<|rt
def bBa:dB:=⟨152,Tryz.f152,[.v fL,.v (.int .i64)],[.cons (.int .i64) JY,.int .i64],[],[(62,S62),(223,bAV),(224,bAZ)],false,[]⟩
theorem bJz:FO bBa:=mo Tryz.func152 ⟨aIW,aT1,aT5,trivial⟩
def aNR (x0:Int×Int×Int×Unit) (x1:Int):Prop:=(if (!kW x0)=true then True else (if (!Vn x1)=true then True else ((aT4 x0 x1)/\True)))
def MZ (x0:Int×Int×Int×Unit) (x1:Int):Int×Int×Int×Unit:=(if (!kW x0)=true then (0,0,0,()) else (if (!Vn x1)=true then (0,0,0,()) else (if (!aCK x0 x1)=true then (0,0,0,()) else Vp x0 x1)))
def Fm (x0:Int×Int×Int×Unit) (x1:Int):Int:=(if (!kW x0)=true then 1 else (if (!Vn x1)=true then 2 else (if (!aCK x0 x1)=true then 6 else 0)))
def bBb:=dR bBa (λ⟨x0,x1,_⟩=>aNR x0 x1) λ⟨x0,x1,_⟩=>[⟨.cons (.int .i64) JY,MZ x0 x1⟩,⟨.int .i64,Fm x0 x1⟩]
theorem aT6:c7 152 bBb:=dF bJz λ⟨x0,x1,_⟩ h _ K q=>tv<|o3 h (λh=>rt) λh=>tv<|o3 h (λh=>rt) λh=>c1 h λh=>e2 (rt) (rt)
def bBc:dB:=⟨225,Tryz.f225,[.v (.int .i64)],[.str],[],[(108,p8)],false,[]⟩
theorem bJ0:FO bBc:=mo Tryz.func225 ⟨iA,trivial⟩
def aNS (x0:Int):Prop:=(if (!cD x0 0 3)=true then True else ((0<=x0)/\(x0<4)/\True))
def qR (x0:Int):ByteArray:=(if (!cD x0 0 3)=true then aA #[] else aD [aA #[115,104,117,116],aA #[111,112,101,110,105,110,103],aA #[111,112,101,110],aA #[115,104,117,116,116,105,110,103]] (aE x0) aC)
def bBd:=dR bBc (λ⟨x0,_⟩=>aNS x0) λ⟨x0,_⟩=>[⟨.str,qR x0⟩]
theorem aT7:c7 225 bBd:=dF bJ0 λ⟨x0,_⟩ h _ K q=>tv<|N0 h (λh=>rt) λh=>c2 h λh=>rt
def bBe:dB:=⟨153,Tryz.f153,[.v fL],[.str],[],[(62,S62),(225,bBd),(126,VZ)],false,[]⟩
theorem bJ1:FO bBe:=mo Tryz.func153 ⟨aIW,aT7,DX,trivial⟩
def aNT (x0:Int×Int×Int×Unit):Prop:=(if (!kW x0)=true then True else ((aNS x0.1)/\((aH (qR x0.1)+1<=9223372036854775807)/\((BG x0.2.1)/\((aH (qR x0.1++aA #[47])+aH (dU x0.2.1)<=9223372036854775807)/\((aH (qR x0.1++aA #[47]++dU x0.2.1)+1<=9223372036854775807)/\((BG x0.2.2.1)/\((aH (qR x0.1++aA #[47]++dU x0.2.1++aA #[47])+aH (dU x0.2.2.1)<=9223372036854775807)/\True))))))))
def M0 (x0:Int×Int×Int×Unit):ByteArray:=(if (!kW x0)=true then aA #[] else qR x0.1++aA #[47]++dU x0.2.1++aA #[47]++dU x0.2.2.1)
def bBf:=dR bBe (λ⟨x0,_⟩=>aNT x0) λ⟨x0,_⟩=>[⟨.str,M0 x0⟩]
theorem aT8:c7 153 bBf:=dF bJ1 λ⟨x0,_⟩ h _ K q=>tv<|N0 h (λh=>rt) λh=>c1 h λh=>c1 h λh=>c1 h λh=>c1 h λh=>c1 h λh=>c1 h λh=>c1 h λh=>rt
def bBg:dB:=⟨154,Tryz.f154,[.own fL,.v fL,.v (.int .i64)],[.sl fL,.int .i64],[],[(78,S78)],false,[]⟩
theorem bJ2:FO bBg:=mo Tryz.func154 ⟨aQb,trivial⟩
def aNU (x0:List cU) (x1:Int×Int×Int×Unit) (x2:Int):Prop:=(if (decide ((x0.length:Int)>=x2))=true then True else ((P78 x0)/\((aN (Yu x0)+1)*24<=140737488355328)/\True))
def Qc (x0:List cU) (x1:Int×Int×Int×Unit) (x2:Int):List cU:=(if (decide ((x0.length:Int)>=x2))=true then x0 else Yu x0++[x1])
def Fo (x0:List cU) (x1:Int×Int×Int×Unit) (x2:Int):Int:=(if (decide ((x0.length:Int)>=x2))=true then 5 else 0)
def bBh:=wD bBg (λ⟨x0,x1,x2,_⟩=>aNU x0 x1 x2) (λ⟨x0,x1,x2,_⟩=>[none]) λ⟨x0,x1,x2,_⟩=>[⟨.sl fL,Qc x0 x1 x2⟩,⟨.int .i64,Fo x0 x1 x2⟩]
theorem aT9:c7 154 bBh:=dF bJ2 λ⟨x0,x1,x2,_⟩ h _ K q=>o3 h (λh=>rt) λh=>cS h λs0 h=>cS h λs1 h=>tP s0<|tP s1<|tP (VP [eW 0 0,eT 1 fL x1,eI 2 x2,eO 4 1 0 [],eW 6 2,eI 7 0,eW 8 0,eI 9 (x0.length:Int),eI 10 x2,eB 11 (decide ((x0.length:Int)>=x2)),eW 13 0,eT 15 fL x1,eW 16 3,eW 17 2] [jB fL x0,some (fY fL [x1] true none (some false)),jB fL (Yu x0++[x1]),jB fL [x1]])<|rt
def d85:dB:=⟨85,Tryz.f85,[.po vP,.v Gk],[.sl .str,.int .i64],[],[(152,bBb),(153,bBf),(114,aRx),(154,bBh)],false,[]⟩
theorem o85:FO d85:=mo Tryz.func85 ⟨aT6,aT8,aIO,aT9,trivial⟩
def P85 (x0:fV) (x1:ByteArray×ByteArray×List Int×List Int×Unit):Prop:=(if (aB x1.1==aB (aA #[101,118,101,110,116]))=true then ((0<(x1.2.2.1.length:Int))/\((aNR x0.2.2.2.2.2.1 (aD x1.2.2.1 0 0))/\(if (Fm x0.2.2.2.2.2.1 (aD x1.2.2.1 0 0) != 0)=true then True else ((aNT (MZ x0.2.2.2.2.2.1 (aD x1.2.2.1 0 0)))/\True)))) else ((0<(x1.2.2.1.length:Int))/\((1<(x1.2.2.1.length:Int))/\((2<(x1.2.2.1.length:Int))/\(if (!rT (aD x1.2.2.1 0 0,aD x1.2.2.1 1 0,aD x1.2.2.1 2 0,()))=true then True else ((aNU x0.2.2.2.1 (aD x1.2.2.1 0 0,aD x1.2.2.1 1 0,aD x1.2.2.1 2 0,()) 8)/\True))))))
def Z2 (x0:fV) (x1:ByteArray×ByteArray×List Int×List Int×Unit):List ByteArray:=(if (aB x1.1==aB (aA #[101,118,101,110,116]))=true then (if (Fm x0.2.2.2.2.2.1 (aD x1.2.2.1 0 0) != 0)=true then [] else [M0 (MZ x0.2.2.2.2.2.1 (aD x1.2.2.1 0 0))]) else (if (!rT (aD x1.2.2.1 0 0,aD x1.2.2.1 1 0,aD x1.2.2.1 2 0,()))=true then [] else [aA #[111,107]]))
def Z3 (x0:fV) (x1:ByteArray×ByteArray×List Int×List Int×Unit):Int:=(if (aB x1.1==aB (aA #[101,118,101,110,116]))=true then (if (Fm x0.2.2.2.2.2.1 (aD x1.2.2.1 0 0) != 0)=true then Fm x0.2.2.2.2.2.1 (aD x1.2.2.1 0 0) else 0) else (if (!rT (aD x1.2.2.1 0 0,aD x1.2.2.1 1 0,aD x1.2.2.1 2 0,()))=true then 2 else Fo x0.2.2.2.1 (aD x1.2.2.1 0 0,aD x1.2.2.1 1 0,aD x1.2.2.1 2 0,()) 8))
def Z4 (x0:fV) (x1:ByteArray×ByteArray×List Int×List Int×Unit):fV:=(if (aB x1.1==aB (aA #[101,118,101,110,116]))=true then (if (Fm x0.2.2.2.2.2.1 (aD x1.2.2.1 0 0) != 0)=true then x0 else (x0.1,x0.2.1,x0.2.2.1,x0.2.2.2.1,x0.2.2.2.2.1,(MZ x0.2.2.2.2.2.1 (aD x1.2.2.1 0 0)),x0.2.2.2.2.2.2.1,x0.2.2.2.2.2.2.2.1,x0.2.2.2.2.2.2.2.2.1,x0.2.2.2.2.2.2.2.2.2.1,x0.2.2.2.2.2.2.2.2.2.2.1,x0.2.2.2.2.2.2.2.2.2.2.2.1,())) else (if (!rT (aD x1.2.2.1 0 0,aD x1.2.2.1 1 0,aD x1.2.2.1 2 0,()))=true then x0 else (x0.1,x0.2.1,x0.2.2.1,Qc x0.2.2.2.1 (aD x1.2.2.1 0 0,aD x1.2.2.1 1 0,aD x1.2.2.1 2 0,()) 8,x0.2.2.2.2.1,x0.2.2.2.2.2.1,x0.2.2.2.2.2.2.1,x0.2.2.2.2.2.2.2.1,x0.2.2.2.2.2.2.2.2.1,x0.2.2.2.2.2.2.2.2.2.1,x0.2.2.2.2.2.2.2.2.2.2.1,x0.2.2.2.2.2.2.2.2.2.2.2.1,())))
def S85:=wD d85 (λ⟨x0,x1,_⟩=>P85 x0 x1) (λ⟨x0,x1,_⟩=>[some ⟨.cons (.sl gT) YA1,[Z4 x0 x1]⟩]) λ⟨x0,x1,_⟩=>[⟨.sl .str,Z2 x0 x1⟩,⟨.int .i64,Z3 x0 x1⟩]
theorem bBi:c7 85 S85:=dF o85 λ⟨x0,x1,_⟩ h _ K q=>OE h (λh=>tP ((by decide):(0:Int)<=(0:Int))<|c1 h λh=>c1 h λh=>OE h (λh=>rt) λh=>c1 h λh=>rt) λh=>tP ((by decide):(0:Int)<=(0:Int))<|c1 h λh=>tP ((by decide):(0:Int)<=(1:Int))<|c1 h λh=>tP ((by decide):(0:Int)<=(2:Int))<|c1 h λh=>tv<|OE h (λh=>rt) λh=>cS h λs3 h=>tP s3<|tP (VP [eP 0 8 0 vP,eT 1 Gk x1,eO 3 9 0 [],(4,.a (.val (.slice none 0 0))),eI 5 0,eO 8 10 0 [],eI 9 (Fo x0.2.2.2.1 (aD x1.2.2.1 0 0,aD x1.2.2.1 1 0,aD x1.2.2.1 2 0,()) 8),eO 10 9 0 [0],eS 11 x1.1,eB 12 (aB x1.1==aB (aA #[101,118,101,110,116])),eO 35 9 0 [2],eL 36 (.int .i64) x1.2.2.1,(37,.a (.ptr (.int .i64) (aD x1.2.2.1 0 0))),eI 38 (aD x1.2.2.1 0 0),eO 39 9 0 [2],eL 40 (.int .i64) x1.2.2.1,(41,.a (.ptr (.int .i64) (aD x1.2.2.1 1 0))),eI 42 (aD x1.2.2.1 1 0),eO 43 9 0 [2],eL 44 (.int .i64) x1.2.2.1,(45,.a (.ptr (.int .i64) (aD x1.2.2.1 2 0))),eI 46 (aD x1.2.2.1 2 0),eT 47 fL (aD x1.2.2.1 0 0,aD x1.2.2.1 1 0,aD x1.2.2.1 2 0,()),eT 48 fL (aD x1.2.2.1 0 0,aD x1.2.2.1 1 0,aD x1.2.2.1 2 0,()),eB 49 (rT (aD x1.2.2.1 0 0,aD x1.2.2.1 1 0,aD x1.2.2.1 2 0,())),eB 50 (!rT (aD x1.2.2.1 0 0,aD x1.2.2.1 1 0,aD x1.2.2.1 2 0,())),(51,gO [oF 11 none,O8 (Fo x0.2.2.2.1 (aD x1.2.2.1 0 0,aD x1.2.2.1 1 0,aD x1.2.2.1 2 0,()) 8)]),eP 52 8 0 vP,eP 53 8 0 vP,eP 54 8 0 vP,eP 55 8 6 (.sl fL),eT 57 fL (aD x1.2.2.1 0 0,aD x1.2.2.1 1 0,aD x1.2.2.1 2 0,()),(58,gO [oF 11 none,O8 (Fo x0.2.2.2.1 (aD x1.2.2.1 0 0,aD x1.2.2.1 1 0,aD x1.2.2.1 2 0,()) 8)]),eW 59 11,eI 60 (Fo x0.2.2.2.1 (aD x1.2.2.1 0 0,aD x1.2.2.1 1 0,aD x1.2.2.1 2 0,()) 8),eP 61 8 0 vP,eP 62 8 6 (.sl fL)] [jB gT x0.1,jB fL x0.2.2.1,none,jB fP x0.2.2.2.2.2.2.1,jB gT x0.2.2.2.2.2.2.2.2.1,jB fL x0.2.2.2.2.2.2.2.2.2.1,jB fP x0.2.2.2.2.2.2.2.2.2.2.1,jB fP x0.2.2.2.2.2.2.2.2.2.2.2.1,hB_ vP [vI 0,lM x0.2.1.1,lM x0.2.1.2.1,lM x0.2.1.2.2.1,lM x0.2.1.2.2.2.1,vI 1,vI 11,lM x0.2.2.2.2.1.1,lM x0.2.2.2.2.1.2.1,lM x0.2.2.2.2.1.2.2.1,lM x0.2.2.2.2.2.1.1,lM x0.2.2.2.2.2.1.2.1,lM x0.2.2.2.2.2.1.2.2.1,vI 3,lM x0.2.2.2.2.2.2.2.1.1,lM x0.2.2.2.2.2.2.2.1.2.1,lM x0.2.2.2.2.2.2.2.1.2.2.1,lM x0.2.2.2.2.2.2.2.1.2.2.2.1,vI 4,vI 5,vI 6,vI 7],some (fY Gk [x1] true none (some false)),some (fY fL [(aD x1.2.2.1 0 0,aD x1.2.2.1 1 0,aD x1.2.2.1 2 0,())] true none (some false)),jB fL (Qc x0.2.2.2.1 (aD x1.2.2.1 0 0,aD x1.2.2.1 1 0,aD x1.2.2.1 2 0,()) 8)])<|rt
def bBj:dB:=⟨292,Tryz.f292,[.v (.int .i64)],[.bool],[],[(108,p8)],false,[]⟩
theorem bJ3:FO bBj:=mo Tryz.func292 ⟨iA,trivial⟩
def bJ4 (x0:Int):Prop:=True
def Vq (x0:Int):Bool:=cD x0 0 5000
def bBk:=dR bBj (λ⟨x0,_⟩=>bJ4 x0) λ⟨x0,_⟩=>[⟨.bool,Vq x0⟩]
theorem aTA:c7 292 bBk:=dF bJ3 λ⟨x0,_⟩ h _ K q=>tv<|rt
def bBl:dB:=⟨359,Tryz.f359,[.v (.int .i64)],[.int .i64],[],[],false,[]⟩
theorem bJ5:FO bBl:=mo Tryz.func359 trivial
def OI (x0:Int):Prop:=(if (decide (x0<0))=true then ((cC .i64 (0 - x0))/\True) else True)
def nN (x0:Int):Int:=(if (decide (x0<0))=true then 0 - x0 else x0)
def aTB:=dR bBl (λ⟨x0,_⟩=>OI x0) λ⟨x0,_⟩=>[⟨.int .i64,nN x0⟩]
theorem aKf:c7 359 aTB:=dF bJ5 λ⟨x0,_⟩ h _ K q=>N0 h (λh=>c1 h λh=>rt) λh=>rt
def bBm:dB:=⟨370,Tryz.f370,[.v (.int .i64),.v (.int .i64)],[.int .i64],[],[(359,aTB)],false,[]⟩
theorem bJ6:FO bBm:=mo Tryz.func370 ⟨aKf,trivial⟩
def M1 (x0:Int) (x1:Int):Prop:=((x1≠0)/\(cC .i64 (bM x0 x1))/\((x1≠0)/\(cC .i64 (c8 x0 x1))/\((OI (c8 x0 x1))/\((OI x1)/\((cC .i64 (nN x1 - nN (c8 x0 x1)))/\(if (decide (nN (c8 x0 x1)>=nN x1 - nN (c8 x0 x1)))=true then (if (!decide (x0<0)==decide (x1<0))=true then ((cC .i64 (bM x0 x1 - 1))/\True) else ((cC .i64 (bM x0 x1+1))/\True)) else True))))))
def pT (x0:Int) (x1:Int):Int:=(if (decide (nN (c8 x0 x1)>=nN x1 - nN (c8 x0 x1)))=true then (if (!decide (x0<0)==decide (x1<0))=true then bM x0 x1 - 1 else bM x0 x1+1) else bM x0 x1)
def aTC:=dR bBm (λ⟨x0,x1,_⟩=>M1 x0 x1) λ⟨x0,x1,_⟩=>[⟨.int .i64,pT x0 x1⟩]
theorem aCL:c7 370 aTC:=dF bJ6 λ⟨x0,x1,_⟩ h _ K q=>c2 h λh=>c2 h λh=>c1 h λh=>c1 h λh=>c1 h λh=>N0 h (λh=>N0 h (λh=>c1 h λh=>rt) λh=>c1 h λh=>rt) λh=>rt
def bBn:dB:=⟨355,Tryz.f355,[.v (.int .i64),.v (.int .i64),.v (.int .i64)],[.int .i64],[],[(370,aTC)],false,[]⟩
theorem bJ7:FO bBn:=mo Tryz.func355 ⟨aCL,trivial⟩
def bBo (x0:Int) (x1:Int) (x2:Int):Prop:=((cC .i64 (x2*x2))/\((M1 (x2*x2) x0)/\((cC .i64 (981*x1))/\((M1 (981*x1) 100)/\((cC .i64 (pT (x2*x2) x0 - pT (981*x1) 100))/\True)))))
def aKg (x0:Int) (x1:Int) (x2:Int):Int:=pT (x2*x2) x0 - pT (981*x1) 100
def bBp:=dR bBn (λ⟨x0,x1,x2,_⟩=>bBo x0 x1 x2) λ⟨x0,x1,x2,_⟩=>[⟨.int .i64,aKg x0 x1 x2⟩]
theorem aTD:c7 355 bBp:=dF bJ7 λ⟨x0,x1,x2,_⟩ h _ K q=>c1 h λh=>c1 h λh=>c1 h λh=>c1 h λh=>c1 h λh=>rt
def bBq:dB:=⟨354,Tryz.f354,[.v (.int .i64),.p (.cons .str (.cons (.int .i64) (.cons (.int .i64) (.cons (.int .i64) .unit)))),.p (.int .i64)],[.bool],[],[(355,bBp)],false,[]⟩
theorem bJ8:FO bBq:=mo Tryz.func354 ⟨aTD,trivial⟩
def aNV (x0:Int) (x1:ByteArray×Int×Int×Int×Unit) (x2:Int):Prop:=((bBo x1.2.1 x1.2.2.2.1 x0)/\True)
def D0 (x0:Int) (x1:ByteArray×Int×Int×Int×Unit) (x2:Int):Bool:=decide (aKg x1.2.1 x1.2.2.2.1 x0>x2)
def bBr:=dR bBq (λ⟨x0,x1,x2,_⟩=>aNV x0 x1 x2) λ⟨x0,x1,x2,_⟩=>[⟨.bool,D0 x0 x1 x2⟩]
theorem aTE:c7 354 bBr:=dF bJ8 λ⟨x0,x1,x2,_⟩ h _ K q=>c1 h λh=>rt
end
def bsI (C:Int->Bool):Nat->Int->Int->Int
 | 0,lo,_=>lo
 | n+1,lo,e=>if lo<e then (if C (bM (lo+e) 2)=true then bsI C n lo (bM (lo+e) 2) else bsI C n (bM (lo+e) 2+1) e) else lo
theorem Vr {lo e:Int} (h0:0<=lo) (h:lo<e):lo<=bM (lo+e) 2/\bM (lo+e) 2<e:=by
 rw [gF (by omega)];omega
noncomputable section
def KU:dB:=⟨353,Tryz.f353,[.v (.int .i64),.v (.int .i64),.fn 354 [(true,(.cons .str (.cons (.int .i64) (.cons (.int .i64) (.cons (.int .i64) .unit))))),(true,(.int .i64))]],[.int .i64],[],[(354,bBr)],false,[]⟩
theorem aKh:FO KU:=mo XP ⟨aTE,trivial⟩
def aCN (v7:Int) (x0:Int) (x2:ByteArray×Int×Int×Int×Unit) (x2c:Int):eD×bG:=([eI 0 x0,(2,nU 354 [pM gT x2,pM (.int .i64) x2c]),eI 7 v7],[])
mutual
def Qd:Nat->Int->Int->ByteArray×Int×Int×Int×Unit->Int->List aY->Prop
 | 0,_,_,_,_,_=>False
 | n+1,x0,x1,x2,x2c,ds=>((cC .i64 (x1+1))/\(qS n (x1+1) (x0) (x2) (x2c) ds))
def qS:Nat->Int->Int->ByteArray×Int×Int×Int×Unit->Int->List aY->Prop
 | 0,_,_,_,_,_=>False
 | n+1,v7,x0,x2,x2c,ds=>(if (decide (x0<v7))=true then ((cC .i64 (x0+v7))/\((cC .i64 (bM (x0+v7) 2))/\((aNV (bM (x0+v7) 2) x2 x2c)/\(if (D0 (bM (x0+v7) 2) x2 x2c)=true then (qS n (bM (x0+v7) 2) (x0) (x2) (x2c) ds) else ((cC .i64 (bM (x0+v7) 2+1))/\(qS n (v7) (bM (x0+v7) 2+1) (x2) (x2c) ds)))))) else (ds=[aP (.int .i64) x0]))
end
theorem aCO (ds:List aY) (K:jK) (q:Nat->Value):∀ n,(∀ {x0 x1 x2 x2c},Qd n x0 x1 x2 x2c ds->St KU (x0,x1,(x2,x2c,()),()) ds [] K q)/\(∀ {v7 x0 x2 x2c},qS n v7 x0 x2 x2c ds->Cu KU 2 (aCN v7 x0 x2 x2c) ds [] K q):=by
 intro n
 induction n with
 | zero=>exact ⟨λh=>h.elim,λh=>h.elim⟩
 | succ n ih =>
 obtain ⟨i,i2⟩:=ih;exact ⟨λh=>c1 h λh=>jp (i2 h),
  λ{v7} {x0} {x2} {x2c} h=>bR h (λh=>c1 h λh=>tP ((by decide):(2:Int)≠(0:Int))<|c1 h λh=>c1 h λh=>bR h (λh=>jp (i2 h)) λh=>c1 h λh=>jp (i2 h)) λh=>rh h⟩
def D3 (x0 x1:Int) (y0:ByteArray×Int×Int×Int×Unit) (y1:Int):Int:=bsI (λx=>D0 x y0 y1) (x1+1 - x0).toNat x0 (x1+1)
def Qe (x0 x1:Int) (y0:ByteArray×Int×Int×Int×Unit) (y1:Int):Prop:=(0<=x0/\x0<=x1+1/\x1<=1000000000)/\∀ v,0<=v->v<=x1->aNV v y0 y1
theorem aCP (y0:ByteArray×Int×Int×Int×Unit) (y1:Int) (e9:Int) (he:e9<=1000000000) (hp:∀ v,0<=v->v<=e9->aNV v y0 y1):∀ (k:Nat) (lo e:Int),0<=lo->lo<=e->e<=e9+1->e - lo<=(k:Int)->qS (k+1) e lo y0 y1 [⟨.int .i64,bsI (λx=>D0 x y0 y1) k lo e⟩]:=by
 intro k
 induction k with
 | zero =>
  intro lo e h0 h1 h2 h3;rw [qS,if_neg (by simp only [decide_eq_true_eq];omega)];rfl
 | succ k ih =>
  intro lo e h0 h1 h2 h3;unfold bsI;by_cases hlt:lo<e
  ·obtain ⟨m1,m2⟩:=Vr h0 hlt;rw [qS,if_pos (by simpa using hlt),if_pos hlt];refine ⟨by rw [aK];omega,by rw [aK];omega,hp _ (by omega) (by omega),?_⟩;split
   ·exact ih lo _ h0 m1 (by omega) (by omega)
   ·exact ⟨by rw [aK];omega,ih _ e (by omega) (by omega) h2 (by omega)⟩
  ·rw [qS,if_neg (by simpa using hlt),if_neg hlt]
theorem aCQ (x0 x1:Int) (y0:ByteArray×Int×Int×Int×Unit) (y1:Int) (h:Qe x0 x1 y0 y1):Qd ((x1+1 - x0).toNat+1+1) x0 x1 y0 y1 [⟨.int .i64,D3 x0 x1 y0 y1⟩]:=by
 obtain ⟨⟨h1,h2,h3⟩,hp⟩:=h;rw [Qd];exact ⟨by rw [aK];omega,aCP y0 y1 x1 h3 hp _ _ _ h1 h2 (by omega) (by omega)⟩
def Z5:=dR KU (λ⟨x0,x1,⟨y0,y1,_⟩,_⟩=>Qe x0 x1 y0 y1) λ⟨x0,x1,⟨y0,y1,_⟩,_⟩=>[⟨.int .i64,D3 x0 x1 y0 y1⟩]
theorem aCR:c7 353 Z5:=dF aKh (λ⟨x0,x1,⟨y0,y1,_⟩,_⟩ h hwf K q =>
 (aCO _ K q _).1 (aCQ x0 x1 y0 y1 h))
def bBs:dB:=⟨293,Tryz.f293,[.v gT,.v (.int .i64)],[.int .i64],[],[(353,Z5)],false,[]⟩
theorem bJ9:FO bBs:=mo Tryz.func293 ⟨aCR,trivial⟩
def aCS (x0:ByteArray×Int×Int×Int×Unit) (x1:Int):Prop:=((Qe 0 20000 x0 x1)/\((cC .i64 (D3 0 20000 x0 x1 - 1))/\True))
def D4 (x0:ByteArray×Int×Int×Int×Unit) (x1:Int):Int:=D3 0 20000 x0 x1 - 1
def bBt:=dR bBs (λ⟨x0,x1,_⟩=>aCS x0 x1) λ⟨x0,x1,_⟩=>[⟨.int .i64,D4 x0 x1⟩]
theorem aTF:c7 293 bBt:=dF bJ9 λ⟨x0,x1,_⟩ h _ K q=>c1 h λh=>c1 h λh=>rt
end
end Go.Proofs.YtmhpnodnljbnjaaGreatDoor
set_option maxRecDepth 100000
namespace Go.Proofs.YtmhpnodnljbnjaaGreatDoor
open Go Go.Am Go.Proofs
noncomputable section
def aNW:dB:=⟨226,Tryz.f226,[.v (.sl gT),.v (.int .i64)],[.int .i64,.int .i64,.int .i64],[],[(57,S57),(292,bBk),(293,bBt)],false,[]⟩
theorem bJA:FO aNW:=mo Tryz.func226 ⟨aPL,aTA,aTF,trivial⟩
def aTG (v7:Int) (v24:Int) (x0:List dG) (x1:Int):eD×bG:=([eL 0 gT x0,eI 1 x1,eI 7 v7,eL 22 gT x0,eI 23 (x0.length:Int),eI 24 v24],[])
mutual
def aG6:Nat->List dG->Int->List aY->Prop
 | 0,_,_,_=>False
 | n+1,x0,x1,ds=>(if (!sL x0)=true then (ds=[aP (.int .i64) 0,aP (.int .i64) 0,aP (.int .i64) 1]) else (if (!Vq x1)=true then (ds=[aP (.int .i64) 0,aP (.int .i64) 0,aP (.int .i64) 2]) else (if ((x0.length:Int)==0)=true then (ds=[aP (.int .i64) 0,aP (.int .i64) 0,aP (.int .i64) 3]) else (Ie n (0) (0) (x0) (x1) ds))))
def Ie:Nat->Int->Int->List dG->Int->List aY->Prop
 | 0,_,_,_,_,_=>False
 | n+1,v7,v24,x0,x1,ds=>(if (decide (v24<(x0.length:Int)))=true then ((0<=v24)/\(v24<(x0.length:Int))/\((aCS (aD x0 (aE v24) (aC,0,0,0,())) x1)/\((0<=v7)/\(v7<(x0.length:Int))/\((aCS (aD x0 (aE v7) (aC,0,0,0,())) x1)/\(if (decide (D4 (aD x0 (aE v24) (aC,0,0,0,())) x1<D4 (aD x0 (aE v7) (aC,0,0,0,())) x1))=true then ((cC .i64 (v24+1))/\(Ie n (v24) (v24+1) (x0) (x1) ds)) else ((cC .i64 (v24+1))/\(Ie n (v7) (v24+1) (x0) (x1) ds))))))) else ((0<=v7)/\(v7<(x0.length:Int))/\((aCS (aD x0 (aE v7) (aC,0,0,0,())) x1)/\(ds=[aP (.int .i64) v7,aP (.int .i64) (D4 (aD x0 (aE v7) (aC,0,0,0,())) x1),aP (.int .i64) 0]))))
end
theorem aTH (ds:List aY) (K:jK) (q:Nat->Value):∀ n,(∀ {x0 x1},aG6 n x0 x1 ds->St aNW (x0,x1,()) ds [] K q)/\(∀ {v7 v24 x0 x1},Ie n v7 v24 x0 x1 ds->Cu aNW 9 (aTG v7 v24 x0 x1) ds [] K q):=by
 intro n
 induction n with
 | zero=>exact ⟨λh=>h.elim,λh=>h.elim⟩
 | succ n ih =>
 obtain ⟨i,i9⟩:=ih;exact ⟨λh=>tv<|bR h (λh=>rh h) λh=>tv<|bR h (λh=>rh h) λh=>bR h (λh=>rh h) λh=>jp (i9 h),
  λh=>bR h (λh=>c2 h λh=>c1 h λh=>c2 h λh=>c1 h λh=>bR h (λh=>c1 h λh=>jp (i9 h)) λh=>c1 h λh=>jp (i9 h)) λh=>c2 h λh=>c1 h λh=>rh h⟩
abbrev KV:=ByteArray×Int×Int×Int×Unit
def Qf (x0:List KV) (x1:Int) (i:Int):Int:=D4 (x0.getD i.toNat (aC,0,0,0,())) x1
def y7 (x0:List KV) (x1:Int):Nat->Nat->Int->Int
 | 0,_,s=>s
 | k+1,i,s=>y7 x0 x1 k (i+1) (if decide (Qf x0 x1 (i:Int)<Qf x0 x1 s)=true then (i:Int) else s)
def Gm (x0:List KV) (x1:Int):Int:=if (!sL x0)=true then 1 else if (!Vq x1)=true then 2 else if ((x0.length:Int)==0)=true then 3 else 0
def aCT (x0:List KV) (x1:Int):Int:=if Gm x0 x1=0 then y7 x0 x1 x0.length 0 0 else 0
def M2 (x0:List KV) (x1:Int):Int:=if Gm x0 x1=0 then Qf x0 x1 (y7 x0 x1 x0.length 0 0) else 0
def Vs (x0:List KV) (x1:Int):Int:=Gm x0 x1
def aKi (x0:List KV) (x1:Int):Prop:=Gm x0 x1=0->∀ b∈x0,aCS b x1
theorem aTI (x0:List KV) (x1:Int) (hm:x0.length<=maxLen) (hp:∀ b∈x0,aCS b x1):∀ (k i:Nat) (s:Int),i+k=x0.length->0<=s->s<(x0.length:Int)->Ie (k+1) s (i:Int) x0 x1 [⟨.int .i64,y7 x0 x1 k i s⟩,⟨.int .i64,Qf x0 x1 (y7 x0 x1 k i s)⟩,⟨.int .i64,0⟩]:=by
 intro k
 induction k with
 | zero =>
  intro i s hi h1 h2;rw [Ie,if_neg (by simp only [decide_eq_true_eq];omega)];exact ⟨h1,h2,hp _ (dN x0 s.toNat _ (by omega)),rfl⟩
 | succ k ih =>
  intro i s hi h1 h2;have hlt:i<x0.length:=by omega
  have hu:=fC hm hlt;have e3:(i:Int)+1=((i+1:Nat):Int):=by omega
  rw [e3] at hu;rw [Ie,if_pos (by simp only [decide_eq_true_eq];omega),e3];refine ⟨by omega,by omega,hp _ (dN x0 _ _ (by omega)),h1,h2,hp _ (dN x0 _ _ (by omega)),?_⟩;unfold y7;by_cases c:decide (Qf x0 x1 (i:Int)<Qf x0 x1 s)=true
  ·rw [if_pos c];exact (if_pos c).mpr ⟨hu,ih (i+1) _ (by omega) (by omega) (by omega)⟩
  ·rw [if_neg c];exact (if_neg c).mpr ⟨hu,ih (i+1) _ (by omega) h1 h2⟩
theorem aTJ (x0:List KV) (x1:Int) (hm:x0.length<=maxLen) (h:aKi x0 x1):∃ n,aG6 n x0 x1 [⟨.int .i64,aCT x0 x1⟩,⟨.int .i64,M2 x0 x1⟩,⟨.int .i64,Vs x0 x1⟩]:=by
 unfold aKi at h;unfold aCT M2 Vs;unfold Gm at h ⊢;by_cases c1:(!sL x0)=true
 ·exact ⟨1,by rw [aG6,if_pos c1,if_pos c1,if_neg (by decide),if_neg (by decide)]⟩
 ·rw [if_neg c1] at h ⊢;by_cases c2:(!Vq x1)=true
  ·exact ⟨1,by rw [aG6,if_neg c1,if_pos c2,if_pos c2,if_neg (by decide),if_neg (by decide)]⟩
  ·rw [if_neg c2] at h ⊢;by_cases c3:((x0.length:Int)==0)=true
   ·exact ⟨1,by rw [aG6,if_neg c1,if_neg c2,if_pos c3,if_pos c3,if_neg (by decide),if_neg (by decide)]⟩
   ·rw [if_neg c3] at h ⊢;have hn:x0.length≠0:=λe=>c3 (by rw [e];rfl);refine ⟨x0.length+1+1,?_⟩;rw [aG6,if_neg c1,if_neg c2,if_neg c3,if_pos rfl,if_pos rfl];exact aTI x0 x1 hm (h rfl) x0.length 0 0 (by omega) (gA _) (by omega)
def bBu:=dR aNW (λ⟨x0,x1,_⟩=>aKi x0 x1) λ⟨x0,x1,_⟩=>[⟨.int .i64,aCT x0 x1⟩,⟨.int .i64,M2 x0 x1⟩,⟨.int .i64,Vs x0 x1⟩]
theorem aTK:c7 226 bBu:=dF bJA (λ⟨x0,x1,_⟩ h hwf K q =>
 let ⟨n,hn⟩:=aTJ x0 x1 hwf.1.1 h
 (aTH _ K q n).1 hn)
def bBv:dB:=⟨295,Tryz.f295,[.v (.int .i64)],[.bool],[],[(108,p8)],false,[]⟩
theorem bJB:FO bBv:=mo Tryz.func295 ⟨iA,trivial⟩
def bJC (x0:Int):Prop:=True
def M3 (x0:Int):Bool:=cD x0 1 10000000
def bBw:=dR bBv (λ⟨x0,_⟩=>bJC x0) λ⟨x0,_⟩=>[⟨.bool,M3 x0⟩]
theorem aTL:c7 295 bBw:=dF bJB λ⟨x0,_⟩ h _ K q=>tv<|rt
def bBx:dB:=⟨294,Tryz.f294,[.v X0,.v (.bool)],[.int .i64],[],[(58,S58)],false,[]⟩
theorem bJD:FO bBx:=mo Tryz.func294 ⟨aIG,trivial⟩
def bJE (x0:Int×Int×Int×Int×Unit) (x1:Bool):Prop:=True
def M4 (x0:Int×Int×Int×Int×Unit) (x1:Bool):Int:=(if (!BV x0)=true then 1 else (if (!x1)=true then 2 else 0))
def bBy:=dR bBx (λ⟨x0,x1,_⟩=>bJE x0 x1) λ⟨x0,x1,_⟩=>[⟨.int .i64,M4 x0 x1⟩]
theorem aTM:c7 294 bBy:=dF bJD λ⟨x0,x1,_⟩ h _ K q=>tv<|e1 (rt) (e1 (rt) (rt))
def bBz:dB:=⟨227,Tryz.f227,[.v X0,.v (.int .i64)],[.int .i64,.int .i64],[],[(295,bBw),(294,bBy)],false,[]⟩
theorem bJF:FO bBz:=mo Tryz.func227 ⟨aTL,aTM,trivial⟩
def aNX (x0:Int×Int×Int×Int×Unit) (x1:Int):Prop:=(if (M4 x0 (M3 x1) != 0)=true then True else ((cC .i64 (1000*x0.2.2.2.1))/\((x1≠0)/\(cC .i64 (bM (1000*x0.2.2.2.1) x1))/\True)))
def Vt (x0:Int×Int×Int×Int×Unit) (x1:Int):Int:=(if (M4 x0 (M3 x1) != 0)=true then 0 else bM (1000*x0.2.2.2.1) x1)
def aKj (x0:Int×Int×Int×Int×Unit) (x1:Int):Int:=(if (M4 x0 (M3 x1) != 0)=true then M4 x0 (M3 x1) else 0)
def bB0:=dR bBz (λ⟨x0,x1,_⟩=>aNX x0 x1) λ⟨x0,x1,_⟩=>[⟨.int .i64,Vt x0 x1⟩,⟨.int .i64,aKj x0 x1⟩]
theorem aTN:c7 227 bB0:=dF bJF λ⟨x0,x1,_⟩ h _ K q=>tv<|tv<|o3 h (λh=>rt) λh=>c1 h λh=>c2 h λh=>rt
def bB1:dB:=⟨297,Tryz.f297,[.v (.int .i64)],[.bool],[],[(108,p8)],false,[]⟩
theorem bJG:FO bB1:=mo Tryz.func297 ⟨iA,trivial⟩
def bJH (x0:Int):Prop:=True
def Vu (x0:Int):Bool:=cD x0 (-1000000) 1000000
def bB2:=dR bB1 (λ⟨x0,_⟩=>bJH x0) λ⟨x0,_⟩=>[⟨.bool,Vu x0⟩]
theorem aTO:c7 297 bB2:=dF bJG λ⟨x0,_⟩ h _ K q=>tv<|rt
def bB3:dB:=⟨296,Tryz.f296,[.v fL,.v (.bool)],[.int .i64],[],[(61,S61)],false,[]⟩
theorem bJI:FO bB3:=mo Tryz.func296 ⟨aIU,trivial⟩
def bJJ (x0:Int×Int×Int×Unit) (x1:Bool):Prop:=True
def Ad (x0:Int×Int×Int×Unit) (x1:Bool):Int:=(if (!vQ x0)=true then 1 else (if (!x1)=true then 2 else 0))
def bB4:=dR bB3 (λ⟨x0,x1,_⟩=>bJJ x0 x1) λ⟨x0,x1,_⟩=>[⟨.int .i64,Ad x0 x1⟩]
theorem aTP:c7 296 bB4:=dF bJI λ⟨x0,x1,_⟩ h _ K q=>tv<|e1 (rt) (e1 (rt) (rt))
def bB5:dB:=⟨356,Tryz.f356,[.v (.int .i64),.v (.int .i64)],[.int .i64],[],[],false,[]⟩
theorem bJK:FO bB5:=mo Tryz.func356 trivial
def bB6 (x0:Int) (x1:Int):Prop:=((cC .i64 (x0+x1))/\((cC .i64 (x0+x1 - 1))/\((x1≠0)/\(cC .i64 (bM (x0+x1 - 1) x1))/\True)))
def aCU (x0:Int) (x1:Int):Int:=bM (x0+x1 - 1) x1
def bB7:=dR bB5 (λ⟨x0,x1,_⟩=>bB6 x0 x1) λ⟨x0,x1,_⟩=>[⟨.int .i64,aCU x0 x1⟩]
theorem aTQ:c7 356 bB7:=dF bJK λ⟨x0,x1,_⟩ h _ K q=>c1 h λh=>c1 h λh=>c2 h λh=>rt
def bB8:dB:=⟨299,Tryz.f299,[.v fL,.v (.int .i64),.v (.int .i64)],[.int .i64],[],[(356,bB7)],false,[]⟩
theorem bJL:FO bB8:=mo Tryz.func299 ⟨aTQ,trivial⟩
def aG7 (x0:Int×Int×Int×Unit) (x1:Int) (x2:Int):Prop:=((cC .i64 (x1*x2))/\((cC .i64 (bM (x1*x2) 1000))/\(if (decide (bM (x1*x2) 1000>0))=true then ((cC .i64 (1000*bM (x1*x2) 1000))/\((cC .i64 (1000 - x0.2.2.1))/\((bB6 (1000*bM (x1*x2) 1000) (1000 - x0.2.2.1))/\True))) else ((cC .i64 (0 - bM (x1*x2) 1000))/\((cC .i64 (1000 - x0.2.2.1))/\((cC .i64 ((0 - bM (x1*x2) 1000)*(1000 - x0.2.2.1)))/\((cC .i64 (bM ((0 - bM (x1*x2) 1000)*(1000 - x0.2.2.1)) 1000))/\((cC .i64 (0 - bM ((0 - bM (x1*x2) 1000)*(1000 - x0.2.2.1)) 1000))/\True))))))))
def Qg (x0:Int×Int×Int×Unit) (x1:Int) (x2:Int):Int:=(if (decide (bM (x1*x2) 1000>0))=true then aCU (1000*bM (x1*x2) 1000) (1000 - x0.2.2.1) else 0 - bM ((0 - bM (x1*x2) 1000)*(1000 - x0.2.2.1)) 1000)
def aTR:=dR bB8 (λ⟨x0,x1,x2,_⟩=>aG7 x0 x1 x2) λ⟨x0,x1,x2,_⟩=>[⟨.int .i64,Qg x0 x1 x2⟩]
theorem aKk:c7 299 aTR:=dF bJL λ⟨x0,x1,x2,_⟩ h _ K q=>c1 h λh=>tP ((by decide):(1000:Int)≠(0:Int))<|c1 h λh=>N0 h (λh=>c1 h λh=>c1 h λh=>c1 h λh=>rt) λh=>c1 h λh=>c1 h λh=>c1 h λh=>tP ((by decide):(1000:Int)≠(0:Int))<|c1 h λh=>c1 h λh=>rt
def bB9:dB:=⟨298,Tryz.f298,[.v fL,.v (.int .i64),.v (.int .i64)],[.bool],[],[(299,aTR)],false,[]⟩
theorem bJM:FO bB9:=mo Tryz.func298 ⟨aKk,trivial⟩
def aNY (x0:Int×Int×Int×Unit) (x1:Int) (x2:Int):Prop:=(if (decide (x1<=x0.2.1))=true then ((aG7 x0 x1 x2)/\True) else True)
def If (x0:Int×Int×Int×Unit) (x1:Int) (x2:Int):Bool:=(if (decide (x1<=x0.2.1))=true then decide (Qg x0 x1 x2<=x0.1) else false)
def bBA:=dR bB9 (λ⟨x0,x1,x2,_⟩=>aNY x0 x1 x2) λ⟨x0,x1,x2,_⟩=>[⟨.bool,If x0 x1 x2⟩]
theorem aTS:c7 298 bBA:=dF bJM λ⟨x0,x1,x2,_⟩ h _ K q=>N0 h (λh=>c1 h λh=>rt) λh=>rt
def bBB:dB:=⟨228,Tryz.f228,[.v fL,.v (.int .i64),.v (.int .i64)],[.int .i64,.int .i64],[],[(297,bB2),(182,aRw),(296,bB4),(298,bBA),(299,aTR)],false,[]⟩
theorem bJN:FO bBB:=mo Tryz.func228 ⟨aTO,aIN,aTP,aTS,aKk,trivial⟩
def aNZ (x0:Int×Int×Int×Unit) (x1:Int) (x2:Int):Prop:=(if (Vu x1)=true then (if (Ad x0 (IZ x2) != 0)=true then True else ((aNY x0 x1 x2)/\(if (!If x0 x1 x2)=true then True else ((aG7 x0 x1 x2)/\True)))) else (if (Ad x0 false != 0)=true then True else ((aNY x0 x1 x2)/\(if (!If x0 x1 x2)=true then True else ((aG7 x0 x1 x2)/\True)))))
def Vv (x0:Int×Int×Int×Unit) (x1:Int) (x2:Int):Int:=(if (Vu x1)=true then (if (Ad x0 (IZ x2) != 0)=true then 0 else (if (!If x0 x1 x2)=true then 0 else Qg x0 x1 x2)) else (if (Ad x0 false != 0)=true then 0 else (if (!If x0 x1 x2)=true then 0 else Qg x0 x1 x2)))
def aKl (x0:Int×Int×Int×Unit) (x1:Int) (x2:Int):Int:=(if (Vu x1)=true then (if (Ad x0 (IZ x2) != 0)=true then Ad x0 (IZ x2) else (if (!If x0 x1 x2)=true then 6 else 0)) else (if (Ad x0 false != 0)=true then Ad x0 false else (if (!If x0 x1 x2)=true then 6 else 0)))
def bBC:=dR bBB (λ⟨x0,x1,x2,_⟩=>aNZ x0 x1 x2) λ⟨x0,x1,x2,_⟩=>[⟨.int .i64,Vv x0 x1 x2⟩,⟨.int .i64,aKl x0 x1 x2⟩]
theorem aTT:c7 228 bBC:=dF bJN λ⟨x0,x1,x2,_⟩ h _ K q=>tv<|o3 h (λh=>tv<|tv<|o3 h (λh=>rt) λh=>c1 h λh=>o3 h (λh=>rt) λh=>c1 h λh=>rt) λh=>tv<|o3 h (λh=>rt) λh=>c1 h λh=>o3 h (λh=>rt) λh=>c1 h λh=>rt
def bBD:dB:=⟨358,Tryz.f358,[.v (.int .i64)],[.bool],[],[(108,p8)],false,[]⟩
theorem bJO:FO bBD:=mo Tryz.func358 ⟨iA,trivial⟩
def bJP (x0:Int):Prop:=True
def aCV (x0:Int):Bool:=cD x0 (-1000000000) 1000000000
def bBE:=dR bBD (λ⟨x0,_⟩=>bJP x0) λ⟨x0,_⟩=>[⟨.bool,aCV x0⟩]
theorem aTU:c7 358 bBE:=dF bJO λ⟨x0,_⟩ h _ K q=>tv<|rt
def bBF:dB:=⟨357,Tryz.f357,[.v (.int .i64)],[.bool],[],[(358,bBE)],false,[]⟩
theorem bJQ:FO bBF:=mo Tryz.func357 ⟨aTU,trivial⟩
def bJR (x0:Int):Prop:=True
def Fp (x0:Int):Bool := !aCV x0
def aTV:=dR bBF (λ⟨x0,_⟩=>bJR x0) λ⟨x0,_⟩=>[⟨.bool,Fp x0⟩]
theorem aKm:c7 357 aTV:=dF bJQ λ⟨x0,_⟩ h _ K q=>tv<|rt
def KW:dB:=⟨273,Tryz.f273,[.v (.sl (.int .i64)),.fn 357 []],[.int .i64],[],[(357,aTV)],false,[]⟩
theorem aKn:FO KW:=mo EG ⟨aKm,trivial⟩
def aCW (v8:Int) (x0:List Int):eD×bG:=([eL 0 (.int .i64) x0,(1,nU 357 []),eI 7 (x0.length:Int),eI 8 v8],[])
mutual
def Qh:Nat->List Int->List aY->Prop
 | 0,_,_=>False
 | n+1,x0,ds=>(tI n (0) (x0) ds)
def tI:Nat->Int->List Int->List aY->Prop
 | 0,_,_,_=>False
 | n+1,v8,x0,ds=>(if (decide (v8<(x0.length:Int)))=true then ((0<=v8)/\(v8<(x0.length:Int))/\(if (Fp (aD x0 (aE v8) 0))=true then (ds=[aP (.int .i64) v8]) else ((cC .i64 (v8+1))/\(tI n (v8+1) (x0) ds)))) else (ds=[aP (.int .i64) (-1)]))
end
theorem aCX (ds:List aY) (K:jK) (q:Nat->Value):∀ n,(∀ {x0},Qh n x0 ds->St KW (x0,(),()) ds [] K q)/\(∀ {v8 x0},tI n v8 x0 ds->Cu KW 2 (aCW v8 x0) ds [] K q):=by
 intro n
 induction n with
 | zero=>exact ⟨λh=>h.elim,λh=>h.elim⟩
 | succ n ih =>
 obtain ⟨i,i2⟩:=ih;exact ⟨λh=>jp (i2 h),
  λh=>bR h (λh=>c2 h λh=>tv<|bR h (λh=>rh h) λh=>c1 h λh=>jp (i2 h)) λh=>rh h⟩
def wO (x0:List (Int)):Int:=XZ (x0.findIdx? Fp)
def aKo (x0:List (Int)):Prop:=True
theorem aCY (x0:List (Int)) (hm:x0.length<=maxLen):Qh (x0.length+1+1) x0 [⟨.int .i64,wO x0⟩]:=by
 rw [Qh];have key:=kJ x0 (0:Int) Fp [(⟨.int .i64, -1⟩:aY)] (λk=>[⟨.int .i64,k⟩]) (λn i ds=>tI n i x0 ds) (λn => ?_) (λn i hi hok ds hr => ?_) (λn i hi hok => ?_)
 ·unfold wO;cases h:x0.findIdx? Fp <;> rw [h] at key <;> exact key
 ·rw [tI,if_neg (by simp)]
 ·rw [tI,if_pos (by simp;omega)];simp only [aF];refine ⟨by omega,by omega,?_⟩;rw [if_neg (by rw [hok];simp)];exact ⟨fC hm hi,hr⟩
 ·rw [tI,if_pos (by simp;omega)];simp only [aF];refine ⟨by omega,by omega,?_⟩;rw [if_pos hok] <;> trivial
def Z6:=dR KW (λ⟨x0,_⟩=>aKo x0) λ⟨x0,_⟩=>[⟨.int .i64,wO x0⟩]
theorem aCZ:c7 273 Z6:=dF aKn (λ⟨x0,_⟩ h hwf K q =>
 (aCX _ K q _).1 (aCY x0 hwf.1.1))
theorem aDa (x0:List (Int)):decide (wO x0>=0)=x0.any Fp:=by
 have:=qG Fp x0;unfold wO;cases h:x0.any Fp with
 | true=>rw [h] at this;simpa using this
 | false=>rw [h] at this;simpa using this
def Z7:dB:=⟨192,Tryz.f192,[.v (.sl (.int .i64)),.fn 357 []],[.bool],[],[(273,Z6),(357,aTV)],false,[]⟩
theorem aKp:FO Z7:=mo EH ⟨aCZ,aKm,trivial⟩
def aKq (x0:List Int):Prop:=True
def Ig (x0:List Int):Bool:=decide (wO x0>=0)
def Z8:=dR Z7 (λ⟨x0,_⟩=>aKq x0) λ⟨x0,_⟩=>[⟨.bool,Ig x0⟩]
theorem aDb:c7 192 Z8:=dF aKp λ⟨x0,_⟩ h _ K q=>tv<|rt
def bBG:dB:=⟨300,Tryz.f300,[.v (.sl (.int .i64)),.v (.int .i64)],[.bool],[],[(192,Z8)],false,[]⟩
theorem bJS:FO bBG:=mo Tryz.func300 ⟨aDb,trivial⟩
def bJT (x0:List Int) (x1:Int):Prop:=True
def Ih (x0:List Int) (x1:Int):Bool:=(if (decide ((x0.length:Int)>=x1))=true then (if (decide ((x0.length:Int)<=32))=true then !Ig x0 else false) else false)
def bBH:=dR bBG (λ⟨x0,x1,_⟩=>bJT x0 x1) λ⟨x0,x1,_⟩=>[⟨.bool,Ih x0 x1⟩]
theorem aTW:c7 300 bBH:=dF bJS λ⟨x0,x1,_⟩ h _ K q=>e1 (e1 (tv<|rt) (rt)) (tF<|rt)
def aKr:dB:=⟨301,Tryz.f301,[.v (.sl (.int .i64)),.v (.int .i64)],[.sl (.int .i64)],[],[(359,aTB)],false,[]⟩
theorem bJU:FO aKr:=mo Tryz.func301 ⟨aKf,trivial⟩
def aTX (v13:Int) (h0:List Int) (x0:List Int) (x1:Int):eD×bG:=([eL 0 (.int .i64) x0,eI 1 x1,eW 5 0,eL 11 (.int .i64) x0,eI 12 (x0.length:Int),eI 13 v13],[jB (.int .i64) h0])
def aTY (v8:Int) (v19:Int) (x0:List Int) (x1:Int) (v13:Int) (h0:List Int):eD×bG:=([eL 0 (.int .i64) x0,eI 1 x1,eW 5 0,eI 7 (aD x0 (aE v13) 0),eI 8 v8,eL 11 (.int .i64) x0,eI 12 (x0.length:Int),eI 13 v13,eL 17 (.int .i64) x0,eI 18 (x0.length:Int),eI 19 v19],[jB (.int .i64) h0])
mutual
def aTZ:Nat->List Int->Int->List aY->Prop
 | 0,_,_,_=>False
 | n+1,x0,x1,ds=>(Ii n (0) ([]) (x0) (x1) ds)
def Ii:Nat->Int->List Int->List Int->Int->List aY->Prop
 | 0,_,_,_,_,_=>False
 | n+1,v13,h0,x0,x1,ds=>(if (decide (v13<(x0.length:Int)))=true then ((0<=v13)/\(v13<(x0.length:Int))/\(Fq n (0) (0) (x0) (x1) (v13) (h0) ds)) else (ds=[aP (.sl (.int .i64)) h0]))
def Fq:Nat->Int->Int->List Int->Int->Int->List Int->List aY->Prop
 | 0,_,_,_,_,_,_,_=>False
 | n+1,v8,v19,x0,x1,v13,h0,ds=>(if (decide (v19<(x0.length:Int)))=true then ((0<=v19)/\(v19<(x0.length:Int))/\((cC .i64 (aD x0 (aE v13) 0 - aD x0 (aE v19) 0))/\((OI (aD x0 (aE v13) 0 - aD x0 (aE v19) 0))/\(if (decide (nN (aD x0 (aE v13) 0 - aD x0 (aE v19) 0)<=x1))=true then ((cC .i64 (v8+1))/\((cC .i64 (v19+1))/\(Fq n (v8+1) (v19+1) (x0) (x1) (v13) (h0) ds))) else ((cC .i64 (v19+1))/\(Fq n (v8) (v19+1) (x0) (x1) (v13) (h0) ds)))))) else (((aN h0+1)*8<=140737488355328)/\((cC .i64 (v13+1))/\(Ii n (v13+1) (h0++[v8]) (x0) (x1) ds))))
end
theorem aUa (ds:List aY) (K:jK) (q:Nat->Value):∀ n,(∀ {x0 x1},aTZ n x0 x1 ds->St aKr (x0,x1,()) ds [] K q)/\(∀ {v13 h0 x0 x1},Ii n v13 h0 x0 x1 ds->Cu aKr 3 (aTX v13 h0 x0 x1) ds [] K q)/\(∀ {v8 v19 x0 x1 v13 h0},Fq n v8 v19 x0 x1 v13 h0 ds->Cu aKr 7 (aTY v8 v19 x0 x1 v13 h0) ds [] K q):=by
 intro n
 induction n with
 | zero=>exact ⟨λh=>h.elim,λh=>h.elim,λh=>h.elim⟩
 | succ n ih =>
 obtain ⟨i,i3,i7⟩:=ih;exact ⟨λh=>jn [(5,.int .i64)] (i3 h),
  λh=>bR h (λh=>c2 h λh=>jp (i7 h)) λh=>rh h,
  λh=>bR h (λh=>c2 h λh=>c1 h λh=>c1 h λh=>bR h (λh=>c1 h λh=>c1 h λh=>jp (i7 h)) λh=>c1 h λh=>jp (i7 h)) λh=>c1 h λh=>c1 h λh=>jn [(5,.int .i64)] (i3 h)⟩
def Fs (a x1:Int) (l:List Int):Nat:=(l.filter λb=>decide (nN (a - b)<=x1)).length
def jW (x0:List Int) (x1:Int):List Int:=x0.map λa=>(Fs a x1 x0:Int)
def aKs (x0:List Int) (x1:Int):Prop:=x0.length<=1000000/\∀ x∈x0, -1000000000<=x/\x<=1000000000
theorem aUb {x:Int} (h1 : -9000000000<=x) (h2:x<=9000000000):OI x:=by
 unfold OI;split
 ·exact ⟨by rw [aK];omega,trivial⟩
 ·trivial
theorem aKt (x0:List Int) (x1:Int) (h:aKs x0 x1) (v13:Nat) (hv:v13<x0.length) (h0:List Int) (ds:List aY) (n:Nat):∀ (k j:Nat) (c:Nat),j+k=x0.length->c<=j->(Ii n ((v13:Int)+1) (h0++[((c+Fs (x0.getD v13 0) x1 (x0.drop j):Nat):Int)]) x0 x1 ds)->h0.length<=1000000->Fq (n+k+1) (c:Int) (j:Int) x0 x1 (v13:Int) h0 ds:=by
 obtain ⟨hl,hb⟩:=h;have ha:=hb _ (dN x0 v13 0 hv);intro k
 induction k with
 | zero =>
  intro j c hj hc hr hh;rw [dS (by omega)] at hr;rw [lE,Fq,if_neg (by simp only [decide_eq_true_eq];omega)];exact ⟨by omega,by rw [aK];omega,hr⟩
 | succ k ih =>
  intro j c hj hc hr hh;have hlt:j<x0.length:=by omega
  have hx:=hb _ (dN x0 j 0 hlt);have e3:(j:Int)+1=((j+1:Nat):Int):=by omega
  have e4:(c:Int)+1=((c+1:Nat):Int):=by omega
  rw [eH x0 j 0 hlt] at hr;show Fq (n+k+1+1) _ _ _ _ _ _ _;rw [Fq,if_pos (by simp only [decide_eq_true_eq];omega),e3,e4,aF,aF];refine ⟨by omega,by omega,by rw [aK];omega,aUb (by omega) (by omega),?_⟩;unfold Fs at hr ih;rw [List.filter_cons] at hr;by_cases d:decide (nN (x0.getD v13 0 - x0.getD j 0)<=x1)=true
  ·rw [if_pos d,bA] at hr;exact (if_pos d).mpr ⟨by rw [aK];omega,by rw [aK];omega,ih (j+1) (c+1) (by omega) (by omega) (by rw [Nat.add_assoc,Nat.add_comm 1];exact hr) hh⟩
  ·rw [if_neg d] at hr;exact (if_neg d).mpr ⟨by rw [aK];omega,ih (j+1) c (by omega) (by omega) hr hh⟩
theorem aKu (x0:List Int) (x1:Int) (h:aKs x0 x1):∀ (k i:Nat) (h0:List Int),i+k=x0.length->h0.length=i->∃ n,Ii n (i:Int) h0 x0 x1 [⟨.sl (.int .i64),h0++(x0.drop i).map λa=>(Fs a x1 x0:Int)⟩]:=by
 intro k
 induction k with
 | zero =>
  intro i h0 hi hh;refine ⟨1,?_⟩;rw [Ii,if_neg (by simp only [decide_eq_true_eq];omega),dS (by omega),List.map_nil,c6]
 | succ k ih =>
  intro i h0 hi hh;have hlt:i<x0.length:=by omega
  have hl:=h.1;have e3:(i:Int)+1=((i+1:Nat):Int):=by omega
  obtain ⟨n,hn⟩:=ih (i+1) (h0++[((0+Fs (x0.getD i 0) x1 (x0.drop 0):Nat):Int)]) (by omega) (by rw [aO,cP];omega);refine ⟨n+x0.length+1+1,?_⟩;rw [Ii,if_pos (by simp only [decide_eq_true_eq];omega),eH x0 i 0 hlt];refine ⟨by omega,by omega,?_⟩;have:=aKt x0 x1 h i hlt h0 [⟨.sl (.int .i64),h0++(x0.getD i 0 :: x0.drop (i+1)).map λa=>(Fs a x1 x0:Int)⟩] n x0.length 0 0 (by omega) (aT _) (by
   rw [List.drop_zero,cV] at hn ⊢;rw [bS] at hn;rw [e3];exact hn) (by omega)
  exact this
def bBI:=dR aKr (λ⟨x0,x1,_⟩=>aKs x0 x1) λ⟨x0,x1,_⟩=>[⟨.sl (.int .i64),jW x0 x1⟩]
theorem aUc (x0:List Int) (x1:Int) (h:aKs x0 x1):∃ n,aTZ n x0 x1 [⟨.sl (.int .i64),jW x0 x1⟩]:=by
 obtain ⟨n,hn⟩:=aKu x0 x1 h x0.length 0 [] (by omega) rfl;exact ⟨n+1,by rw [aTZ];exact hn⟩
theorem aUd:c7 301 bBI:=dF bJU (λ⟨x0,x1,_⟩ h hwf K q =>
 let ⟨n,hn⟩:=aUc x0 x1 h
 (aUa _ K q n).1 hn)
def aOa:dB:=⟨302,Tryz.f302,[.v (.sl (.int .i64))],[.int .i64],[],[],false,[]⟩
theorem bJV:FO aOa:=mo Tryz.func302 trivial
def aUe (v3:Int) (v4:Int) (x0:List Int):eD×bG:=([eL 0 (.int .i64) x0,eI 3 v3,eI 4 v4],[])
mutual
def aUf:Nat->List Int->List aY->Prop
 | 0,_,_=>False
 | n+1,x0,ds=>((decide ((x0.length:Int)<1)=false)/\((0<(x0.length:Int))/\(M5 n (aD x0 0 0) (1) (x0) ds)))
def M5:Nat->Int->Int->List Int->List aY->Prop
 | 0,_,_,_,_=>False
 | n+1,v3,v4,x0,ds=>(if (decide (v4<(x0.length:Int)))=true then ((0<=v4)/\(v4<(x0.length:Int))/\((cC .i64 (v4+1))/\(M5 n (if v3<aD x0 (aE v4) 0 then aD x0 (aE v4) 0 else v3) (v4+1) (x0) ds))) else (ds=[aP (.int .i64) v3]))
end
theorem aUg (ds:List aY) (K:jK) (q:Nat->Value):∀ n,(∀ {x0},aUf n x0 ds->St aOa (x0,()) ds [] K q)/\(∀ {v3 v4 x0},M5 n v3 v4 x0 ds->Cu aOa 5 (aUe v3 v4 x0) ds [] K q):=by
 intro n
 induction n with
 | zero=>exact ⟨λh=>h.elim,λh=>h.elim⟩
 | succ n ih =>
 obtain ⟨i,i5⟩:=ih;exact ⟨λ{x0} h=>cF h λh=>tP ((by decide):(0:Int)<=(0:Int))<|c1 h λh=>jp (i5 h),
  λh=>bR h (λh=>c2 h λh=>c1 h λh=>jp (i5 h)) λh=>rh h⟩
def UD (s y:Int):Int:=if s<y then y else s
def u3 (x0:List Int):Int:=(x0.drop 1).foldl UD (x0.getD 0 0)
def bBJ (x0:List Int):Prop:=1<=x0.length
theorem aUh (x0:List Int) (hm:x0.length<=maxLen):∀ (k i:Nat) (s:Int),i+k=x0.length->M5 (k+1) s (i:Int) x0 [⟨.int .i64,(x0.drop i).foldl UD s⟩]:=by
 intro k
 induction k with
 | zero =>
  intro i s hi;rw [M5,if_neg (by simp only [decide_eq_true_eq];omega),dS (by omega)];rfl
 | succ k ih =>
  intro i s hi;have hlt:i<x0.length:=by omega
  have hu:=fC hm hlt;have e3:(i:Int)+1=((i+1:Nat):Int):=by omega
  rw [e3] at hu;rw [M5,if_pos (by simp only [decide_eq_true_eq];omega),eH x0 i 0 hlt,dY,e3,aF];exact ⟨by omega,by omega,hu,ih (i+1) _ (by omega)⟩
def bBK:=dR aOa (λ⟨x0,_⟩=>bBJ x0) λ⟨x0,_⟩=>[⟨.int .i64,u3 x0⟩]
theorem aUi (x0:List Int) (hm:x0.length<=maxLen) (h:1<=x0.length):aUf (x0.length - 1+1+1) x0 [⟨.int .i64,u3 x0⟩]:=by
 rw [aUf];exact ⟨by simp only [decide_eq_false_iff_not];omega,by omega,aUh x0 hm (x0.length - 1) 1 (x0.getD 0 0) (by omega)⟩
theorem aUj:c7 302 bBK:=dF bJV (λ⟨x0,_⟩ h hwf K q =>
 (aUg _ K q _).1 (aUi x0 hwf.1.1 h))
def aOb:dB:=⟨303,Tryz.f303,[.v (.sl (.int .i64)),.v (.int .i64)],[.int .i64],[],[],false,[]⟩
theorem bJW:FO aOb:=mo Tryz.func303 trivial
def aUk (v8:Int) (x0:List Int) (x1:Int):eD×bG:=([eL 0 (.int .i64) x0,eI 1 x1,eI 7 (x0.length:Int),eI 8 v8],[])
mutual
def aUl:Nat->List Int->Int->List aY->Prop
 | 0,_,_,_=>False
 | n+1,x0,x1,ds=>(Ij n (0) (x0) (x1) ds)
def Ij:Nat->Int->List Int->Int->List aY->Prop
 | 0,_,_,_,_=>False
 | n+1,v8,x0,x1,ds=>(if (decide (v8<(x0.length:Int)))=true then ((0<=v8)/\(v8<(x0.length:Int))/\(if (x1==aD x0 (aE v8) 0)=true then (ds=[aP (.int .i64) v8]) else ((cC .i64 (v8+1))/\(Ij n (v8+1) (x0) (x1) ds)))) else (ds=[aP (.int .i64) (-1)]))
end
theorem aUm (ds:List aY) (K:jK) (q:Nat->Value):∀ n,(∀ {x0 x1},aUl n x0 x1 ds->St aOb (x0,x1,()) ds [] K q)/\(∀ {v8 x0 x1},Ij n v8 x0 x1 ds->Cu aOb 2 (aUk v8 x0 x1) ds [] K q):=by
 intro n
 induction n with
 | zero=>exact ⟨λh=>h.elim,λh=>h.elim⟩
 | succ n ih =>
 obtain ⟨i,i2⟩:=ih;exact ⟨λh=>jp (i2 h),
  λh=>bR h (λh=>c2 h λh=>bR h (λh=>rh h) λh=>c1 h λh=>jp (i2 h)) λh=>rh h⟩
def N6 (x1:Int) (y:Int):Bool:=x1==y
def Ft (x0:List Int) (x1:Int):Int:=XZ (x0.findIdx? (N6 x1))
def bJX (x0:List Int) (x1:Int):Prop:=True
theorem aUn (x0:List Int) (x1:Int) (hm:x0.length<=maxLen):aUl (x0.length+1+1) x0 x1 [⟨.int .i64,Ft x0 x1⟩]:=by
 rw [aUl];have key:=kJ x0 0 (N6 x1) [(⟨.int .i64, -1⟩:aY)] (λk=>[⟨.int .i64,k⟩]) (λn i ds=>Ij n i x0 x1 ds) (λn => ?_) (λn i hi hok ds hr => ?_) (λn i hi hok => ?_)
 ·unfold Ft;cases h:x0.findIdx? (N6 x1) <;> rw [h] at key <;> exact key
 ·rw [Ij,if_neg (by simp)]
 ·rw [Ij,if_pos (by simp;omega)];simp only [aF];refine ⟨by omega,by omega,?_⟩;unfold N6 at hok;rw [if_neg (by rw [hok];simp)];exact ⟨fC hm hi,hr⟩
 ·rw [Ij,if_pos (by simp;omega)];simp only [aF];refine ⟨by omega,by omega,?_⟩;unfold N6 at hok;rw [if_pos hok] <;> trivial
def bBL:=dR aOb (λ⟨x0,x1,_⟩=>bJX x0 x1) λ⟨x0,x1,_⟩=>[⟨.int .i64,Ft x0 x1⟩]
theorem aUo:c7 303 bBL:=dF bJW (λ⟨x0,x1,_⟩ h hwf K q =>
 (aUm _ K q _).1 (aUn x0 x1 hwf.1.1))
def bBM:dB:=⟨229,Tryz.f229,[.v (.sl (.int .i64)),.v (.int .i64)],[.int .i64,.int .i64],[],[(300,bBH),(108,p8),(301,bBI),(302,bBK),(303,bBL)],false,[]⟩
theorem bJY:FO bBM:=mo Tryz.func229 ⟨aTW,iA,aUd,aUj,aUo,trivial⟩
def aOc (x0:List Int) (x1:Int):Prop:=(if (!Ih x0 3)=true then True else (if (!cD x1 0 1000000)=true then True else ((aKs x0 x1)/\((bBJ (jW x0 x1))/\((cC .i64 (2*u3 (jW x0 x1)))/\(if (decide (2*u3 (jW x0 x1)<=(x0.length:Int)))=true then True else ((0<=Ft (jW x0 x1) (u3 (jW x0 x1)))/\(Ft (jW x0 x1) (u3 (jW x0 x1))<(x0.length:Int))/\True)))))))
def Vw (x0:List Int) (x1:Int):Int:=(if (!Ih x0 3)=true then 0 else (if (!cD x1 0 1000000)=true then 0 else (if (decide (2*u3 (jW x0 x1)<=(x0.length:Int)))=true then 0 else aD x0 (aE (Ft (jW x0 x1) (u3 (jW x0 x1)))) 0)))
def aKv (x0:List Int) (x1:Int):Int:=(if (!Ih x0 3)=true then 2 else (if (!cD x1 0 1000000)=true then 2 else (if (decide (2*u3 (jW x0 x1)<=(x0.length:Int)))=true then 3 else 0)))
def bBN:=dR bBM (λ⟨x0,x1,_⟩=>aOc x0 x1) λ⟨x0,x1,_⟩=>[⟨.int .i64,Vw x0 x1⟩,⟨.int .i64,aKv x0 x1⟩]
theorem aUp:c7 229 bBN:=dF bJY λ⟨x0,x1,_⟩ h _ K q=>tv<|o3 h (λh=>tT<|rt) λh=>tv<|o3 h (λh=>rt) λh=>c1 h λh=>c1 h λh=>c1 h λh=>o3 h (λh=>rt) λh=>tv<|c2 h λh=>rt
def bBO:dB:=⟨361,Tryz.f361,[.v (.int .i64)],[.bool],[],[(108,p8)],false,[]⟩
theorem bJZ:FO bBO:=mo Tryz.func361 ⟨iA,trivial⟩
def bKa (x0:Int):Prop:=True
def aDc (x0:Int):Bool:=cD x0 0 100000
def aUq:=dR bBO (λ⟨x0,_⟩=>bKa x0) λ⟨x0,_⟩=>[⟨.bool,aDc x0⟩]
theorem aKw:c7 361 aUq:=dF bJZ λ⟨x0,_⟩ h _ K q=>tv<|rt
def bBP:dB:=⟨360,Tryz.f360,[.v (.int .i64)],[.bool],[],[(361,aUq)],false,[]⟩
theorem bKb:FO bBP:=mo Tryz.func360 ⟨aKw,trivial⟩
def bKc (x0:Int):Prop:=True
def Ae (x0:Int):Bool := !aDc x0
def aUr:=dR bBP (λ⟨x0,_⟩=>bKc x0) λ⟨x0,_⟩=>[⟨.bool,Ae x0⟩]
theorem aKx:c7 360 aUr:=dF bKb λ⟨x0,_⟩ h _ K q=>tv<|rt
def KX:dB:=⟨273,Tryz.f273,[.v (.sl (.int .i64)),.fn 360 []],[.int .i64],[],[(360,aUr)],false,[]⟩
theorem aKy:FO KX:=mo EG ⟨aKx,trivial⟩
def aDd (v8:Int) (x0:List Int):eD×bG:=([eL 0 (.int .i64) x0,(1,nU 360 []),eI 7 (x0.length:Int),eI 8 v8],[])
mutual
def Qi:Nat->List Int->List aY->Prop
 | 0,_,_=>False
 | n+1,x0,ds=>(tJ n (0) (x0) ds)
def tJ:Nat->Int->List Int->List aY->Prop
 | 0,_,_,_=>False
 | n+1,v8,x0,ds=>(if (decide (v8<(x0.length:Int)))=true then ((0<=v8)/\(v8<(x0.length:Int))/\(if (Ae (aD x0 (aE v8) 0))=true then (ds=[aP (.int .i64) v8]) else ((cC .i64 (v8+1))/\(tJ n (v8+1) (x0) ds)))) else (ds=[aP (.int .i64) (-1)]))
end
theorem aDe (ds:List aY) (K:jK) (q:Nat->Value):∀ n,(∀ {x0},Qi n x0 ds->St KX (x0,(),()) ds [] K q)/\(∀ {v8 x0},tJ n v8 x0 ds->Cu KX 2 (aDd v8 x0) ds [] K q):=by
 intro n
 induction n with
 | zero=>exact ⟨λh=>h.elim,λh=>h.elim⟩
 | succ n ih =>
 obtain ⟨i,i2⟩:=ih;exact ⟨λh=>jp (i2 h),
  λh=>bR h (λh=>c2 h λh=>tv<|bR h (λh=>rh h) λh=>c1 h λh=>jp (i2 h)) λh=>rh h⟩
def wP (x0:List (Int)):Int:=XZ (x0.findIdx? Ae)
def aKz (x0:List (Int)):Prop:=True
theorem aDf (x0:List (Int)) (hm:x0.length<=maxLen):Qi (x0.length+1+1) x0 [⟨.int .i64,wP x0⟩]:=by
 rw [Qi];have key:=kJ x0 (0:Int) Ae [(⟨.int .i64, -1⟩:aY)] (λk=>[⟨.int .i64,k⟩]) (λn i ds=>tJ n i x0 ds) (λn => ?_) (λn i hi hok ds hr => ?_) (λn i hi hok => ?_)
 ·unfold wP;cases h:x0.findIdx? Ae <;> rw [h] at key <;> exact key
 ·rw [tJ,if_neg (by simp)]
 ·rw [tJ,if_pos (by simp;omega)];simp only [aF];refine ⟨by omega,by omega,?_⟩;rw [if_neg (by rw [hok];simp)];exact ⟨fC hm hi,hr⟩
 ·rw [tJ,if_pos (by simp;omega)];simp only [aF];refine ⟨by omega,by omega,?_⟩;rw [if_pos hok] <;> trivial
def Z9:=dR KX (λ⟨x0,_⟩=>aKz x0) λ⟨x0,_⟩=>[⟨.int .i64,wP x0⟩]
theorem aDg:c7 273 Z9:=dF aKy (λ⟨x0,_⟩ h hwf K q =>
 (aDe _ K q _).1 (aDf x0 hwf.1.1))
theorem aDh (x0:List (Int)):decide (wP x0>=0)=x0.any Ae:=by
 have:=qG Ae x0;unfold wP;cases h:x0.any Ae with
 | true=>rw [h] at this;simpa using this
 | false=>rw [h] at this;simpa using this
def Za:dB:=⟨192,Tryz.f192,[.v (.sl (.int .i64)),.fn 360 []],[.bool],[],[(273,Z9),(360,aUr)],false,[]⟩
theorem aK0:FO Za:=mo EH ⟨aDg,aKx,trivial⟩
def aK1 (x0:List Int):Prop:=True
def Ik (x0:List Int):Bool:=decide (wP x0>=0)
def Zb:=dR Za (λ⟨x0,_⟩=>aK1 x0) λ⟨x0,_⟩=>[⟨.bool,Ik x0⟩]
theorem aDi:c7 192 Zb:=dF aK0 λ⟨x0,_⟩ h _ K q=>tv<|rt
def bBQ:dB:=⟨305,Tryz.f305,[.v (.int .i64),.v (.int .i64),.v (.sl (.int .i64))],[.bool],[],[(361,aUq),(108,p8),(192,Zb)],false,[]⟩
theorem bKd:FO bBQ:=mo Tryz.func305 ⟨aKw,iA,aDi,trivial⟩
def bKe (x0:Int) (x1:Int) (x2:List Int):Prop:=True
def Il (x0:Int) (x1:Int) (x2:List Int):Bool:=(if (!Ik x2)=true then (if (aDc x0)=true then cD x1 1 900 else false) else false)
def bBR:=dR bBQ (λ⟨x0,x1,x2,_⟩=>bKe x0 x1 x2) λ⟨x0,x1,x2,_⟩=>[⟨.bool,Il x0 x1 x2⟩]
theorem aUs:c7 305 bBR:=dF bKd λ⟨x0,x1,x2,_⟩ h _ K q=>tv<|e1 (tv<|e1 (tv<|rt) (rt)) (tF<|rt)
def bBS:dB:=⟨306,Tryz.f306,[.v (.int .i64)],[.bool],[],[(108,p8)],false,[]⟩
theorem bKf:FO bBS:=mo Tryz.func306 ⟨iA,trivial⟩
def bKg (x0:Int):Prop:=True
def Qj (x0:Int):Bool:=cD x0 0 1000000
def bBT:=dR bBS (λ⟨x0,_⟩=>bKg x0) λ⟨x0,_⟩=>[⟨.bool,Qj x0⟩]
theorem aUt:c7 306 bBT:=dF bKf λ⟨x0,_⟩ h _ K q=>tv<|rt
def bBU:dB:=⟨304,Tryz.f304,[.v X0,.v (.bool)],[.int .i64],[],[(64,S64)],false,[]⟩
theorem bKh:FO bBU:=mo Tryz.func304 ⟨aJb,trivial⟩
def bKi (x0:Int×Int×Int×Int×Unit) (x1:Bool):Prop:=True
def yL (x0:Int×Int×Int×Int×Unit) (x1:Bool):Int:=(if (!uG x0)=true then 1 else (if (!x1)=true then 2 else 0))
def bBV:=dR bBU (λ⟨x0,x1,_⟩=>bKi x0 x1) λ⟨x0,x1,_⟩=>[⟨.int .i64,yL x0 x1⟩]
theorem aUu:c7 304 bBV:=dF bKh λ⟨x0,x1,_⟩ h _ K q=>tv<|e1 (rt) (e1 (rt) (rt))
def bBW:dB:=⟨363,Tryz.f363,[.v (.int .i64),.v (.int .i64),.v (.int .i64),.v (.int .i64)],[.int .i64],[],[(370,aTC)],false,[]⟩
theorem bKj:FO bBW:=mo Tryz.func363 ⟨aCL,trivial⟩
def bBX (x0:Int) (x1:Int) (x2:Int) (x3:Int):Prop:=((cC .i64 (x0 - x1))/\((cC .i64 (x0 - x1 - x2))/\((cC .i64 ((x0 - x1 - x2)*x3))/\((cC .i64 ((x0 - x1 - x2)*x3*981))/\((M1 ((x0 - x1 - x2)*x3*981) 100000)/\True)))))
def aK2 (x0:Int) (x1:Int) (x2:Int) (x3:Int):Int:=pT ((x0 - x1 - x2)*x3*981) 100000
def bBY:=dR bBW (λ⟨x0,x1,x2,x3,_⟩=>bBX x0 x1 x2 x3) λ⟨x0,x1,x2,x3,_⟩=>[⟨.int .i64,aK2 x0 x1 x2 x3⟩]
theorem aUv:c7 363 bBY:=dF bKj λ⟨x0,x1,x2,x3,_⟩ h _ K q=>c1 h λh=>c1 h λh=>c1 h λh=>c1 h λh=>c1 h λh=>rt
def bBZ:dB:=⟨362,Tryz.f362,[.v (.int .i64),.p (.int .i64),.p (.int .i64),.p (.int .i64),.p (.int .i64),.p (.int .i64)],[.bool],[],[(363,bBY)],false,[]⟩
theorem bKk:FO bBZ:=mo Tryz.func362 ⟨aUv,trivial⟩
def aOd (x0:Int) (x1:Int) (x2:Int) (x3:Int) (x4:Int) (x5:Int):Prop:=((cC .i64 (x1+x0))/\((bBX (x1+x0) x2 x3 x4)/\True))
def M6 (x0:Int) (x1:Int) (x2:Int) (x3:Int) (x4:Int) (x5:Int):Bool:=decide (aK2 (x1+x0) x2 x3 x4>=x5)
def bCa:=dR bBZ (λ⟨x0,x1,x2,x3,x4,x5,_⟩=>aOd x0 x1 x2 x3 x4 x5) λ⟨x0,x1,x2,x3,x4,x5,_⟩=>[⟨.bool,M6 x0 x1 x2 x3 x4 x5⟩]
theorem aUw:c7 362 bCa:=dF bKk λ⟨x0,x1,x2,x3,x4,x5,_⟩ h _ K q=>c1 h λh=>c1 h λh=>rt
def KY:dB:=⟨353,Tryz.f353,[.v (.int .i64),.v (.int .i64),.fn 362 [(true,(.int .i64)),(true,(.int .i64)),(true,(.int .i64)),(true,(.int .i64)),(true,(.int .i64))]],[.int .i64],[],[(362,bCa)],false,[]⟩
theorem aK3:FO KY:=mo XP ⟨aUw,trivial⟩
def aDj (v7:Int) (x0:Int) (x2:Int) (x2c:Int) (x2cc:Int) (x2ccc:Int) (x2cccc:Int):eD×bG:=([eI 0 x0,(2,nU 362 [pM (.int .i64) x2,pM (.int .i64) x2c,pM (.int .i64) x2cc,pM (.int .i64) x2ccc,pM (.int .i64) x2cccc]),eI 7 v7],[])
mutual
def Qk:Nat->Int->Int->Int->Int->Int->Int->Int->List aY->Prop
 | 0,_,_,_,_,_,_,_,_=>False
 | n+1,x0,x1,x2,x2c,x2cc,x2ccc,x2cccc,ds=>((cC .i64 (x1+1))/\(qT n (x1+1) (x0) (x2) (x2c) (x2cc) (x2ccc) (x2cccc) ds))
def qT:Nat->Int->Int->Int->Int->Int->Int->Int->List aY->Prop
 | 0,_,_,_,_,_,_,_,_=>False
 | n+1,v7,x0,x2,x2c,x2cc,x2ccc,x2cccc,ds=>(if (decide (x0<v7))=true then ((cC .i64 (x0+v7))/\((cC .i64 (bM (x0+v7) 2))/\((aOd (bM (x0+v7) 2) x2 x2c x2cc x2ccc x2cccc)/\(if (M6 (bM (x0+v7) 2) x2 x2c x2cc x2ccc x2cccc)=true then (qT n (bM (x0+v7) 2) (x0) (x2) (x2c) (x2cc) (x2ccc) (x2cccc) ds) else ((cC .i64 (bM (x0+v7) 2+1))/\(qT n (v7) (bM (x0+v7) 2+1) (x2) (x2c) (x2cc) (x2ccc) (x2cccc) ds)))))) else (ds=[aP (.int .i64) x0]))
end
theorem aDk (ds:List aY) (K:jK) (q:Nat->Value):∀ n,(∀ {x0 x1 x2 x2c x2cc x2ccc x2cccc},Qk n x0 x1 x2 x2c x2cc x2ccc x2cccc ds->St KY (x0,x1,(x2,x2c,x2cc,x2ccc,x2cccc,()),()) ds [] K q)/\(∀ {v7 x0 x2 x2c x2cc x2ccc x2cccc},qT n v7 x0 x2 x2c x2cc x2ccc x2cccc ds->Cu KY 2 (aDj v7 x0 x2 x2c x2cc x2ccc x2cccc) ds [] K q):=by
 intro n
 induction n with
 | zero=>exact ⟨λh=>h.elim,λh=>h.elim⟩
 | succ n ih =>
 obtain ⟨i,i2⟩:=ih;exact ⟨λh=>c1 h λh=>jp (i2 h),
  λ{v7} {x0} {x2} {x2c} {x2cc} {x2ccc} {x2cccc} h=>bR h (λh=>c1 h λh=>tP ((by decide):(2:Int)≠(0:Int))<|c1 h λh=>c1 h λh=>bR h (λh=>jp (i2 h)) λh=>c1 h λh=>jp (i2 h)) λh=>rh h⟩
def D7 (x0 x1:Int) (y0:Int) (y1:Int) (y2:Int) (y3:Int) (y4:Int):Int:=bsI (λx=>M6 x y0 y1 y2 y3 y4) (x1+1 - x0).toNat x0 (x1+1)
def Ql (x0 x1:Int) (y0:Int) (y1:Int) (y2:Int) (y3:Int) (y4:Int):Prop:=(0<=x0/\x0<=x1+1/\x1<=1000000000)/\∀ v,0<=v->v<=x1->aOd v y0 y1 y2 y3 y4
theorem aDl (y0:Int) (y1:Int) (y2:Int) (y3:Int) (y4:Int) (e9:Int) (he:e9<=1000000000) (hp:∀ v,0<=v->v<=e9->aOd v y0 y1 y2 y3 y4):∀ (k:Nat) (lo e:Int),0<=lo->lo<=e->e<=e9+1->e - lo<=(k:Int)->qT (k+1) e lo y0 y1 y2 y3 y4 [⟨.int .i64,bsI (λx=>M6 x y0 y1 y2 y3 y4) k lo e⟩]:=by
 intro k
 induction k with
 | zero =>
  intro lo e h0 h1 h2 h3;rw [qT,if_neg (by simp only [decide_eq_true_eq];omega)];rfl
 | succ k ih =>
  intro lo e h0 h1 h2 h3;unfold bsI;by_cases hlt:lo<e
  ·obtain ⟨m1,m2⟩:=Vr h0 hlt;rw [qT,if_pos (by simpa using hlt),if_pos hlt];refine ⟨by rw [aK];omega,by rw [aK];omega,hp _ (by omega) (by omega),?_⟩;split
   ·exact ih lo _ h0 m1 (by omega) (by omega)
   ·exact ⟨by rw [aK];omega,ih _ e (by omega) (by omega) h2 (by omega)⟩
  ·rw [qT,if_neg (by simpa using hlt),if_neg hlt]
theorem aDm (x0 x1:Int) (y0:Int) (y1:Int) (y2:Int) (y3:Int) (y4:Int) (h:Ql x0 x1 y0 y1 y2 y3 y4):Qk ((x1+1 - x0).toNat+1+1) x0 x1 y0 y1 y2 y3 y4 [⟨.int .i64,D7 x0 x1 y0 y1 y2 y3 y4⟩]:=by
 obtain ⟨⟨h1,h2,h3⟩,hp⟩:=h;rw [Qk];exact ⟨by rw [aK];omega,aDl y0 y1 y2 y3 y4 x1 h3 hp _ _ _ h1 h2 (by omega) (by omega)⟩
def Zc:=dR KY (λ⟨x0,x1,⟨y0,y1,y2,y3,y4,_⟩,_⟩=>Ql x0 x1 y0 y1 y2 y3 y4) λ⟨x0,x1,⟨y0,y1,y2,y3,y4,_⟩,_⟩=>[⟨.int .i64,D7 x0 x1 y0 y1 y2 y3 y4⟩]
theorem aDn:c7 353 Zc:=dF aK3 (λ⟨x0,x1,⟨y0,y1,y2,y3,y4,_⟩,_⟩ h hwf K q =>
 (aDk _ K q _).1 (aDm x0 x1 y0 y1 y2 y3 y4 h))
def bCb:dB:=⟨307,Tryz.f307,[.v X0,.v (.int .i64),.v (.int .i64),.v (.int .i64),.v (.int .i64),.v (.int .i64)],[.int .i64,.bool],[],[(353,Zc)],false,[]⟩
theorem bKl:FO bCb:=mo Tryz.func307 ⟨aDn,trivial⟩
def aOe (x0:Int×Int×Int×Int×Unit) (x1:Int) (x2:Int) (x3:Int) (x4:Int) (x5:Int):Prop:=((Ql 0 x0.1 x1 x2 x3 x4 x5)/\True)
def Qm (x0:Int×Int×Int×Int×Unit) (x1:Int) (x2:Int) (x3:Int) (x4:Int) (x5:Int):Int:=D7 0 x0.1 x1 x2 x3 x4 x5
def Qn (x0:Int×Int×Int×Int×Unit) (x1:Int) (x2:Int) (x3:Int) (x4:Int) (x5:Int):Bool:=decide (D7 0 x0.1 x1 x2 x3 x4 x5<=x0.1)
def bCc:=dR bCb (λ⟨x0,x1,x2,x3,x4,x5,_⟩=>aOe x0 x1 x2 x3 x4 x5) λ⟨x0,x1,x2,x3,x4,x5,_⟩=>[⟨.int .i64,Qm x0 x1 x2 x3 x4 x5⟩,⟨.bool,Qn x0 x1 x2 x3 x4 x5⟩]
theorem aUx:c7 307 bCc:=dF bKl λ⟨x0,x1,x2,x3,x4,x5,_⟩ h _ K q=>c1 h λh=>rt
def bCd:dB:=⟨230,Tryz.f230,[.v X0,.v (.int .i64),.v (.int .i64),.v (.int .i64),.v (.int .i64),.v (.int .i64)],[.int .i64,.int .i64],[],[(305,bBR),(306,bBT),(304,bBV),(307,bCc)],false,[]⟩
theorem bKm:FO bCd:=mo Tryz.func230 ⟨aUs,aUt,aUu,aUx,trivial⟩
def aOf (x0:Int×Int×Int×Int×Unit) (x1:Int) (x2:Int) (x3:Int) (x4:Int) (x5:Int):Prop:=(if (Il x3 x4 [x1,x2])=true then (if (yL x0 (Qj x5) != 0)=true then True else ((aOe x0 x1 x2 x3 x4 x5)/\True)) else (if (yL x0 false != 0)=true then True else ((aOe x0 x1 x2 x3 x4 x5)/\True)))
def Vx (x0:Int×Int×Int×Int×Unit) (x1:Int) (x2:Int) (x3:Int) (x4:Int) (x5:Int):Int:=(if (Il x3 x4 [x1,x2])=true then (if (yL x0 (Qj x5) != 0)=true then 0 else (if (!Qn x0 x1 x2 x3 x4 x5)=true then 0 else Qm x0 x1 x2 x3 x4 x5)) else (if (yL x0 false != 0)=true then 0 else (if (!Qn x0 x1 x2 x3 x4 x5)=true then 0 else Qm x0 x1 x2 x3 x4 x5)))
def aK4 (x0:Int×Int×Int×Int×Unit) (x1:Int) (x2:Int) (x3:Int) (x4:Int) (x5:Int):Int:=(if (Il x3 x4 [x1,x2])=true then (if (yL x0 (Qj x5) != 0)=true then yL x0 (Qj x5) else (if (!Qn x0 x1 x2 x3 x4 x5)=true then 3 else 0)) else (if (yL x0 false != 0)=true then yL x0 false else (if (!Qn x0 x1 x2 x3 x4 x5)=true then 3 else 0)))
def bCe:=dR bCd (λ⟨x0,x1,x2,x3,x4,x5,_⟩=>aOf x0 x1 x2 x3 x4 x5) λ⟨x0,x1,x2,x3,x4,x5,_⟩=>[⟨.int .i64,Vx x0 x1 x2 x3 x4 x5⟩,⟨.int .i64,aK4 x0 x1 x2 x3 x4 x5⟩]
theorem aUy:c7 230 bCe:=dF bKm λ⟨x0,x1,x2,x3,x4,x5,_⟩ h _ K q=>tv<|o3 h (λh=>tv<|tv<|o3 h (λh=>rt) λh=>c1 h λh=>e2 (rt) (rt)) λh=>tv<|o3 h (λh=>rt) λh=>c1 h λh=>e2 (rt) (rt)
def bCf:dB:=⟨155,Tryz.f155,[.p vP,.v Gk],[.int .i64,.int .i64],[],[(226,bBu),(227,bB0),(228,bBC),(229,bBN),(230,bCe)],false,[]⟩
theorem bKn:FO bCf:=mo Tryz.func155 ⟨aTK,aTN,aTT,aUp,aUy,trivial⟩
def Zd (x0:fV) (x1:ByteArray×ByteArray×List Int×List Int×Unit):Prop:=(if (aB x1.1==aB (aA #[115,108,111,119,101,115,116]))=true then ((0<(x1.2.2.1.length:Int))/\((aKi x0.1 (aD x1.2.2.1 0 0))/\True)) else (if (aB x1.1==aB (aA #[114,101,115,101,114,118,101]))=true then ((0<(x1.2.2.1.length:Int))/\((aNX x0.2.1 (aD x1.2.2.1 0 0))/\True)) else (if (aB x1.1==aB (aA #[112,111,119,101,114]))=true then ((0<(x1.2.2.1.length:Int))/\((1<(x1.2.2.1.length:Int))/\((aNZ x0.2.2.2.2.1 (aD x1.2.2.1 0 0) (aD x1.2.2.1 1 0))/\True))) else (if (aB x1.1==aB (aA #[118,111,116,101]))=true then ((0<(x1.2.2.1.length:Int))/\((aOc x1.2.2.2.1 (aD x1.2.2.1 0 0))/\True)) else ((0<(x1.2.2.1.length:Int))/\((1<(x1.2.2.1.length:Int))/\((2<(x1.2.2.1.length:Int))/\((3<(x1.2.2.1.length:Int))/\((4<(x1.2.2.1.length:Int))/\((aOf x0.2.2.2.2.2.2.2.1 (aD x1.2.2.1 0 0) (aD x1.2.2.1 1 0) (aD x1.2.2.1 2 0) (aD x1.2.2.1 3 0) (aD x1.2.2.1 4 0))/\True))))))))))
def wQ (x0:fV) (x1:ByteArray×ByteArray×List Int×List Int×Unit):Int:=(if (aB x1.1==aB (aA #[115,108,111,119,101,115,116]))=true then M2 x0.1 (aD x1.2.2.1 0 0) else (if (aB x1.1==aB (aA #[114,101,115,101,114,118,101]))=true then Vt x0.2.1 (aD x1.2.2.1 0 0) else (if (aB x1.1==aB (aA #[112,111,119,101,114]))=true then Vv x0.2.2.2.2.1 (aD x1.2.2.1 0 0) (aD x1.2.2.1 1 0) else (if (aB x1.1==aB (aA #[118,111,116,101]))=true then Vw x1.2.2.2.1 (aD x1.2.2.1 0 0) else Vx x0.2.2.2.2.2.2.2.1 (aD x1.2.2.1 0 0) (aD x1.2.2.1 1 0) (aD x1.2.2.1 2 0) (aD x1.2.2.1 3 0) (aD x1.2.2.1 4 0)))))
def M7 (x0:fV) (x1:ByteArray×ByteArray×List Int×List Int×Unit):Int:=(if (aB x1.1==aB (aA #[115,108,111,119,101,115,116]))=true then Vs x0.1 (aD x1.2.2.1 0 0) else (if (aB x1.1==aB (aA #[114,101,115,101,114,118,101]))=true then aKj x0.2.1 (aD x1.2.2.1 0 0) else (if (aB x1.1==aB (aA #[112,111,119,101,114]))=true then aKl x0.2.2.2.2.1 (aD x1.2.2.1 0 0) (aD x1.2.2.1 1 0) else (if (aB x1.1==aB (aA #[118,111,116,101]))=true then aKv x1.2.2.2.1 (aD x1.2.2.1 0 0) else aK4 x0.2.2.2.2.2.2.2.1 (aD x1.2.2.1 0 0) (aD x1.2.2.1 1 0) (aD x1.2.2.1 2 0) (aD x1.2.2.1 3 0) (aD x1.2.2.1 4 0)))))
def bCg:=dR bCf (λ⟨x0,x1,_⟩=>Zd x0 x1) λ⟨x0,x1,_⟩=>[⟨.int .i64,wQ x0 x1⟩,⟨.int .i64,M7 x0 x1⟩]
theorem aUz:c7 155 bCg:=dF bKn λ⟨x0,x1,_⟩ h _ K q=>o3 h (λh=>tP ((by decide):(0:Int)<=(0:Int))<|c1 h λh=>c1 h λh=>rt) λh=>o3 h (λh=>tP ((by decide):(0:Int)<=(0:Int))<|c1 h λh=>c1 h λh=>rt) λh=>o3 h (λh=>tP ((by decide):(0:Int)<=(0:Int))<|c1 h λh=>tP ((by decide):(0:Int)<=(1:Int))<|c1 h λh=>c1 h λh=>rt) λh=>o3 h (λh=>tP ((by decide):(0:Int)<=(0:Int))<|c1 h λh=>c1 h λh=>rt) λh=>tP ((by decide):(0:Int)<=(0:Int))<|c1 h λh=>tP ((by decide):(0:Int)<=(1:Int))<|c1 h λh=>tP ((by decide):(0:Int)<=(2:Int))<|c1 h λh=>tP ((by decide):(0:Int)<=(3:Int))<|c1 h λh=>tP ((by decide):(0:Int)<=(4:Int))<|c1 h λh=>c1 h λh=>rt
def bCh:dB:=⟨396,Tryz.f396,[.v fL,.v (.int .i64)],[.bool],[],[],false,[]⟩
theorem bKo:FO bCh:=mo Tryz.func396 trivial
def bKp (x0:Int×Int×Int×Unit) (x1:Int):Prop:=True
def Vy (x0:Int×Int×Int×Unit) (x1:Int):Bool:=(if (x1==1)=true then (if (decide (x0.1>0))=true then decide (x0.2.1>10) else false) else (if (x1==2)=true then (if (decide (x0.1>0))=true then decide (x0.2.1<=10) else false) else (if (x1==3)=true then decide (x0.2.2.1>150) else decide (x0.2.1 < -100))))
def bCi:=dR bCh (λ⟨x0,x1,_⟩=>bKp x0 x1) λ⟨x0,x1,_⟩=>[⟨.bool,Vy x0 x1⟩]
theorem aU0:c7 396 bCi:=dF bKo λ⟨x0,x1,_⟩ h _ K q=>e1 (e1 (rt) (rt)) (e1 (e1 (rt) (rt)) (e1 (rt) (rt)))
def bCj:dB:=⟨364,Tryz.f364,[.v fL,.v fL],[.bool],[],[(396,bCi)],false,[]⟩
theorem bKq:FO bCj:=mo Tryz.func364 ⟨aU0,trivial⟩
def aK5 (x0:Int×Int×Int×Unit) (x1:Int×Int×Int×Unit):Prop:=(if (x0.1==3)=true then True else (if (x0.1==4)=true then ((cC .i64 (0 - x1.2.1))/\True) else True))
def Vz (x0:Int×Int×Int×Unit) (x1:Int×Int×Int×Unit):Bool:=(if (x0.1==3)=true then (if (Vy x1 x0.1)=true then decide (x1.2.2.1>x0.2.1) else false) else (if (x0.1==4)=true then (if (Vy x1 x0.1)=true then decide (0 - x1.2.1>x0.2.1) else false) else (if (Vy x1 x0.1)=true then decide (x1.1>x0.2.1) else false)))
def bCk:=dR bCj (λ⟨x0,x1,_⟩=>aK5 x0 x1) λ⟨x0,x1,_⟩=>[⟨.bool,Vz x0 x1⟩]
theorem aU1:c7 364 bCk:=dF bKq λ⟨x0,x1,_⟩ h _ K q=>N0 h (λh=>tv<|e1 (rt) (rt)) λh=>N0 h (λh=>c1 h λh=>tv<|e1 (rt) (rt)) λh=>tv<|e1 (rt) (rt)
def aOg:dB:=⟨308,Tryz.f308,[.v (.sl fL),.v fL,.v (.int .i64)],[.int .i64],[],[(364,bCk)],false,[]⟩
theorem bKr:FO aOg:=mo Tryz.func308 ⟨aU1,trivial⟩
def aU2 (v11:Int) (x2:Int) (x0:List cU) (x1:Int×Int×Int×Unit):eD×bG:=([eI 2 x2,eO 4 0 0 [],eL 9 fL x0,eI 10 (x0.length:Int),eI 11 v11],[some (fY fL [x1] true none (some false))])
mutual
def bCl:Nat->List cU->Int×Int×Int×Unit->Int->List aY->Prop
 | 0,_,_,_,_=>False
 | n+1,x0,x1,x2,ds=>(Im n (0) (x2) (x0) (x1) ds)
def Im:Nat->Int->Int->List cU->Int×Int×Int×Unit->List aY->Prop
 | 0,_,_,_,_,_=>False
 | n+1,v11,x2,x0,x1,ds=>(if (decide (v11<(x0.length:Int)))=true then ((0<=v11)/\(v11<(x0.length:Int))/\((aK5 (aD x0 (aE v11) (0,0,0,())) x1)/\(if (Vz (aD x0 (aE v11) (0,0,0,())) x1)=true then ((cC .i64 (v11+1))/\(Im n (v11+1) (if (aD x0 (aE v11) (0,0,0,())).2.2.1<x2 then (aD x0 (aE v11) (0,0,0,())).2.2.1 else x2) (x0) (x1) ds)) else ((cC .i64 (v11+1))/\(Im n (v11+1) (x2) (x0) (x1) ds))))) else (ds=[aP (.int .i64) x2]))
end
theorem aU3 (ds:List aY) (K:jK) (q:Nat->Value):∀ n,(∀ {x0 x1 x2},bCl n x0 x1 x2 ds->St aOg (x0,x1,x2,()) ds [] K q)/\(∀ {v11 x2 x0 x1},Im n v11 x2 x0 x1 ds->Cu aOg 2 (aU2 v11 x2 x0 x1) ds [] K q):=by
 intro n
 induction n with
 | zero=>exact ⟨λh=>h.elim,λh=>h.elim⟩
 | succ n ih =>
 obtain ⟨i,i2⟩:=ih;exact ⟨λh=>jp (i2 h),
  λh=>bR h (λh=>c2 h λh=>c1 h λh=>bR h (λh=>c1 h λh=>jp (i2 h)) λh=>c1 h λh=>jp (i2 h)) λh=>rh h⟩
abbrev N7:=Int×Int×Int×Unit
def aK6 (x1:N7) (s:Int) (l:N7):Int:=if Vz l x1=true then (if l.2.2.1<s then l.2.2.1 else s) else s
def WA (x0:List N7) (x1:N7) (x2:Int):Int:=x0.foldl (aK6 x1) x2
def aOh (x0:List N7) (x1:N7) (x2:Int):Prop:=∀ l∈x0,aK5 l x1
theorem aU4 (x0:List N7) (x1:N7) (hm:x0.length<=maxLen) (hp:∀ l∈x0,aK5 l x1):∀ (k i:Nat) (s:Int),i+k=x0.length->Im (k+1) (i:Int) s x0 x1 [⟨.int .i64,(x0.drop i).foldl (aK6 x1) s⟩]:=by
 intro k
 induction k with
 | zero =>
  intro i s hi;rw [Im,if_neg (by simp only [decide_eq_true_eq];omega),dS (by omega)];rfl
 | succ k ih =>
  intro i s hi;have hlt:i<x0.length:=by omega
  have hu:=fC hm hlt;have e3:(i:Int)+1=((i+1:Nat):Int):=by omega
  have hx:=hp _ (dN x0 i (0,0,0,()) hlt);rw [e3] at hu;rw [Im,if_pos (by simp only [decide_eq_true_eq];omega),eH x0 i (0,0,0,()) hlt,dY,e3,aF];generalize x0.getD i (0,0,0,())=l at *;refine ⟨by omega,by omega,hx,?_⟩;unfold aK6;by_cases c:Vz l x1=true
  ·refine (if_pos c).mpr ⟨hu,?_⟩;rw [if_pos c];exact ih (i+1) _ (by omega)
  ·refine (if_neg c).mpr ⟨hu,?_⟩;rw [if_neg c];exact ih (i+1) _ (by omega)
def bCm:=dR aOg (λ⟨x0,x1,x2,_⟩=>aOh x0 x1 x2) λ⟨x0,x1,x2,_⟩=>[⟨.int .i64,WA x0 x1 x2⟩]
theorem aU5:c7 308 bCm:=dF bKr (λ⟨x0,x1,x2,_⟩ h hwf K q =>
 (aU3 _ K q ((x0.length+2))).1 (by rw [bCl];exact aU4 x0 x1 hwf.1.1 h x0.length 0 x2 (by omega)))
def aOi:dB:=⟨231,Tryz.f231,[.v (.sl fL),.v (.sl fL)],[.sl (.int .i64),.int .i64],[],[(60,S60),(59,S59),(308,bCm)],false,[]⟩
theorem bKs:FO aOi:=mo Tryz.func231 ⟨aPN,aPM,aU5,trivial⟩
def aU6 (v19:Int) (h0:List Int) (x0:List cU) (x1:List cU):eD×bG:=([eL 0 fL x0,eW 6 0,eL 17 fL x1,eI 18 (x1.length:Int),eI 19 v19],[jB (.int .i64) h0])
mutual
def aK7:Nat->List cU->List cU->List aY->Prop
 | 0,_,_,_=>False
 | n+1,x0,x1,ds=>(if (!yT x0)=true then (ds=[aP (.sl (.int .i64)) [],aP (.int .i64) 1]) else (if (!AN x1)=true then (ds=[aP (.sl (.int .i64)) [],aP (.int .i64) 1]) else (Ip n (0) ([]) (x0) (x1) ds)))
def Ip:Nat->Int->List Int->List cU->List cU->List aY->Prop
 | 0,_,_,_,_,_=>False
 | n+1,v19,h0,x0,x1,ds=>(if (decide (v19<(x1.length:Int)))=true then ((0<=v19)/\(v19<(x1.length:Int))/\((aOh x0 (aD x1 (aE v19) (0,0,0,())) 1)/\(if (decide (WA x0 (aD x1 (aE v19) (0,0,0,())) 1>0))=true then (((aN h0+1)*8<=140737488355328)/\((cC .i64 (v19+1))/\(Ip n (v19+1) (h0++[v19]) (x0) (x1) ds))) else ((cC .i64 (v19+1))/\(Ip n (v19+1) (h0) (x0) (x1) ds))))) else (ds=[aP (.sl (.int .i64)) h0,aP (.int .i64) 0]))
end
theorem aU7 (ds:List aY) (K:jK) (q:Nat->Value):∀ n,(∀ {x0 x1},aK7 n x0 x1 ds->St aOi (x0,x1,()) ds [] K q)/\(∀ {v19 h0 x0 x1},Ip n v19 h0 x0 x1 ds->Cu aOi 5 (aU6 v19 h0 x0 x1) ds [] K q):=by
 intro n
 induction n with
 | zero=>exact ⟨λh=>h.elim,λh=>h.elim⟩
 | succ n ih =>
 obtain ⟨i,i5⟩:=ih;exact ⟨λh=>tv<|bR h (λh=>tT<|rh h) λh=>tv<|bR h (λh=>rh h) λh=>jn [(6,.int .i64)] (i5 h),
  λh=>bR h (λh=>c2 h λh=>c1 h λh=>bR h (λh=>c1 h λh=>c1 h λh=>jn [(6,.int .i64)] (i5 h)) λh=>c1 h λh=>jn [(6,.int .i64)] (i5 h)) λh=>rh h⟩
abbrev N8:=Int×Int×Int×Unit
def Gn (x0:List N8):List N8->Nat->List Int
 | [],_=>[]
 | h :: r,i=>if decide (WA x0 h 1>0)=true then (i:Int) :: Gn x0 r (i+1) else Gn x0 r (i+1)
def Hj (x0 x1:List N8):Bool:=yT x0&&AN x1
def WB (x0 x1:List N8):List Int:=if Hj x0 x1=true then Gn x0 x1 0 else []
def WC (x0 x1:List N8):Int:=if Hj x0 x1=true then 0 else 1
def aOj (x0 x1:List N8):Prop:=Hj x0 x1=true->x1.length<=1000000/\∀ h∈x1,aOh x0 h 1
theorem aU8 (x0 x1:List N8) (hl:x1.length<=1000000) (hp:∀ h∈x1,aOh x0 h 1):∀ (k i:Nat) (h0:List Int),i+k=x1.length->h0.length<=i->Ip (k+1) (i:Int) h0 x0 x1 [⟨.sl (.int .i64),h0++Gn x0 (x1.drop i) i⟩,⟨.int .i64,0⟩]:=by
 intro k
 induction k with
 | zero =>
  intro i h0 hi hh;rw [Ip,if_neg (by simp only [decide_eq_true_eq];omega),dS (by omega),Gn,c6]
 | succ k ih =>
  intro i h0 hi hh;have hlt:i<x1.length:=by omega
  have e3:(i:Int)+1=((i+1:Nat):Int):=by omega
  have hx:=hp _ (dN x1 i (0,0,0,()) hlt);rw [Ip,if_pos (by simp only [decide_eq_true_eq];omega),eH x1 i (0,0,0,()) hlt,Gn,e3,aF];generalize x1.getD i (0,0,0,())=l at *;refine ⟨by omega,by omega,hx,?_⟩;by_cases c:decide (WA x0 l 1>0)=true
  ·have:=ih (i+1) (h0++[(i:Int)]) (by omega) (by rw [aO,cP];omega);refine (if_pos c).mpr ⟨by omega,by rw [aK];omega,?_⟩;rw [if_pos c];rw [bS] at this;exact this
  ·refine (if_neg c).mpr ⟨by rw [aK];omega,?_⟩;rw [if_neg c];exact ih (i+1) h0 (by omega) (by omega)
theorem aU9 (x0 x1:List N8) (h:aOj x0 x1):∃ n,aK7 n x0 x1 [⟨.sl (.int .i64),WB x0 x1⟩,⟨.int .i64,WC x0 x1⟩]:=by
 unfold WB WC;by_cases c1:yT x0=true
 ·by_cases c2:AN x1=true
  ·have e:Hj x0 x1=true:=by unfold Hj;rw [c1,c2];rfl
   obtain ⟨p1,p2⟩:=h e;refine ⟨x1.length+1+1,?_⟩;rw [aK7,if_neg (by rw [c1];decide),if_neg (by rw [c2];decide),if_pos e,if_pos e];exact aU8 x0 x1 p1 p2 x1.length 0 [] (by omega) (bW _)
  ·have e:¬ Hj x0 x1=true:=by unfold Hj;rw [BE c2,Bool.and_false];decide
   exact ⟨1,by rw [aK7,if_neg (by rw [c1];decide),if_pos (by rw [BE c2];rfl),if_neg e,if_neg e]⟩
 ·have e:¬ Hj x0 x1=true:=by unfold Hj;rw [BE c1,Bool.false_and];decide
  exact ⟨1,by rw [aK7,if_pos (by rw [BE c1];rfl),if_neg e,if_neg e]⟩
def bCn:=dR aOi (λ⟨x0,x1,_⟩=>aOj x0 x1) λ⟨x0,x1,_⟩=>[⟨.sl (.int .i64),WB x0 x1⟩,⟨.int .i64,WC x0 x1⟩]
theorem aUA:c7 231 bCn:=dF bKs (λ⟨x0,x1,_⟩ h hwf K q =>
 let ⟨n,hn⟩:=aU9 x0 x1 h
 (aU7 _ K q n).1 hn)
def bCo:dB:=⟨310,Tryz.f310,[.v (.int .i64),.v (.int .i64)],[.bool],[],[(183,aR0)],false,[]⟩
theorem bKt:FO bCo:=mo Tryz.func310 ⟨aIX,trivial⟩
def bKu (x0:Int) (x1:Int):Prop:=True
def Da (x0:Int) (x1:Int):Bool:=(if (DV x0)=true then (if (DV x1)=true then decide (x0<=x1) else false) else false)
def bCp:=dR bCo (λ⟨x0,x1,_⟩=>bKu x0 x1) λ⟨x0,x1,_⟩=>[⟨.bool,Da x0 x1⟩]
theorem aUB:c7 310 bCp:=dF bKt λ⟨x0,x1,_⟩ h _ K q=>tv<|e1 (tv<|e1 (rt) (rt)) (tF<|rt)
def bCq:dB:=⟨309,Tryz.f309,[.v (.sl fP),.v (.bool)],[.int .i64],[],[(63,S63)],false,[]⟩
theorem bKv:FO bCq:=mo Tryz.func309 ⟨aPO,trivial⟩
def bKw (x0:List bX) (x1:Bool):Prop:=True
def Db (x0:List bX) (x1:Bool):Int:=(if (!rR x0)=true then 1 else (if (!x1)=true then 2 else 0))
def bCr:=dR bCq (λ⟨x0,x1,_⟩=>bKw x0 x1) λ⟨x0,x1,_⟩=>[⟨.int .i64,Db x0 x1⟩]
theorem aUC:c7 309 bCr:=dF bKv λ⟨x0,x1,_⟩ h _ K q=>tv<|e1 (rt) (e1 (rt) (rt))
end
def Bu (m:Int):Nat->List bX->List Int
 | _,[]=>[]
 | i,x :: l=>if x.2.1<=m/\m<x.2.2.1 then (i:Int) :: Bu m (i+1) l else Bu m (i+1) l
def sC (x0:List bX) (k:Nat):ByteArray×Int×Int×Unit:=x0.getD k (aC,(0:Int),(0:Int),())
theorem aFg (x:ByteArray×Int×Int×Unit) (l:List bX) (k:Nat):sC (x :: l) (k+1)=sC l k:=by
 simp [sC,bL]
theorem KZ {m:Int}:∀ {l:List bX} {i:Nat} {v:Int},v∈Bu m i l↔∃ k:Nat,k<l.length/\v=((i+k:Nat):Int)/\(sC l k).2.1<=m/\m<(sC l k).2.2.1
 | [],i,v=>by simp [Bu]
 | x :: l,i,v=>by
  have key:v∈Bu m (i+1) l↔∃ k:Nat,k+1<(x :: l).length/\v=((i+(k+1):Nat):Int)/\(sC (x :: l) (k+1)).2.1<=m/\m<(sC (x :: l) (k+1)).2.2.1:=by
   rw [KZ];constructor
   ·rintro ⟨k,h1,h2,h3⟩;exact ⟨k,by simpa using h1,by rw [h2];omega,by rw [aFg];exact h3⟩
   ·rintro ⟨k,h1,h2,h3⟩;exact ⟨k,by simpa using h1,by rw [h2];omega,by rw [aFg] at h3;exact h3⟩
  unfold Bu;by_cases hx:x.2.1<=m/\m<x.2.2.1
  ·rw [if_pos hx,aR,key];constructor
   ·rintro (rfl | ⟨k,h⟩)
    ·exact ⟨0,by simp,rfl,hx⟩
    ·exact ⟨k+1,h⟩
   ·rintro ⟨k,h1,h2,h3⟩;cases k with
    | zero=>exact .inl (by simpa using h2)
    | succ k=>exact .inr ⟨k,h1,h2,h3⟩
  ·rw [if_neg hx,key];constructor
   ·rintro ⟨k,h⟩;exact ⟨k+1,h⟩
   ·rintro ⟨k,h1,h2,h3⟩;cases k with
    | zero=>exact absurd h3 hx
    | succ k=>exact ⟨k,h1,h2,h3⟩
theorem aFh (m:Int):∀ (l:List bX) (i:Nat),(Bu m i l).length<=l.length
 | [],i=>aT _
 | x :: l,i=>by
  unfold Bu;have:=aFh m l (i+1);split
  ·simp;omega
  ·simp;omega
def mQ (x0:List bX) (b:Int) (l:List Int):Int:=l.foldl (λb k=>if b<0\/(sC x0 b.toNat).2.2.1<(sC x0 k.toNat).2.2.1 then k else b) b
theorem WD (x0:List bX):∀ (l:List Int) (b:Int),(∀ k∈l,0<=k)->0<=b->(mQ x0 b l=b\/mQ x0 b l∈l)/\(sC x0 b.toNat).2.2.1<=(sC x0 (mQ x0 b l).toNat).2.2.1/\∀ k∈l,(sC x0 k.toNat).2.2.1<=(sC x0 (mQ x0 b l).toNat).2.2.1
 | [],b,_,hb=>⟨.inl rfl,gA _,λk hk=>by cases hk⟩
 | k :: l,b,h,hb=>by
  have hk:0<=k:=h k (aQ ..);have hl:∀ k∈l,0<=k:=λk hk=>h k (aM _ hk);by_cases hc:b<0\/(sC x0 b.toNat).2.2.1<(sC x0 k.toNat).2.2.1
  ·have e:mQ x0 b (k :: l)=mQ x0 k l:=by
    unfold mQ;rw [dY,if_pos hc]
   rw [e];obtain ⟨h1,h2,h3⟩:=WD x0 l k hl hk;refine ⟨.inr ?_,?_,λj hj => ?_⟩
   ·rcases h1 with h1 | h1
    ·rw [h1];exact aQ ..
    ·exact aM _ h1
   ·rcases hc with hc | hc <;> omega
   ·rcases aR.1 hj with rfl | hj
    ·exact h2
    ·exact h3 j hj
  ·have e:mQ x0 b (k :: l)=mQ x0 b l:=by
    unfold mQ;rw [dY,if_neg hc]
   rw [e];obtain ⟨h1,h2,h3⟩:=WD x0 l b hl hb;refine ⟨h1.imp id (aM _),h2,λj hj => ?_⟩;rcases aR.1 hj with rfl | hj
   ·omega
   ·exact h3 j hj
theorem aDo (x0:List bX) (l:List Int) (h:∀ k∈l,0<=k):(l=[]/\mQ x0 (-1) l = -1)\/(mQ x0 (-1) l∈l/\∀ k∈l,(sC x0 k.toNat).2.2.1<=(sC x0 (mQ x0 (-1) l).toNat).2.2.1):=by
 cases l with
 | nil=>exact .inl ⟨rfl,rfl⟩
 | cons k l =>
  have e:mQ x0 (-1) (k :: l)=mQ x0 k l:=by
   unfold mQ;rw [dY,if_pos (.inl (by decide))]
  rw [e];obtain ⟨h1,h2,h3⟩:=WD x0 l k (λk hk=>h k (aM _ hk)) (h k (aQ ..));refine .inr ⟨?_,λj hj => ?_⟩
  ·rcases h1 with h1 | h1
   ·rw [h1];exact aQ ..
   ·exact aM _ h1
  ·rcases aR.1 hj with rfl | hj
   ·exact h2
   ·exact h3 j hj
def OJ (x0:List bX) (e:Int):Nat->Int->Option (List Int)
 | 0,_=>some []
 | n+1,m=>if m<e then (if mQ x0 (-1) (Bu m 0 x0)<0 then none else (OJ x0 e n (sC x0 (mQ x0 (-1) (Bu m 0 x0)).toNat).2.2.1).map (mQ x0 (-1) (Bu m 0 x0) :: ·)) else some []
theorem aOk (x0:List bX) (m:Int) (h:¬ mQ x0 (-1) (Bu m 0 x0)<0):∃ b:Nat,mQ x0 (-1) (Bu m 0 x0)=(b:Int)/\b<x0.length/\(sC x0 b).2.1<=m/\m<(sC x0 b).2.2.1/\∀ k:Nat,k<x0.length->(sC x0 k).2.1<=m->(sC x0 k).2.2.1<=(sC x0 b).2.2.1:=by
 have hn:∀ k∈Bu m 0 x0,0<=k:=λk hk=>by
  obtain ⟨j,_,rfl,_⟩:=KZ.1 hk;omega
 rcases aDo x0 _ hn with ⟨_,h2⟩ | ⟨h1,h2⟩
 ·rw [h2] at h;exact absurd (by decide) h
 ·obtain ⟨b,hb,he,h3,h4⟩:=KZ.1 h1;rw [cV] at he;refine ⟨b,he,hb,h3,h4,λk hk hf => ?_⟩;rw [he] at h2;simp only [aF] at h2;by_cases hm:m<(sC x0 k).2.2.1
  ·have:=h2 (k:Int) (KZ.2 ⟨k,hk,by simp,hf,hm⟩);simpa using this
  ·omega
noncomputable section
def aOl:dB:=⟨311,Tryz.f311,[.v (.sl fP),.v (.int .i64)],[.sl (.int .i64)],[],[],false,[]⟩
theorem bKx:FO aOl:=mo Tryz.func311 trivial
def aUD (v10:Int) (h0:List Int) (x1:Int) (x0:List bX):eD×bG:=([eI 1 x1,eW 5 0,eL 8 fP x0,eI 9 (x0.length:Int),eI 10 v10],[jB (.int .i64) h0])
mutual
def aUE:Nat->List bX->Int->List aY->Prop
 | 0,_,_,_=>False
 | n+1,x0,x1,ds=>(Fu n (0) ([]) (x1) (x0) ds)
def Fu:Nat->Int->List Int->Int->List bX->List aY->Prop
 | 0,_,_,_,_,_=>False
 | n+1,v10,h0,x1,x0,ds=>(if (decide (v10<(x0.length:Int)))=true then ((0<=v10)/\(v10<(x0.length:Int))/\(if (decide ((aD x0 (aE v10) (aC,0,0,())).2.1<=x1))=true then (if (decide (x1<(aD x0 (aE v10) (aC,0,0,())).2.2.1))=true then (((aN h0+1)*8<=140737488355328)/\((cC .i64 (v10+1))/\(Fu n (v10+1) (h0++[v10]) (x1) (x0) ds))) else ((cC .i64 (v10+1))/\(Fu n (v10+1) (h0) (x1) (x0) ds))) else ((cC .i64 (v10+1))/\(Fu n (v10+1) (h0) (x1) (x0) ds)))) else (ds=[aP (.sl (.int .i64)) h0]))
end
theorem aUF (ds:List aY) (K:jK) (q:Nat->Value):∀ n,(∀ {x0 x1},aUE n x0 x1 ds->St aOl (x0,x1,()) ds [] K q)/\(∀ {v10 h0 x1 x0},Fu n v10 h0 x1 x0 ds->Cu aOl 3 (aUD v10 h0 x1 x0) ds [] K q):=by
 intro n
 induction n with
 | zero=>exact ⟨λh=>h.elim,λh=>h.elim⟩
 | succ n ih =>
 obtain ⟨i,i3⟩:=ih;exact ⟨λh=>jn [(5,.int .i64)] (i3 h),
  λh=>bR h (λh=>c2 h λh=>bR h (λh=>bR h (λh=>c1 h λh=>c1 h λh=>jn [(5,.int .i64)] (i3 h)) λh=>c1 h λh=>jn [(5,.int .i64)] (i3 h)) λh=>tF<|c1 h λh=>jn [(5,.int .i64)] (i3 h)) λh=>rh h⟩
def wR (x0:List bX) (x1:Int):List Int:=Bu x1 0 x0
def bCs (x0:List bX) (x1:Int):Prop:=x0.length<=1000
theorem aOm (x0:List bX) (x1:Int) (hl:x0.length<=1000):∀ (k i:Nat) (h:List Int),i+k=x0.length->h.length<=i->Fu (k+1) (i:Int) h x1 x0 [⟨.sl (.int .i64),h++Bu x1 i (x0.drop i)⟩]:=by
 intro k
 induction k with
 | zero =>
  intro i h hi hh;rw [Fu,if_neg (by simp only [decide_eq_true_eq];omega),dS (by omega)];simp [Bu]
 | succ k ih =>
  intro i h hi hh;have hlt:i<x0.length:=by omega
  have ii:cC .i64 ((i:Int)+1):=by rw [aK];omega
  have hn:((i:Int)+1)=((i+1:Nat):Int):=by omega
  rw [Fu,if_pos (by simp only [decide_eq_true_eq];omega)];refine ⟨by omega,by omega,?_⟩;simp only [aF,iV x0 i _ hlt];rw [List.drop_eq_getElem_cons hlt];unfold Bu;by_cases h1:x0[i].2.1<=x1
  ·rw [if_pos (by simpa using h1)];by_cases h2:x1<x0[i].2.2.1
   ·rw [if_pos (by simpa using h2),if_pos ⟨h1,h2⟩];refine ⟨by omega,ii,?_⟩;have:=ih (i+1) (h++[(i:Int)]) (by omega) (by simp;omega);rw [hn];simpa using this
   ·rw [if_neg (by simpa using h2),if_neg (λhh=>h2 hh.2)];refine ⟨ii,?_⟩;rw [hn];exact ih (i+1) h (by omega) (by omega)
  ·rw [if_neg (by simpa using h1),if_neg (λhh=>h1 hh.1)];refine ⟨ii,?_⟩;rw [hn];exact ih (i+1) h (by omega) (by omega)
theorem aUG (x0:List bX) (x1:Int) (hl:x0.length<=1000):aUE (x0.length+1+1) x0 x1 [⟨.sl (.int .i64),wR x0 x1⟩]:=by
 rw [aUE];exact aOm x0 x1 hl x0.length 0 [] (by omega) (by simp)
def bCt:=dR aOl (λ⟨x0,x1,_⟩=>bCs x0 x1) λ⟨x0,x1,_⟩=>[⟨.sl (.int .i64),wR x0 x1⟩]
theorem aUH:c7 311 bCt:=dF bKx (λ⟨x0,x1,_⟩ h hwf K q =>
 (aUF _ K q _).1 (aUG x0 x1 h))
end
theorem aK8 {x:Int} (h:DV x=true):0<=x/\x<=1440:=by
 unfold DV cD at h;split at h
 ·rename_i h1;simp only [decide_eq_true_eq] at h h1;exact ⟨h1,h⟩
 ·cases h
theorem aOn {a b:Int} (h:Da a b=true):0<=a/\a<=1440/\0<=b/\b<=1440/\a<=b:=by
 unfold Da at h;split at h
 ·rename_i h1;split at h
  ·rename_i h2;obtain ⟨a1,a2⟩:=aK8 h1;obtain ⟨a3,a4⟩:=aK8 h2;exact ⟨a1,a2,a3,a4,of_decide_eq_true h⟩
  ·cases h
 ·cases h
theorem aDp {x0:List bX} {b:Bool} (h:Db x0 b=0):rR x0=true/\b=true:=by
 unfold Db at h;cases hv:rR x0 with
 | false =>
  rw [if_pos (by rw [hv];rfl)] at h;cases h
 | true =>
  rw [if_neg (by rw [hv];decide)] at h;cases b with
  | true=>exact ⟨rfl,rfl⟩
  | false =>
   rw [if_pos (show (!false)=true by decide)] at h;cases h
noncomputable section
def aK9:dB:=⟨232,Tryz.f232,[.v (.sl fP),.v (.int .i64),.v (.int .i64)],[.sl (.int .i64),.int .i64],[],[(310,bCp),(309,bCr),(311,bCt)],false,[]⟩
theorem bKy:FO aK9:=mo Tryz.func232 ⟨aUB,aUC,aUH,trivial⟩
def aUI (h0:List Int) (x0:List bX) (x2:Int) (x1:Int):eD×bG:=([eL 0 fP x0,eI 2 x2,eW 9 0,eI 10 x1],[jB (.int .i64) h0])
def aUJ (v11:Int) (v30:Int) (x0:List bX) (x2:Int) (x1:Int) (h0:List Int):eD×bG:=([eL 0 fP x0,eI 2 x2,eW 9 0,eI 11 v11,eW 28 1,eI 29 (↑(aN (wR x0 x1)):Int),eI 30 v30],[jB (.int .i64) h0,jB (.int .i64) (wR x0 x1)])
mutual
def aOo:Nat->List bX->Int->Int->List aY->Prop
 | 0,_,_,_,_=>False
 | n+1,x0,x1,x2,ds=>(if (Db x0 (Da x1 x2) != 0)=true then (ds=[aP (.sl (.int .i64)) [],aP (.int .i64) (Db x0 (Da x1 x2))]) else (Iq n ([]) (x0) (x2) (x1) ds))
def Iq:Nat->List Int->List bX->Int->Int->List aY->Prop
 | 0,_,_,_,_,_=>False
 | n+1,h0,x0,x2,x1,ds=>(if (decide (x1<x2))=true then ((bCs x0 x1)/\(wS n (-1) (0) (x0) (x2) (x1) (h0) ds)) else (ds=[aP (.sl (.int .i64)) h0,aP (.int .i64) 0]))
def wS:Nat->Int->Int->List bX->Int->Int->List Int->List aY->Prop
 | 0,_,_,_,_,_,_,_=>False
 | n+1,v11,v30,x0,x2,x1,h0,ds=>(if (decide (v30<(↑(aN (wR x0 x1)):Int)))=true then ((0<=v30)/\(v30<(↑(aN (wR x0 x1)):Int))/\(if (decide (v11<0))=true then ((cC .i64 (v30+1))/\(wS n (aD (wR x0 x1) (aE v30) 0) (v30+1) (x0) (x2) (x1) (h0) ds)) else ((0<=aD (wR x0 x1) (aE v30) 0)/\(aD (wR x0 x1) (aE v30) 0<(x0.length:Int))/\((0<=v11)/\(v11<(x0.length:Int))/\(if (decide ((aD x0 (aE (aD (wR x0 x1) (aE v30) 0)) (aC,0,0,())).2.2.1>(aD x0 (aE v11) (aC,0,0,())).2.2.1))=true then ((cC .i64 (v30+1))/\(wS n (aD (wR x0 x1) (aE v30) 0) (v30+1) (x0) (x2) (x1) (h0) ds)) else ((cC .i64 (v30+1))/\(wS n (v11) (v30+1) (x0) (x2) (x1) (h0) ds))))))) else (if (decide (v11<0))=true then (ds=[aP (.sl (.int .i64)) [],aP (.int .i64) 3]) else (((aN h0+1)*8<=140737488355328)/\((0<=v11)/\(v11<(x0.length:Int))/\(Iq n (h0++[v11]) (x0) (x2) (aD x0 (aE v11) (aC,0,0,())).2.2.1 ds)))))
end
theorem aUK (ds:List aY) (K:jK) (q:Nat->Value):∀ n,(∀ {x0 x1 x2},aOo n x0 x1 x2 ds->St aK9 (x0,x1,x2,()) ds [] K q)/\(∀ {h0 x0 x2 x1},Iq n h0 x0 x2 x1 ds->Cu aK9 6 (aUI h0 x0 x2 x1) ds [] K q)/\(∀ {v11 v30 x0 x2 x1 h0},wS n v11 v30 x0 x2 x1 h0 ds->Cu aK9 9 (aUJ v11 v30 x0 x2 x1 h0) ds [] K q):=by
 intro n
 induction n with
 | zero=>exact ⟨λh=>h.elim,λh=>h.elim,λh=>h.elim⟩
 | succ n ih =>
 obtain ⟨i,i6,i9⟩:=ih;exact ⟨λh=>tv<|tv<|bR h (λh=>rh h) λh=>jn [(9,.int .i64)] (i6 h),
  λh=>bR h (λh=>c1 h λh=>jp (i9 h)) λh=>rh h,
  λh=>bR h (λh=>c2 h λh=>bR h (λh=>tT<|c1 h λh=>jp (i9 h)) λh=>c2 h λh=>c2 h λh=>bR h (λh=>c1 h λh=>jp (i9 h)) λh=>c1 h λh=>jp (i9 h)) λh=>bR h (λh=>rh h) λh=>c1 h λh=>c2 h λh=>jn [(9,.int .i64)] (i6 h)⟩
def WE (x0:List bX) (x1 x2:Int):Int:=if Db x0 (Da x1 x2)≠0 then Db x0 (Da x1 x2) else match OJ x0 x2 (x2 - x1).toNat x1 with | some _=>0 | none=>3
def WF (x0:List bX) (x1 x2:Int):List Int:=if Db x0 (Da x1 x2)≠0 then [] else (OJ x0 x2 (x2 - x1).toNat x1).getD []
def bCu (x0:List bX) (x1 x2:Int):Prop:=x0.length<=1000
theorem aKA (x0:List bX) (x2 x1:Int) (h0:List Int) (hl:x0.length<=1000) (ds:List aY) (hN:∃ N,wS N (mQ x0 (-1) (Bu x1 0 x0)) ((Bu x1 0 x0).length:Int) x0 x2 x1 h0 ds) :
  ∀ (k i:Nat) (v:Int),i+k=(Bu x1 0 x0).length->(v = -1\/(0<=v/\v<(x0.length:Int)))->v=mQ x0 (-1) ((Bu x1 0 x0).take i)->∃ n,wS n v (i:Int) x0 x2 x1 h0 ds:=by
 have hll:=aFh x1 x0 0;have hall:∀ j∈Bu x1 0 x0,0<=j/\j<(x0.length:Int):=λj hj=>by
  obtain ⟨q,h1,rfl,_⟩:=KZ.1 hj;omega
 intro k
 induction k with
 | zero =>
  intro i v hi hv hb;obtain rfl:i=(Bu x1 0 x0).length:=by omega
  rw [List.take_length] at hb;rw [hb];exact hN
 | succ k ih =>
  intro i v hi hv hb;have hlt:i<(Bu x1 0 x0).length:=by omega
  have en:(i:Int)+1=((i+1:Nat):Int):=by omega
  have ii:cC .i64 ((i:Int)+1):=by rw [aK];omega
  have hj:=hall _ (List.getElem_mem hlt);have et:mQ x0 (-1) ((Bu x1 0 x0).take (i+1))=if v<0\/(sC x0 v.toNat).2.2.1<(sC x0 ((Bu x1 0 x0)[i]).toNat).2.2.1 then (Bu x1 0 x0)[i] else v:=by
   rw [gY,bC hlt];unfold mQ;rw [List.foldl_append];show (if (mQ x0 (-1) ((Bu x1 0 x0).take i))<0\/(sC x0 (mQ x0 (-1) ((Bu x1 0 x0).take i)).toNat).2.2.1<_ then _ else (mQ x0 (-1) ((Bu x1 0 x0).take i)))=_;rw [<- hb]
  have eg:wR x0 x1=Bu x1 0 x0:=rfl;by_cases hv0:v<0
  ·obtain ⟨n,hn⟩:=ih (i+1) ((Bu x1 0 x0)[i]) (by omega) (.inr hj) (by rw [et,if_pos (.inl hv0)]);refine ⟨n+1,?_⟩;rw [wS,eg,if_pos (by simp only [decide_eq_true_eq];omega)];refine ⟨by omega,by omega,?_⟩;simp only [aF,iV (Bu x1 0 x0) i _ hlt];rw [if_pos (by simpa using hv0)];refine ⟨ii,?_⟩;rw [en];exact hn
  ·by_cases hc:(sC x0 v.toNat).2.2.1<(sC x0 ((Bu x1 0 x0)[i]).toNat).2.2.1
   ·obtain ⟨n,hn⟩:=ih (i+1) ((Bu x1 0 x0)[i]) (by omega) (.inr hj) (by rw [et,if_pos (.inr hc)]);refine ⟨n+1,?_⟩;rw [wS,eg,if_pos (by simp only [decide_eq_true_eq];omega)];refine ⟨by omega,by omega,?_⟩;simp only [aF,iV (Bu x1 0 x0) i _ hlt];rw [if_neg (by simpa using hv0)];refine ⟨hj.1,hj.2,by omega,by omega,?_⟩;refine Eq.mpr (if_pos (show _=true from decide_eq_true hc)) ⟨ii,?_⟩;rw [en];exact hn
   ·obtain ⟨n,hn⟩:=ih (i+1) v (by omega) hv (by rw [et,if_neg (by rintro (h | h) <;> contradiction)]);refine ⟨n+1,?_⟩;rw [wS,eg,if_pos (by simp only [decide_eq_true_eq];omega)];refine ⟨by omega,by omega,?_⟩;simp only [aF,iV (Bu x1 0 x0) i _ hlt];rw [if_neg (by simpa using hv0)];refine ⟨hj.1,hj.2,by omega,by omega,?_⟩;refine Eq.mpr (if_neg (λh=>hc (of_decide_eq_true h))) ⟨ii,?_⟩;rw [en];exact hn
def Qo (h0:List Int):Option (List Int)->List aY
 | some l=>[⟨.sl (.int .i64),h0++l⟩,⟨.int .i64,(0:Int)⟩]
 | none=>[⟨.sl (.int .i64),([]:List Int)⟩,⟨.int .i64,(3:Int)⟩]
theorem aKB (x0:List bX) (x2:Int) (hl:x0.length<=1000):∀ (k:Nat) (x1:Int) (h0:List Int),x2 - x1<=(k:Int)->h0.length+k<=2000 ->
  ∃ n,Iq n h0 x0 x2 x1 (Qo h0 (OJ x0 x2 k x1)):=by
 intro k
 induction k with
 | zero =>
  intro x1 h0 hk hh;refine ⟨1,?_⟩;rw [Iq,if_neg (by simp only [decide_eq_true_eq];omega)];show [(⟨.sl (.int .i64),h0++([]:List Int)⟩:aY),⟨.int .i64,(0:Int)⟩]=_;rw [c6]
 | succ k ih =>
  intro x1 h0 hk hh;by_cases hm:x1<x2
  case neg =>
   refine ⟨1,?_⟩;rw [Iq,if_neg (by simpa using hm)];unfold OJ;rw [if_neg hm];show [(⟨.sl (.int .i64),h0++([]:List Int)⟩:aY),⟨.int .i64,(0:Int)⟩]=_;rw [c6]
  case pos =>
   have eg:wR x0 x1=Bu x1 0 x0:=rfl;have key:∃ N,wS N (mQ x0 (-1) (Bu x1 0 x0)) ((Bu x1 0 x0).length:Int) x0 x2 x1 h0 (Qo h0 (OJ x0 x2 (k+1) x1)):=by
    by_cases hb:mQ x0 (-1) (Bu x1 0 x0)<0
    ·refine ⟨1,?_⟩;rw [wS,eg,if_neg (by simp only [decide_eq_true_eq];omega),if_pos (by simpa using hb)];unfold OJ;rw [if_pos hm,if_pos hb];rfl
    ·obtain ⟨b,h1,h2,h3,h4,h5⟩:=aOk x0 x1 hb;obtain ⟨n,hn⟩:=ih (sC x0 b).2.2.1 (h0++[(b:Int)]) (by omega) (by rw [aO,cP];omega);refine ⟨n+1,?_⟩;rw [wS,eg,if_neg (by simp only [decide_eq_true_eq];omega),if_neg (by simpa using hb)];unfold OJ;rw [if_pos hm,if_neg hb,h1];simp only [aF];refine ⟨by omega,by omega,by omega,?_⟩;have e:Qo (h0++[(b:Int)]) (OJ x0 x2 k (sC x0 b).2.2.1)=Qo h0 ((OJ x0 x2 k (sC x0 b).2.2.1).map ((b:Int) :: ·)):=by
      cases OJ x0 x2 k (sC x0 b).2.2.1 with
      | none=>rfl
      | some l=>simp [Qo]
     rw [<- e];exact hn
   obtain ⟨n,hn⟩:=aKA x0 x2 x1 h0 hl _ key (Bu x1 0 x0).length 0 (-1) (by omega) (.inl rfl) rfl;refine ⟨n+1,?_⟩;rw [Iq,if_pos (by simpa using hm)];exact ⟨hl,hn⟩
theorem aUL (x0:List bX) (x1 x2:Int) (hl:x0.length<=1000):∃ n,aOo n x0 x1 x2 [⟨.sl (.int .i64),WF x0 x1 x2⟩,⟨.int .i64,WE x0 x1 x2⟩]:=by
 unfold WF WE;by_cases h:Db x0 (Da x1 x2)=0
 ·rw [if_neg (λhh=>hh h),if_neg (λhh=>hh h)];have hs:x2 - x1<=1440:=by
   have:=aOn (aDp h).2;omega
  obtain ⟨n,hn⟩:=aKB x0 x2 hl (x2 - x1).toNat x1 [] (by omega) (by simp;omega);refine ⟨n+1,?_⟩;rw [aOo,if_neg (by rw [h];decide)];cases hf:OJ x0 x2 (x2 - x1).toNat x1 with
  | none=>rw [hf] at hn;exact hn
  | some l=>rw [hf] at hn;exact hn
 ·rw [if_pos h,if_pos h];refine ⟨1,?_⟩;rw [aOo,if_pos (by simpa using h)]
def bCv:=dR aK9 (λ⟨x0,x1,x2,_⟩=>bCu x0 x1 x2) λ⟨x0,x1,x2,_⟩=>[⟨.sl (.int .i64),WF x0 x1 x2⟩,⟨.int .i64,WE x0 x1 x2⟩]
theorem aUM:c7 232 bCv:=dF bKy (λ⟨x0,x1,x2,_⟩ h hwf K q =>
 let ⟨n,hn⟩:=aUL x0 x1 x2 h
 (aUK _ K q n).1 hn)
def bCw:dB:=⟨313,Tryz.f313,[.v (.int .i64)],[.bool],[],[(108,p8)],false,[]⟩
theorem bKz:FO bCw:=mo Tryz.func313 ⟨iA,trivial⟩
def bK0 (x0:Int):Prop:=True
def WG (x0:Int):Bool:=cD x0 1 60
def bCx:=dR bCw (λ⟨x0,_⟩=>bK0 x0) λ⟨x0,_⟩=>[⟨.bool,WG x0⟩]
theorem aUN:c7 313 bCx:=dF bKz λ⟨x0,_⟩ h _ K q=>tv<|rt
def bCy:dB:=⟨314,Tryz.f314,[.v (.int .i64)],[.bool],[],[(108,p8)],false,[]⟩
theorem bK1:FO bCy:=mo Tryz.func314 ⟨iA,trivial⟩
def bK2 (x0:Int):Prop:=True
def Qp (x0:Int):Bool:=cD x0 1 1000
def bCz:=dR bCy (λ⟨x0,_⟩=>bK2 x0) λ⟨x0,_⟩=>[⟨.bool,Qp x0⟩]
theorem aUO:c7 314 bCz:=dF bK1 λ⟨x0,_⟩ h _ K q=>tv<|rt
def bC0:dB:=⟨312,Tryz.f312,[.v (.sl (.int .i64)),.v (.bool)],[.int .i64],[],[(128,aNy)],false,[]⟩
theorem bK3:FO bC0:=mo Tryz.func312 ⟨aCm,trivial⟩
def bK4 (x0:List Int) (x1:Bool):Prop:=True
def Af (x0:List Int) (x1:Bool):Int:=(if (!qL x0)=true then 1 else (if (!x1)=true then 2 else 0))
def bC1:=dR bC0 (λ⟨x0,x1,_⟩=>bK4 x0 x1) λ⟨x0,x1,_⟩=>[⟨.int .i64,Af x0 x1⟩]
theorem aUP:c7 312 bC1:=dF bK3 λ⟨x0,x1,_⟩ h _ K q=>tv<|e1 (rt) (e1 (rt) (rt))
def aOp:dB:=⟨315,Tryz.f315,[.v (.sl (.int .i64)),.v (.int .i64),.v (.int .i64),.v (.int .i64)],[.sl (.int .i64)],[],[],false,[]⟩
theorem bK5:FO aOp:=mo Tryz.func315 trivial
def aUQ (v10:Int) (v16:Int) (h0:List Int) (x1:Int) (x2:Int) (x3:Int) (x0:List Int):eD×bG:=([eI 1 x1,eI 2 x2,eI 3 x3,eW 9 0,eI 10 v10,eL 14 (.int .i64) x0,eI 15 (x0.length:Int),eI 16 v16],[jB (.int .i64) h0])
mutual
def bC2:Nat->List Int->Int->Int->Int->List aY->Prop
 | 0,_,_,_,_,_=>False
 | n+1,x0,x1,x2,x3,ds=>(Bv n (0) (0) ([]) (x1) (x2) (x3) (x0) ds)
def Bv:Nat->Int->Int->List Int->Int->Int->Int->List Int->List aY->Prop
 | 0,_,_,_,_,_,_,_,_=>False
 | n+1,v10,v16,h0,x1,x2,x3,x0,ds=>(if (decide (v16<(x0.length:Int)))=true then ((0<=v16)/\(v16<(x0.length:Int))/\((cC .i64 (v16+1))/\((cC .i64 (v10+aD x0 (aE v16) 0))/\((x1≠0)/\(cC .i64 (c8 (v16+1) x1))/\(if (c8 (v16+1) x1==0)=true then ((cC .i64 (v10+aD x0 (aE v16) 0 - if x2<v10+aD x0 (aE v16) 0 then x2 else v10+aD x0 (aE v16) 0))/\(if (v16+1==x3)=true then ((cC .i64 ((v10+aD x0 (aE v16) 0 - if x2<v10+aD x0 (aE v16) 0 then x2 else v10+aD x0 (aE v16) 0) - if x2<v10+aD x0 (aE v16) 0 - if x2<v10+aD x0 (aE v16) 0 then x2 else v10+aD x0 (aE v16) 0 then x2 else v10+aD x0 (aE v16) 0 - if x2<v10+aD x0 (aE v16) 0 then x2 else v10+aD x0 (aE v16) 0))/\(((aN h0+1)*8<=140737488355328)/\((cC .i64 (v16+1))/\(Bv n ((v10+aD x0 (aE v16) 0 - if x2<v10+aD x0 (aE v16) 0 then x2 else v10+aD x0 (aE v16) 0) - if x2<v10+aD x0 (aE v16) 0 - if x2<v10+aD x0 (aE v16) 0 then x2 else v10+aD x0 (aE v16) 0 then x2 else v10+aD x0 (aE v16) 0 - if x2<v10+aD x0 (aE v16) 0 then x2 else v10+aD x0 (aE v16) 0) (v16+1) (h0++[(v10+aD x0 (aE v16) 0 - if x2<v10+aD x0 (aE v16) 0 then x2 else v10+aD x0 (aE v16) 0) - if x2<v10+aD x0 (aE v16) 0 - if x2<v10+aD x0 (aE v16) 0 then x2 else v10+aD x0 (aE v16) 0 then x2 else v10+aD x0 (aE v16) 0 - if x2<v10+aD x0 (aE v16) 0 then x2 else v10+aD x0 (aE v16) 0]) (x1) (x2) (x3) (x0) ds)))) else (((aN h0+1)*8<=140737488355328)/\((cC .i64 (v16+1))/\(Bv n (v10+aD x0 (aE v16) 0 - if x2<v10+aD x0 (aE v16) 0 then x2 else v10+aD x0 (aE v16) 0) (v16+1) (h0++[v10+aD x0 (aE v16) 0 - if x2<v10+aD x0 (aE v16) 0 then x2 else v10+aD x0 (aE v16) 0]) (x1) (x2) (x3) (x0) ds))))) else (if (v16+1==x3)=true then ((cC .i64 (v10+aD x0 (aE v16) 0 - if x2<v10+aD x0 (aE v16) 0 then x2 else v10+aD x0 (aE v16) 0))/\(((aN h0+1)*8<=140737488355328)/\((cC .i64 (v16+1))/\(Bv n (v10+aD x0 (aE v16) 0 - if x2<v10+aD x0 (aE v16) 0 then x2 else v10+aD x0 (aE v16) 0) (v16+1) (h0++[v10+aD x0 (aE v16) 0 - if x2<v10+aD x0 (aE v16) 0 then x2 else v10+aD x0 (aE v16) 0]) (x1) (x2) (x3) (x0) ds)))) else (((aN h0+1)*8<=140737488355328)/\((cC .i64 (v16+1))/\(Bv n (v10+aD x0 (aE v16) 0) (v16+1) (h0++[v10+aD x0 (aE v16) 0]) (x1) (x2) (x3) (x0) ds))))))))) else (ds=[aP (.sl (.int .i64)) h0]))
end
theorem aUR (ds:List aY) (K:jK) (q:Nat->Value):∀ n,(∀ {x0 x1 x2 x3},bC2 n x0 x1 x2 x3 ds->St aOp (x0,x1,x2,x3,()) ds [] K q)/\(∀ {v10 v16 h0 x1 x2 x3 x0},Bv n v10 v16 h0 x1 x2 x3 x0 ds->Cu aOp 4 (aUQ v10 v16 h0 x1 x2 x3 x0) ds [] K q):=by
 intro n
 induction n with
 | zero=>exact ⟨λh=>h.elim,λh=>h.elim⟩
 | succ n ih =>
 obtain ⟨i,i4⟩:=ih;exact ⟨λh=>jn [(9,.int .i64)] (i4 h),
  λh=>bR h (λh=>c2 h λh=>c1 h λh=>c1 h λh=>c2 h λh=>bR h (λh=>c1 h λh=>bR h (λh=>c1 h λh=>c1 h λh=>c1 h λh=>jn [(9,.int .i64)] (i4 h)) λh=>c1 h λh=>c1 h λh=>jn [(9,.int .i64)] (i4 h)) λh=>bR h (λh=>c1 h λh=>c1 h λh=>c1 h λh=>jn [(9,.int .i64)] (i4 h)) λh=>c1 h λh=>c1 h λh=>jn [(9,.int .i64)] (i4 h)) λh=>rh h⟩
def Ag (x2 w:Int):Int:=w - if x2<w then x2 else w
def UE (x1 x2 x3:Int) (i:Nat) (w x:Int):Int:=if (c8 ((i:Int)+1) x1==0)=true then (if ((i:Int)+1==x3)=true then Ag x2 (Ag x2 (w+x)) else Ag x2 (w+x)) else if ((i:Int)+1==x3)=true then Ag x2 (w+x) else w+x
def M8 (x1 x2 x3:Int):List Int->Nat->Int->List Int
 | [],_,_=>[]
 | x :: r,i,w=>UE x1 x2 x3 i w x :: M8 x1 x2 x3 r (i+1) (UE x1 x2 x3 i w x)
def aDq (x0:List Int) (x1 x2 x3:Int):List Int:=M8 x1 x2 x3 x0 0 0
def aOq (x0:List Int) (x1 x2 x3:Int):Prop:=(1<=x1/\x1<=1000000)/\0<=x2/\x0.length<=1000/\∀ x∈x0,0<=x/\x<=1000
theorem Ze {x2 w:Int} (h:0<=x2) (hw:0<=w):0<=Ag x2 w/\Ag x2 w<=w:=by
 unfold Ag;split <;> omega
theorem aUS (x0:List Int) (x1 x2 x3:Int) (h:aOq x0 x1 x2 x3):∀ (k i:Nat) (w:Int) (h0:List Int),i+k=x0.length->0<=w->w<=1000*(i:Int)->h0.length<=i->Bv (k+1) w (i:Int) h0 x1 x2 x3 x0 [⟨.sl (.int .i64),h0++M8 x1 x2 x3 (x0.drop i) i w⟩]:=by
 obtain ⟨⟨p1,p1'⟩,p2,p3,p4⟩:=h;intro k
 induction k with
 | zero =>
  intro i w h0 hi h1 h2 hl;rw [Bv,if_neg (by simp only [decide_eq_true_eq];omega),dS (by omega),M8,c6]
 | succ k ih =>
  intro i w h0 hi h1 h2 hl;have hlt:i<x0.length:=by omega
  have e3:(i:Int)+1=((i+1:Nat):Int):=by omega
  have hx:=p4 _ (dN x0 i 0 hlt);have t1:=Int.tmod_nonneg (a:=(i:Int)+1) x1 (by omega);have t2:=Int.tmod_lt_of_pos ((i:Int)+1) (show 0<x1 by omega);rw [eH x0 i 0 hlt,M8,Bv,if_pos (by simp only [decide_eq_true_eq];omega),aF];generalize x0.getD i 0=x at *;obtain ⟨d1,d2⟩:=Ze p2 (show 0<=w+x by omega);obtain ⟨d3,d4⟩:=Ze p2 d1;have step:∀ w',UE x1 x2 x3 i w x=w'->0<=w'->w'<=w+x->(h0.length+1)*8<=140737488355328/\cC .i64 ((i:Int)+1)/\Bv (k+1) w' ((i:Int)+1) (h0++[w']) x1 x2 x3 x0 [⟨.sl (.int .i64),h0++UE x1 x2 x3 i w x :: M8 x1 x2 x3 (x0.drop (i+1)) (i+1) (UE x1 x2 x3 i w x)⟩]:=λw' e a b=>by
   have:=ih (i+1) w' (h0++[w']) (by omega) a (by omega) (by rw [aO,cP];omega);rw [bS] at this;rw [e,e3];exact ⟨by omega,by rw [aK];omega,this⟩
  have hn:UE x1 x2 x3 i w x=if (c8 ((i:Int)+1) x1==0)=true then (if ((i:Int)+1==x3)=true then Ag x2 (Ag x2 (w+x)) else Ag x2 (w+x)) else if ((i:Int)+1==x3)=true then Ag x2 (w+x) else w+x:=rfl
  refine ⟨by omega,by omega,by rw [aK];omega,by rw [aK];omega,by omega,by rw [aK];omega,?_⟩;by_cases c:(c8 ((i:Int)+1) x1==0)=true
  ·rw [if_pos c] at hn;refine (if_pos c).mpr ⟨show cC .i64 (Ag x2 (w+x)) by rw [aK];omega,?_⟩;by_cases d:((i:Int)+1==x3)=true
   ·rw [if_pos d] at hn;exact (if_pos d).mpr ⟨show cC .i64 (Ag x2 (Ag x2 (w+x))) by rw [aK];omega,step _ hn d3 (by omega)⟩
   ·rw [if_neg d] at hn;exact (if_neg d).mpr (step _ hn d1 d2)
  ·rw [if_neg c] at hn;refine (if_neg c).mpr ?_;by_cases d:((i:Int)+1==x3)=true
   ·rw [if_pos d] at hn;exact (if_pos d).mpr ⟨show cC .i64 (Ag x2 (w+x)) by rw [aK];omega,step _ hn d1 d2⟩
   ·rw [if_neg d] at hn;exact (if_neg d).mpr (step _ hn (by omega) (gA _))
def bC3:=dR aOp (λ⟨x0,x1,x2,x3,_⟩=>aOq x0 x1 x2 x3) λ⟨x0,x1,x2,x3,_⟩=>[⟨.sl (.int .i64),aDq x0 x1 x2 x3⟩]
theorem aUT:c7 315 bC3:=dF bK5 (λ⟨x0,x1,x2,x3,_⟩ h hwf K q =>
 (aUR _ K q ((x0.length+2))).1 (by rw [bC2];exact aUS x0 x1 x2 x3 h x0.length 0 0 [] (by omega) (gA _) (by omega) (bW _)))
def bC4:dB:=⟨233,Tryz.f233,[.v (.sl (.int .i64)),.v (.int .i64),.v (.int .i64)],[.sl (.int .i64),.int .i64],[],[(313,bCx),(314,bCz),(312,bC1),(315,bC3)],false,[]⟩
theorem bK6:FO bC4:=mo Tryz.func233 ⟨aUN,aUO,aUP,aUT,trivial⟩
def aOr (x0:List Int) (x1:Int) (x2:Int):Prop:=(if (WG x1)=true then (if (Af x0 (Qp x2) != 0)=true then True else ((aOq x0 x1 x2 0)/\True)) else (if (Af x0 false != 0)=true then True else ((aOq x0 x1 x2 0)/\True)))
def aKC (x0:List Int) (x1:Int) (x2:Int):List Int:=(if (WG x1)=true then (if (Af x0 (Qp x2) != 0)=true then [] else aDq x0 x1 x2 0) else (if (Af x0 false != 0)=true then [] else aDq x0 x1 x2 0))
def aKD (x0:List Int) (x1:Int) (x2:Int):Int:=(if (WG x1)=true then (if (Af x0 (Qp x2) != 0)=true then Af x0 (Qp x2) else 0) else (if (Af x0 false != 0)=true then Af x0 false else 0))
def bC5:=dR bC4 (λ⟨x0,x1,x2,_⟩=>aOr x0 x1 x2) λ⟨x0,x1,x2,_⟩=>[⟨.sl (.int .i64),aKC x0 x1 x2⟩,⟨.int .i64,aKD x0 x1 x2⟩]
theorem aUU:c7 233 bC5:=dF bK6 λ⟨x0,x1,x2,_⟩ h _ K q=>tv<|o3 h (λh=>tv<|tv<|o3 h (λh=>rt) λh=>c1 h λh=>rt) λh=>tv<|o3 h (λh=>rt) λh=>c1 h λh=>rt
def bC6:dB:=⟨316,Tryz.f316,[.v (.sl fP),.v (.sl fP)],[.int .i64],[],[(67,S67),(68,S68)],false,[]⟩
theorem bK7:FO bC6:=mo Tryz.func316 ⟨aPQ,aPR,trivial⟩
def bK8 (x0:List bX) (x1:List bX):Prop:=True
def Qq (x0:List bX) (x1:List bX):Int:=(if (!xV x0)=true then 1 else (if (!xW x1)=true then 1 else 0))
def bC7:=dR bC6 (λ⟨x0,x1,_⟩=>bK8 x0 x1) λ⟨x0,x1,_⟩=>[⟨.int .i64,Qq x0 x1⟩]
theorem aUV:c7 316 bC7:=dF bK7 λ⟨x0,x1,_⟩ h _ K q=>tv<|e1 (tT<|rt) (tv<|e1 (rt) (rt))
def bC8:dB:=⟨397,Tryz.f397,[.v fP,.v fP],[.bool],[],[],false,[]⟩
theorem bK9:FO bC8:=mo Tryz.func397 trivial
def bKA (x0:ByteArray×Int×Int×Unit) (x1:ByteArray×Int×Int×Unit):Prop:=True
def WH (x0:ByteArray×Int×Int×Unit) (x1:ByteArray×Int×Int×Unit):Bool:=(if (bD cN (↑(j3 (dX 64 x1.2.1 &&& ~~~dX 64 x0.2.1)):Int)==0)=true then decide (x0.2.2.1<=x1.2.2.1) else false)
def bC9:=dR bC8 (λ⟨x0,x1,_⟩=>bKA x0 x1) λ⟨x0,x1,_⟩=>[⟨.bool,WH x0 x1⟩]
theorem aUW:c7 397 bC9:=dF bK9 λ⟨x0,x1,_⟩ h _ K q=>e1 (rt) (rt)
def aOs:dB:=⟨365,Tryz.f365,[.v (.sl fP),.v fP],[.sl (.int .i64)],[],[(397,bC9)],false,[]⟩
theorem bKB:FO aOs:=mo Tryz.func365 ⟨aUW,trivial⟩
def aUX (v10:Int) (h1:List Int) (x0:List bX) (x1:ByteArray×Int×Int×Unit):eD×bG:=([eO 3 0 0 [],eW 5 1,eL 8 fP x0,eI 9 (x0.length:Int),eI 10 v10],[some (fY fP [x1] true none (some false)),jB (.int .i64) h1])
mutual
def bCA:Nat->List bX->ByteArray×Int×Int×Unit->List aY->Prop
 | 0,_,_,_=>False
 | n+1,x0,x1,ds=>(Ir n (0) ([]) (x0) (x1) ds)
def Ir:Nat->Int->List Int->List bX->ByteArray×Int×Int×Unit->List aY->Prop
 | 0,_,_,_,_,_=>False
 | n+1,v10,h1,x0,x1,ds=>(if (decide (v10<(x0.length:Int)))=true then ((0<=v10)/\(v10<(x0.length:Int))/\(if (WH (aD x0 (aE v10) (aC,0,0,())) x1)=true then (((aN h1+1)*8<=140737488355328)/\((cC .i64 (v10+1))/\(Ir n (v10+1) (h1++[v10]) (x0) (x1) ds))) else ((cC .i64 (v10+1))/\(Ir n (v10+1) (h1) (x0) (x1) ds)))) else (ds=[aP (.sl (.int .i64)) h1]))
end
theorem aUY (ds:List aY) (K:jK) (q:Nat->Value):∀ n,(∀ {x0 x1},bCA n x0 x1 ds->St aOs (x0,x1,()) ds [] K q)/\(∀ {v10 h1 x0 x1},Ir n v10 h1 x0 x1 ds->Cu aOs 3 (aUX v10 h1 x0 x1) ds [] K q):=by
 intro n
 induction n with
 | zero=>exact ⟨λh=>h.elim,λh=>h.elim⟩
 | succ n ih =>
 obtain ⟨i,i3⟩:=ih;exact ⟨λh=>jn [(5,.int .i64)] (i3 h),
  λh=>bR h (λh=>c2 h λh=>tv<|bR h (λh=>c1 h λh=>c1 h λh=>jn [(5,.int .i64)] (i3 h)) λh=>c1 h λh=>jn [(5,.int .i64)] (i3 h)) λh=>rh h⟩
abbrev N9:=ByteArray×Int×Int×Unit
def y8 (x1:N9):List N9->Nat->List Int
 | [],_=>[]
 | h :: r,i=>if WH h x1=true then (i:Int) :: y8 x1 r (i+1) else y8 x1 r (i+1)
def qU (x0:List N9) (x1:N9):List Int:=y8 x1 x0 0
def bCB (x0:List N9) (x1:N9):Prop:=x0.length<=1000000
theorem aUZ (x0:List N9) (x1:N9) (hl:x0.length<=1000000):∀ (k i:Nat) (h1:List Int),i+k=x0.length->h1.length<=i->Ir (k+1) (i:Int) h1 x0 x1 [⟨.sl (.int .i64),h1++y8 x1 (x0.drop i) i⟩]:=by
 intro k
 induction k with
 | zero =>
  intro i h1 hi hh;rw [Ir,if_neg (by simp only [decide_eq_true_eq];omega),dS (by omega),y8,c6]
 | succ k ih =>
  intro i h1 hi hh;have hlt:i<x0.length:=by omega
  have e3:(i:Int)+1=((i+1:Nat):Int):=by omega
  rw [Ir,if_pos (by simp only [decide_eq_true_eq];omega),eH x0 i (aC,0,0,()) hlt,y8,e3,aF];generalize x0.getD i (aC,0,0,())=l at *;refine ⟨by omega,by omega,?_⟩;by_cases c:WH l x1=true
  ·have:=ih (i+1) (h1++[(i:Int)]) (by omega) (by rw [aO,cP];omega);refine (if_pos c).mpr ⟨by omega,by rw [aK];omega,?_⟩;rw [if_pos c];rw [bS] at this;exact this
  ·refine (if_neg c).mpr ⟨by rw [aK];omega,?_⟩;rw [if_neg c];exact ih (i+1) h1 (by omega) (by omega)
def bCC:=dR aOs (λ⟨x0,x1,_⟩=>bCB x0 x1) λ⟨x0,x1,_⟩=>[⟨.sl (.int .i64),qU x0 x1⟩]
theorem aVa:c7 365 bCC:=dF bKB (λ⟨x0,x1,_⟩ h hwf K q =>
 (aUY _ K q ((x0.length+2))).1 (by rw [bCA];exact aUZ x0 x1 h x0.length 0 [] (by omega) (bW _)))
def aOt:dB:=⟨398,Tryz.f398,[.v (.sl (.int .i64)),.v (.int .i64)],[.int .i64],[],[],false,[]⟩
theorem bKC:FO aOt:=mo Tryz.func398 trivial
def aVb (v8:Int) (x0:List Int) (x1:Int):eD×bG:=([eL 0 (.int .i64) x0,eI 1 x1,eI 7 (x0.length:Int),eI 8 v8],[])
mutual
def aVc:Nat->List Int->Int->List aY->Prop
 | 0,_,_,_=>False
 | n+1,x0,x1,ds=>(Is n (0) (x0) (x1) ds)
def Is:Nat->Int->List Int->Int->List aY->Prop
 | 0,_,_,_,_=>False
 | n+1,v8,x0,x1,ds=>(if (decide (v8<(x0.length:Int)))=true then ((0<=v8)/\(v8<(x0.length:Int))/\(if (x1==aD x0 (aE v8) 0)=true then (ds=[aP (.int .i64) v8]) else ((cC .i64 (v8+1))/\(Is n (v8+1) (x0) (x1) ds)))) else (ds=[aP (.int .i64) (-1)]))
end
theorem aVd (ds:List aY) (K:jK) (q:Nat->Value):∀ n,(∀ {x0 x1},aVc n x0 x1 ds->St aOt (x0,x1,()) ds [] K q)/\(∀ {v8 x0 x1},Is n v8 x0 x1 ds->Cu aOt 2 (aVb v8 x0 x1) ds [] K q):=by
 intro n
 induction n with
 | zero=>exact ⟨λh=>h.elim,λh=>h.elim⟩
 | succ n ih =>
 obtain ⟨i,i2⟩:=ih;exact ⟨λh=>jp (i2 h),
  λh=>bR h (λh=>c2 h λh=>bR h (λh=>rh h) λh=>c1 h λh=>jp (i2 h)) λh=>rh h⟩
def Zf (x1:Int) (y:Int):Bool:=x1==y
def WI (x0:List Int) (x1:Int):Int:=XZ (x0.findIdx? (Zf x1))
def bKD (x0:List Int) (x1:Int):Prop:=True
theorem aVe (x0:List Int) (x1:Int) (hm:x0.length<=maxLen):aVc (x0.length+1+1) x0 x1 [⟨.int .i64,WI x0 x1⟩]:=by
 rw [aVc];have key:=kJ x0 0 (Zf x1) [(⟨.int .i64, -1⟩:aY)] (λk=>[⟨.int .i64,k⟩]) (λn i ds=>Is n i x0 x1 ds) (λn => ?_) (λn i hi hok ds hr => ?_) (λn i hi hok => ?_)
 ·unfold WI;cases h:x0.findIdx? (Zf x1) <;> rw [h] at key <;> exact key
 ·rw [Is,if_neg (by simp)]
 ·rw [Is,if_pos (by simp;omega)];simp only [aF];refine ⟨by omega,by omega,?_⟩;unfold Zf at hok;rw [if_neg (by rw [hok];simp)];exact ⟨fC hm hi,hr⟩
 ·rw [Is,if_pos (by simp;omega)];simp only [aF];refine ⟨by omega,by omega,?_⟩;unfold Zf at hok;rw [if_pos hok] <;> trivial
def bCD:=dR aOt (λ⟨x0,x1,_⟩=>bKD x0 x1) λ⟨x0,x1,_⟩=>[⟨.int .i64,WI x0 x1⟩]
theorem aVf:c7 398 bCD:=dF bKC (λ⟨x0,x1,_⟩ h hwf K q =>
 (aVd _ K q _).1 (aVe x0 x1 hwf.1.1))
def bCE:dB:=⟨366,Tryz.f366,[.v (.sl (.int .i64)),.v (.int .i64)],[.bool],[],[(398,bCD)],false,[]⟩
theorem bKE:FO bCE:=mo Tryz.func366 ⟨aVf,trivial⟩
def bKF (x0:List Int) (x1:Int):Prop:=True
def WJ (x0:List Int) (x1:Int):Bool:=decide (WI x0 x1>=0)
def bCF:=dR bCE (λ⟨x0,x1,_⟩=>bKF x0 x1) λ⟨x0,x1,_⟩=>[⟨.bool,WJ x0 x1⟩]
theorem aVg:c7 366 bCF:=dF bKE λ⟨x0,x1,_⟩ h _ K q=>tv<|rt
end
def aVh:List AT:=[nV (p6 (lF .i64))]
def M9 (x0:List (Int)):List (Int):=x0
def bCG (x0:List (Int)):Prop:=x0.length<=1048576
def bCH:Am.Spec:={ sig:=aVh,pre:=λ⟨x0,_⟩=>bCG x0,res:=λ⟨x0,_⟩=>[⟨p6 (lF .i64),M9 x0⟩] }
theorem aVi:c7 367 bCH:=yB Tryz.func367<|o6 (vO 57) rfl rfl (by decide) (by decide) uY.2.2.2.2.2.2.2.2 rG.2.2.2.2.2.2.2.2
noncomputable section
abbrev Na:=ByteArray×Int×Int×Unit
def Ma (fl:List Int->Option (List Int)) (x2:List Int):List Int->Option (List Int)
 | []=>none
 | k :: r=>if WJ x2 k=true then Ma fl x2 r else match fl (x2++[k]) with
  | some y=>some y
  | none=>Ma fl x2 r
def y9 (x0 x1:List Na):Nat->List Int->Option (List Int)
 | 0,x2=>some x2
 | m+1,x2=>Ma (y9 x0 x1 m) x2 (qU x0 (x1.getD x2.length (aC,0,0,())))
def Fv (x0 x1:List Na) (x2:List Int):List Int:=(y9 x0 x1 (x1.length - x2.length) x2).getD []
def Dc (x0 x1:List Na) (x2:List Int):Bool:=(y9 x0 x1 (x1.length - x2.length) x2).isSome
def Zg (k:Nat) (x0 x1:List Na) (x2:List Int):Prop:=x2.length<=x1.length/\x1.length+1 - x2.length<=k/\x1.length<=1000/\x0.length<=1000
def UF (k:Nat):Am.Spec:={ sig:=[nV (.sl fP),nV (.sl fP),nV (.sl (.int .i64))],pre:=λ⟨x0,x1,x2,_⟩=>Zg k x0 x1 x2,res:=λ⟨x0,x1,x2,_⟩=>[⟨.sl (.int .i64),Fv x0 x1 x2⟩,⟨.bool,Dc x0 x1 x2⟩],kds:=[.frz,.own] }
def aKE (kk:Nat):sE:=[(365,bCC),(366,bCF),(367,bCH),(317,UF kk)]
theorem aKF (kk:Nat) (ih:Con aL 317 (UF kk)):nQ aL (aKE kk):=⟨aVa,aVg,aVi,ih,trivial⟩
def aVj:List AT:=[nV (.sl fP),nV (.sl fP),nV (.sl (.int .i64))]
def aVk (kk:Nat):dB:=⟨317,Tryz.f317,aVj,[.sl (.int .i64),.bool],[.frz,.own],aKE kk,false,[]⟩
theorem bKG (kk:Nat) (ih:Con aL 317 (UF kk)):Fok aL tab (aVk kk):=⟨XR,vO,(aKF kk ih),mixed⟩
def aVl (v26:Int) (x0:List bX) (x1:List bX) (x2:List Int):eD×bG:=([eL 0 fP x0,eL 1 fP x1,eL 2 (.int .i64) x2,eW 24 0,eI 25 (↑(aN (qU x0 (aD x1 (aE (x2.length:Int)) (aC,0,0,())))):Int),eI 26 v26],[jB (.int .i64) (qU x0 (aD x1 (aE (x2.length:Int)) (aC,0,0,())))])
mutual
def aOu (kk:Nat):Nat->List bX->List bX->List Int->List aY->Prop
 | 0,_,_,_,_=>False
 | n+1,x0,x1,x2,ds=>(if ((x2.length:Int)==(x1.length:Int))=true then (ds=[aP (.sl (.int .i64)) x2,aP .bool true]) else ((0<=(x2.length:Int))/\((x2.length:Int)<(x1.length:Int))/\((bCB x0 (aD x1 (aE (x2.length:Int)) (aC,0,0,())))/\(It kk n (0) (x0) (x1) (x2) ds))))
def It (kk:Nat):Nat->Int->List bX->List bX->List Int->List aY->Prop
 | 0,_,_,_,_,_=>False
 | n+1,v26,x0,x1,x2,ds=>(if (decide (v26<(↑(aN (qU x0 (aD x1 (aE (x2.length:Int)) (aC,0,0,())))):Int)))=true then ((0<=v26)/\(v26<(↑(aN (qU x0 (aD x1 (aE (x2.length:Int)) (aC,0,0,())))):Int))/\(if (WJ x2 (aD (qU x0 (aD x1 (aE (x2.length:Int)) (aC,0,0,()))) (aE v26) 0))=true then ((cC .i64 (v26+1))/\(It kk n (v26+1) (x0) (x1) (x2) ds)) else ((bCG x2)/\(((aN (M9 x2)+1)*8<=140737488355328)/\(((UF kk).2 (x0,x1,M9 x2++[aD (qU x0 (aD x1 (aE (x2.length:Int)) (aC,0,0,()))) (aE v26) 0],()))/\(if (Dc x0 x1 (M9 x2++[aD (qU x0 (aD x1 (aE (x2.length:Int)) (aC,0,0,()))) (aE v26) 0]))=true then (ds=[aP (.sl (.int .i64)) (Fv x0 x1 (M9 x2++[aD (qU x0 (aD x1 (aE (x2.length:Int)) (aC,0,0,()))) (aE v26) 0])),aP .bool true]) else ((cC .i64 (v26+1))/\(It kk n (v26+1) (x0) (x1) (x2) ds)))))))) else (ds=[aP (.sl (.int .i64)) [],aP .bool false]))
end
theorem aVm (kk:Nat) (ds:List aY) (K:jK) (q:Nat->Value):∀ n,(∀ {x0 x1 x2},aOu kk n x0 x1 x2 ds->St (aVk kk) (x0,x1,x2,()) ds [] K q)/\(∀ {v26 x0 x1 x2},It kk n v26 x0 x1 x2 ds->Cu (aVk kk) 4 (aVl v26 x0 x1 x2) ds [] K q):=by
 intro n
 induction n with
 | zero=>exact ⟨λh=>h.elim,λh=>h.elim⟩
 | succ n ih =>
 obtain ⟨i,i4⟩:=ih;exact ⟨λh=>bR h (λh=>rh h) λh=>c2 h λh=>c1 h λh=>jp (i4 h),
  λh=>bR h (λh=>c2 h λh=>tv<|bR h (λh=>c1 h λh=>jp (i4 h)) λh=>c1 h λh=>c1 h λh=>c1 h λh=>bR h (λh=>rh h) λh=>c1 h λh=>jp (i4 h)) λh=>rh h⟩
theorem aOv (kk:Nat) (x0 x1:List Na) (x2:List Int) (h:Zg (kk+1) x0 x1 x2) (hlt:x2.length<x1.length) (M:Nat) (hM:M+1=x1.length - x2.length) (hks:(qU x0 (x1.getD x2.length (aC,0,0,()))).length<=9000000000):∀ (k i:Nat),i+k=(qU x0 (x1.getD x2.length (aC,0,0,()))).length ->
  It kk (k+1) (i:Int) x0 x1 x2 [⟨.sl (.int .i64),(Ma (y9 x0 x1 M) x2 ((qU x0 (x1.getD x2.length (aC,0,0,()))).drop i)).getD []⟩,⟨.bool,(Ma (y9 x0 x1 M) x2 ((qU x0 (x1.getD x2.length (aC,0,0,()))).drop i)).isSome⟩]:=by
 obtain ⟨h1,h2,h3,h4⟩:=h;have e0:aE (x2.length:Int)=x2.length:=aF _;intro k
 induction k with
 | zero =>
  intro i hi;rw [It,e0,if_neg (by simp only [decide_eq_true_eq];omega),dS (by omega)];rfl
 | succ k ih =>
  intro i hi;have e3:(i:Int)+1=((i+1:Nat):Int):=by omega
  have ih:=ih (i+1) (by omega);rw [It,e0,e3,aF,if_pos (by simp only [decide_eq_true_eq];omega),eH _ i 0 (by omega)];generalize qU x0 (x1.getD x2.length (aC,0,0,()))=ks at *;generalize ks.getD i 0=y at *;refine ⟨by omega,by omega,?_⟩;rw [Ma];by_cases c:WJ x2 y=true
  ·simp only [if_pos c];exact ⟨by rw [aK];omega,ih⟩
  ·simp only [if_neg c];refine ⟨show x2.length<=1048576 by omega,show (x2.length+1)*8<=140737488355328 by omega,?_,?_⟩
   ·show (x2++[y]).length<=x1.length/\x1.length+1 - (x2++[y]).length<=kk/\x1.length<=1000/\x0.length<=1000;rw [aO,cP];exact ⟨by omega,by omega,h3,h4⟩
   ·have eM:x1.length - (x2++[y]).length=M:=by
     rw [aO,cP];omega
    have g0:Fv x0 x1 (x2++[y])=(y9 x0 x1 M (x2++[y])).getD []:=by unfold Fv;rw [eM]
    have g1:Dc x0 x1 (x2++[y])=(y9 x0 x1 M (x2++[y])).isSome:=by unfold Dc;rw [eM]
    have gc:M9 x2=x2:=rfl;rw [gc,g0,g1];cases hf:y9 x0 x1 M (x2++[y]) with
    | none =>
     rw [if_neg (by simp)];exact ⟨by rw [aK];omega,ih⟩
    | some z=>exact (if_pos rfl).mpr rfl
theorem aVn (kk:Nat) (x0 x1:List Na) (x2:List Int) (h:Zg (kk+1) x0 x1 x2) (hks:∀ x,(qU x0 x).length<=9000000000):∃ n,aOu kk n x0 x1 x2 [⟨.sl (.int .i64),Fv x0 x1 x2⟩,⟨.bool,Dc x0 x1 x2⟩]:=by
 have hh:=h;obtain ⟨h1,h2,h3,h4⟩:=h;have e0:aE (x2.length:Int)=x2.length:=aF _;by_cases c:x2.length=x1.length
 ·refine ⟨1,?_⟩;unfold Fv Dc;rw [aOu,if_pos (show ((x2.length:Int)==(x1.length:Int))=true by rw [beq_iff_eq];omega),show x1.length - x2.length=0 by omega];rfl
 ·obtain ⟨M,hM⟩:∃ M,M+1=x1.length - x2.length:=⟨x1.length - x2.length - 1,by omega⟩;have:=aOv kk x0 x1 x2 hh (by omega) M hM (hks _) _ 0 (by rw [cV]);refine ⟨(qU x0 (x1.getD x2.length (aC,0,0,()))).length+1+1,?_⟩;unfold Fv Dc;rw [aOu,if_neg (show ¬ ((x2.length:Int)==(x1.length:Int))=true by rw [beq_iff_eq];omega), <- hM,y9,e0];exact ⟨by omega,by omega,show x0.length<=1000000 by omega,this⟩
theorem aFi (x1:Na):∀ (l:List Na) (i:Nat),(y8 x1 l i).length<=l.length
 | [],_=>aT _
 | a :: l,i=>by
  unfold y8;have:=aFi x1 l (i+1);split
  ·simp only [bA];omega
  ·simp only [bA];omega
theorem aFj:∀ k,Con aL 317 (UF k)
 | 0=>yB XR λw G G0 ⟨x0,x1,x2,_⟩ vs bss _ _ _ hp=>by
  obtain ⟨h1,h2,_⟩:Zg 0 x0 x1 x2:=hp;omega
 | k+1=>dF (bKG k (aFj k)) λ⟨x0,x1,x2,_⟩ h hwf K q=>by
  have h':Zg (k+1) x0 x1 x2:=h;obtain ⟨n,hn⟩:=aVn k x0 x1 x2 h' (λx=>by
   have:=aFi x x0 0;have:=h'.2.2.2;show (y8 x x0 0).length<=_;omega)
  have hs:=λds=>aVm k ds K q n;exact (hs _).1 hn
def aVo:Am.Spec:=UF 2000
theorem aVp:c7 317 aVo:=aFj 2000
def bCI:dB:=⟨234,Tryz.f234,[.v (.sl fP),.v (.sl fP)],[.sl (.int .i64),.int .i64],[.frz,.own],[(316,bC7),(317,aVo)],false,[]⟩
theorem bKH:FO bCI:=mo Tryz.func234 ⟨aUV,aVp,trivial⟩
def aOw (x0:List bX) (x1:List bX):Prop:=(if (Qq x0 x1 != 0)=true then True else ((aVo.2 (x0,x1,[],()))/\True))
def aKG (x0:List bX) (x1:List bX):List Int:=(if (Qq x0 x1 != 0)=true then [] else (if (!Dc x0 x1 [])=true then [] else Fv x0 x1 []))
def aKH (x0:List bX) (x1:List bX):Int:=(if (Qq x0 x1 != 0)=true then Qq x0 x1 else (if (!Dc x0 x1 [])=true then 3 else 0))
def bCJ:=dR bCI (λ⟨x0,x1,_⟩=>aOw x0 x1) λ⟨x0,x1,_⟩=>[⟨.sl (.int .i64),aKG x0 x1⟩,⟨.int .i64,aKH x0 x1⟩]
theorem aVq:c7 234 bCJ:=dF bKH λ⟨x0,x1,_⟩ h _ K q=>tv<|o3 h (λh=>rt) λh=>c1 h λh=>e2 (rt) (rt)
def bCK:dB:=⟨156,Tryz.f156,[.p vP,.v Gk],[.sl (.int .i64),.int .i64],[.frz,.own],[(231,bCn),(232,bCv),(233,bC5),(234,bCJ)],false,[]⟩
theorem bKI:FO bCK:=mo Tryz.func156 ⟨aUA,aUM,aUU,aVq,trivial⟩
def aDr (x0:fV) (x1:ByteArray×ByteArray×List Int×List Int×Unit):Prop:=(if (aB x1.1==aB (aA #[114,117,110,110,105,110,103]))=true then ((aOj x0.2.2.2.1 x0.2.2.1)/\True) else (if (aB x1.1==aB (aA #[99,111,118,101,114]))=true then ((0<(x1.2.2.1.length:Int))/\((1<(x1.2.2.1.length:Int))/\((bCu x0.2.2.2.2.2.2.1 (aD x1.2.2.1 0 0) (aD x1.2.2.1 1 0))/\True))) else (if (aB x1.1==aB (aA #[113,117,101,117,101]))=true then ((0<(x1.2.2.1.length:Int))/\((1<(x1.2.2.1.length:Int))/\((aOr x1.2.2.2.1 (aD x1.2.2.1 0 0) (aD x1.2.2.1 1 0))/\True))) else ((aOw x0.2.2.2.2.2.2.2.2.2.2.1 x0.2.2.2.2.2.2.2.2.2.2.2.1)/\True))))
def Mb (x0:fV) (x1:ByteArray×ByteArray×List Int×List Int×Unit):List Int:=(if (aB x1.1==aB (aA #[114,117,110,110,105,110,103]))=true then WB x0.2.2.2.1 x0.2.2.1 else (if (aB x1.1==aB (aA #[99,111,118,101,114]))=true then WF x0.2.2.2.2.2.2.1 (aD x1.2.2.1 0 0) (aD x1.2.2.1 1 0) else (if (aB x1.1==aB (aA #[113,117,101,117,101]))=true then aKC x1.2.2.2.1 (aD x1.2.2.1 0 0) (aD x1.2.2.1 1 0) else aKG x0.2.2.2.2.2.2.2.2.2.2.1 x0.2.2.2.2.2.2.2.2.2.2.2.1)))
def Qr (x0:fV) (x1:ByteArray×ByteArray×List Int×List Int×Unit):Int:=(if (aB x1.1==aB (aA #[114,117,110,110,105,110,103]))=true then WC x0.2.2.2.1 x0.2.2.1 else (if (aB x1.1==aB (aA #[99,111,118,101,114]))=true then WE x0.2.2.2.2.2.2.1 (aD x1.2.2.1 0 0) (aD x1.2.2.1 1 0) else (if (aB x1.1==aB (aA #[113,117,101,117,101]))=true then aKD x1.2.2.2.1 (aD x1.2.2.1 0 0) (aD x1.2.2.1 1 0) else aKH x0.2.2.2.2.2.2.2.2.2.2.1 x0.2.2.2.2.2.2.2.2.2.2.2.1)))
def bCL:=dR bCK (λ⟨x0,x1,_⟩=>aDr x0 x1) λ⟨x0,x1,_⟩=>[⟨.sl (.int .i64),Mb x0 x1⟩,⟨.int .i64,Qr x0 x1⟩]
theorem aVr:c7 156 bCL:=dF bKI λ⟨x0,x1,_⟩ h _ K q=>o3 h (λh=>c1 h λh=>rt) λh=>o3 h (λh=>tP ((by decide):(0:Int)<=(0:Int))<|c1 h λh=>tP ((by decide):(0:Int)<=(1:Int))<|c1 h λh=>c1 h λh=>rt) λh=>o3 h (λh=>tP ((by decide):(0:Int)<=(0:Int))<|c1 h λh=>tP ((by decide):(0:Int)<=(1:Int))<|c1 h λh=>c1 h λh=>rt) λh=>c1 h λh=>rt
def aOx:dB:=⟨236,Tryz.f236,[.v (.sl (.int .i64))],[.bool],[],[(239,aJe)],false,[]⟩
theorem bKJ:FO aOx:=mo Tryz.func236 ⟨VW,trivial⟩
def aVs (v7:Int) (x0:List Int):eD×bG:=([eL 0 (.int .i64) x0,eL 5 (.int .i64) x0,eI 6 (x0.length:Int),eI 7 v7],[])
mutual
def aVt:Nat->List Int->List aY->Prop
 | 0,_,_=>False
 | n+1,x0,ds=>(Dd n (0) (x0) ds)
def Dd:Nat->Int->List Int->List aY->Prop
 | 0,_,_,_=>False
 | n+1,v7,x0,ds=>(if (decide (v7<(x0.length:Int)))=true then ((0<=v7)/\(v7<(x0.length:Int))/\(if (!rV (aD x0 (aE v7) 0))=true then (ds=[aP .bool false]) else (if (decide (v7>0))=true then ((cC .i64 (v7 - 1))/\((0<=v7 - 1)/\(v7 - 1<(x0.length:Int))/\(if (decide (aD x0 (aE v7) 0<aD x0 (aE (v7 - 1)) 0))=true then (ds=[aP .bool false]) else ((cC .i64 (v7+1))/\(Dd n (v7+1) (x0) ds))))) else ((cC .i64 (v7+1))/\(Dd n (v7+1) (x0) ds))))) else (ds=[aP .bool (decide ((x0.length:Int)<=40))]))
end
theorem aVu (ds:List aY) (K:jK) (q:Nat->Value):∀ n,(∀ {x0},aVt n x0 ds->St aOx (x0,()) ds [] K q)/\(∀ {v7 x0},Dd n v7 x0 ds->Cu aOx 2 (aVs v7 x0) ds [] K q):=by
 intro n
 induction n with
 | zero=>exact ⟨λh=>h.elim,λh=>h.elim⟩
 | succ n ih =>
 obtain ⟨i,i2⟩:=ih;exact ⟨λh=>jp (i2 h),
  λh=>bR h (λh=>c2 h λh=>tv<|bR h (λh=>tT<|rh h) λh=>bR h (λh=>c1 h λh=>c2 h λh=>bR h (λh=>rh h) λh=>c1 h λh=>jp (i2 h)) λh=>tF<|c1 h λh=>jp (i2 h)) λh=>rh h⟩
def UG (x0:List Int) (i:Nat) (x:Int):Bool:=rV x&&(i==0 || !decide (x<x0.getD (i - 1) 0))
def kD (x0:List Int):Bool:=lC (UG x0) 0 x0&&decide ((x0.length:Int)<=40)
def bKK (x0:List Int):Prop:=True
theorem aFk (n i:Nat) (x0:List Int) (hm:x0.length<=maxLen) (hi:i<x0.length) (ds:List aY)
  (h:if UG x0 i (x0.getD i 0)=true then Dd n ((i:Int)+1) x0 ds else ds=[⟨.bool,false⟩]):Dd (n+1) (i:Int) x0 ds:=by
 have hu:=fC hm hi;have hmx:maxLen<=9223372036854775807:=by decide
 rw [Dd,if_pos (by simp only [decide_eq_true_eq];omega),aF];refine ⟨by omega,by omega,?_⟩;unfold UG at h;by_cases h1:rV (x0.getD i 0)=true
 case neg =>
  rw [BE h1] at h;exact (if_pos (by rw [BE h1];rfl)).mpr (by simpa using h)
 refine (if_neg (by rw [h1];decide)).mpr ?_;rw [h1] at h;by_cases h0:(i:Int)>0
 case neg =>
  have hi0:(i==0)=true:=by simp;omega
  rw [hi0] at h;exact (if_neg (by simpa using h0)).mpr ⟨hu,by simpa using h⟩
 have hi0:(i==0)=false:=by simp;omega
 have e:((i:Int) - 1).toNat=i - 1:=by omega
 rw [hi0] at h;refine (if_pos (by simpa using h0)).mpr ⟨by rw [aK];omega,by omega,by omega,?_⟩;rw [e];by_cases h3:x0.getD i 0<x0.getD (i - 1) 0
 ·rw [decide_eq_true h3] at h;exact (if_pos (decide_eq_true h3)).mpr (by simpa using h)
 ·rw [decide_eq_false h3] at h;exact (if_neg (by simpa using h3)).mpr ⟨hu,by simpa using h⟩
theorem aVv (x0:List Int) (hw:x0.length<=maxLen):aVt (x0.length+1+1) x0 [⟨.bool,kD x0⟩]:=by
 rw [aVt];have key:=jU x0 0 (UG x0) [(⟨.bool,false⟩:aY)] [⟨.bool,decide ((x0.length:Int)<=40)⟩] (λn i ds=>Dd n i x0 ds) (λn => ?_) (λn i hi hok ds hr => ?_) (λn i hi hok => ?_)
 ·unfold kD;cases h:lC (UG x0) 0 x0 with
  | true=>rw [if_pos h] at key;simpa using key
  | false=>rw [if_neg (by rw [h];simp)] at key;simpa using key
 ·rw [Dd,if_neg (by simp)]
 ·exact aFk n i x0 hw hi ds (by rw [if_pos hok];exact hr)
 ·exact aFk n i x0 hw hi _ (by rw [if_neg (by rw [hok];simp)])
def bCM:=dR aOx (λ⟨x0,_⟩=>bKK x0) λ⟨x0,_⟩=>[⟨.bool,kD x0⟩]
theorem aVw:c7 236 bCM:=dF bKJ (λ⟨x0,_⟩ h hwf K q =>
 (aVu _ K q _).1 (aVv x0 hwf.1.1))
def bCN:dB:=⟨369,Tryz.f369,[.v gT,.p .str],[.bool],[],[],false,[]⟩
theorem bKL:FO bCN:=mo Tryz.func369 trivial
def bKM (x0:ByteArray×Int×Int×Int×Unit) (x1:ByteArray):Prop:=True
def Qs (x0:ByteArray×Int×Int×Int×Unit) (x1:ByteArray):Bool:=aB x0.1==aB x1
def bCO:=dR bCN (λ⟨x0,x1,_⟩=>bKM x0 x1) λ⟨x0,x1,_⟩=>[⟨.bool,Qs x0 x1⟩]
theorem aVx:c7 369 bCO:=dF bKL λ⟨x0,x1,_⟩ h _ K q=>rt
def K0:dB:=⟨368,Tryz.f368,[.v (.sl gT),.fn 369 [(true,.str)]],[.int .i64],[],[(369,bCO)],false,[]⟩
theorem aKI:FO K0:=mo Tryz.func368 ⟨aVx,trivial⟩
def aDs (v8:Int) (x0:List dG) (x1:ByteArray):eD×bG:=([eL 0 gT x0,(1,nU 369 [pM .str x1]),eI 7 (x0.length:Int),eI 8 v8],[])
mutual
def Qt:Nat->List dG->ByteArray->List aY->Prop
 | 0,_,_,_=>False
 | n+1,x0,x1,ds=>(tK n (0) (x0) (x1) ds)
def tK:Nat->Int->List dG->ByteArray->List aY->Prop
 | 0,_,_,_,_=>False
 | n+1,v8,x0,x1,ds=>(if (decide (v8<(x0.length:Int)))=true then ((0<=v8)/\(v8<(x0.length:Int))/\(if (Qs (aD x0 (aE v8) (aC,0,0,0,())) x1)=true then (ds=[aP (.int .i64) v8]) else ((cC .i64 (v8+1))/\(tK n (v8+1) (x0) (x1) ds)))) else (ds=[aP (.int .i64) (-1)]))
end
theorem aDt (ds:List aY) (K:jK) (q:Nat->Value):∀ n,(∀ {x0 x1},Qt n x0 x1 ds->St K0 (x0,(x1,()),()) ds [] K q)/\(∀ {v8 x0 x1},tK n v8 x0 x1 ds->Cu K0 2 (aDs v8 x0 x1) ds [] K q):=by
 intro n
 induction n with
 | zero=>exact ⟨λh=>h.elim,λh=>h.elim⟩
 | succ n ih =>
 obtain ⟨i,i2⟩:=ih;exact ⟨λh=>jp (i2 h),
  λh=>bR h (λh=>c2 h λh=>tv<|bR h (λh=>rh h) λh=>c1 h λh=>jp (i2 h)) λh=>rh h⟩
def pA (x0:List dG) (y0:ByteArray):Int:=XZ (x0.findIdx? (λx=>Qs x y0))
def aKJ (x0:List dG) (y0:ByteArray):Prop:=True
theorem aDu (x0:List dG) (y0:ByteArray) (hm:x0.length<=maxLen):Qt (x0.length+1+1) x0 y0 [⟨.int .i64,pA x0 y0⟩]:=by
 rw [Qt];have key:=kJ x0 (aC,(0:Int),(0:Int),(0:Int),()) (λx=>Qs x y0) [(⟨.int .i64, -1⟩:aY)] (λk=>[⟨.int .i64,k⟩]) (λn i ds=>tK n i x0 y0 ds) (λn => ?_) (λn i hi hok ds hr => ?_) (λn i hi hok => ?_)
 ·unfold pA;cases h:x0.findIdx? (λx=>Qs x y0) <;> rw [h] at key <;> exact key
 ·rw [tK,if_neg (by simp)]
 ·rw [tK,if_pos (by simp;omega)];simp only [aF];refine ⟨by omega,by omega,?_⟩;rw [if_neg (by rw [hok];simp)];exact ⟨fC hm hi,hr⟩
 ·rw [tK,if_pos (by simp;omega)];simp only [aF];refine ⟨by omega,by omega,?_⟩;rw [if_pos hok] <;> trivial
def Zh:=dR K0 (λ⟨x0,⟨y0,_⟩,_⟩=>aKJ x0 y0) λ⟨x0,⟨y0,_⟩,_⟩=>[⟨.int .i64,pA x0 y0⟩]
theorem aDv:c7 368 Zh:=dF aKI (λ⟨x0,⟨y0,_⟩,_⟩ h hwf K q =>
 (aDt _ K q _).1 (aDu x0 y0 hwf.1.1))
def bCP:dB:=⟨318,Tryz.f318,[.v (.sl gT),.v (.str)],[.cons .str fL,.bool],[],[(368,Zh)],false,[]⟩
theorem bKN:FO bCP:=mo Tryz.func318 ⟨aDv,trivial⟩
def aVy (x0:List dG) (x1:ByteArray):Prop:=(if (decide (pA x0 x1<0))=true then True else ((0<=pA x0 x1)/\(pA x0 x1<(x0.length:Int))/\True))
def aVz (x0:List dG) (x1:ByteArray):ByteArray×Int×Int×Int×Unit:=(if (decide (pA x0 x1<0))=true then (aC,0,0,0,()) else aD x0 (aE (pA x0 x1)) (aC,0,0,0,()))
def Qu (x0:List dG) (x1:ByteArray):Bool:=(if (decide (pA x0 x1<0))=true then false else true)
def bCQ:=dR bCP (λ⟨x0,x1,_⟩=>aVy x0 x1) λ⟨x0,x1,_⟩=>[⟨.cons .str fL,aVz x0 x1⟩,⟨.bool,Qu x0 x1⟩]
theorem aV0:c7 318 bCQ:=dF bKN λ⟨x0,x1,_⟩ h _ K q=>tv<|o3 h (λh=>rt) λh=>c2 h λh=>rt
def aOy:dB:=⟨235,Tryz.f235,[.v (.sl gT),.v (.bool),.v (.sl .str)],[.int .i64],[],[(65,S65),(318,bCQ)],false,[]⟩
theorem bKO:FO aOy:=mo Tryz.func235 ⟨aPP,aV0,trivial⟩
def aV1 (v20:Int) (x0:List dG) (x2:List ByteArray):eD×bG:=([eL 0 gT x0,eL 18 .str x2,eI 19 (x2.length:Int),eI 20 v20],[])
mutual
def aV2:Nat->List dG->Bool->List ByteArray->List aY->Prop
 | 0,_,_,_,_=>False
 | n+1,x0,x1,x2,ds=>(if (!qK x0)=true then (ds=[aP (.int .i64) 1]) else (if (!x1)=true then (ds=[aP (.int .i64) 2]) else (Iu n (0) (x0) (x2) ds)))
def Iu:Nat->Int->List dG->List ByteArray->List aY->Prop
 | 0,_,_,_,_=>False
 | n+1,v20,x0,x2,ds=>(if (decide (v20<(x2.length:Int)))=true then ((0<=v20)/\(v20<(x2.length:Int))/\((aVy x0 (aD x2 (aE v20) aC))/\(if (!Qu x0 (aD x2 (aE v20) aC))=true then (ds=[aP (.int .i64) 3]) else ((cC .i64 (v20+1))/\(Iu n (v20+1) (x0) (x2) ds))))) else (ds=[aP (.int .i64) 0]))
end
theorem aV3 (ds:List aY) (K:jK) (q:Nat->Value):∀ n,(∀ {x0 x1 x2},aV2 n x0 x1 x2 ds->St aOy (x0,x1,x2,()) ds [] K q)/\(∀ {v20 x0 x2},Iu n v20 x0 x2 ds->Cu aOy 6 (aV1 v20 x0 x2) ds [] K q):=by
 intro n
 induction n with
 | zero=>exact ⟨λh=>h.elim,λh=>h.elim⟩
 | succ n ih =>
 obtain ⟨i,i6⟩:=ih;exact ⟨λh=>tv<|bR h (λh=>rh h) λh=>bR h (λh=>rh h) λh=>jp (i6 h),
  λh=>bR h (λh=>c2 h λh=>c1 h λh=>bR h (λh=>rh h) λh=>c1 h λh=>jp (i6 h)) λh=>rh h⟩
def nO (x0:List dG) (x1:Bool) (x2:List ByteArray):Int:=if (!qK x0)=true then 1 else if (!x1)=true then 2 else if (x2.all λy=>Qu x0 y)=true then 0 else 3
def aOz (x0:List dG) (x1:Bool) (x2:List ByteArray):Prop:=∀ y∈x2,aVy x0 y
theorem aV4 (x0:List dG) (x1:Bool) (x2:List ByteArray) (h:aOz x0 x1 x2) (hm:x2.length<=maxLen):aV2 (x2.length+1+1) x0 x1 x2 [⟨.int .i64,nO x0 x1 x2⟩]:=by
 rw [aV2];unfold nO;by_cases h1:(!qK x0)=true
 ·rw [if_pos h1,if_pos h1]
 rw [if_neg h1,if_neg h1];by_cases h2:(!x1)=true
 ·rw [if_pos h2,if_pos h2]
 rw [if_neg h2,if_neg h2];have key:=Gh x2 aC (λy=>Qu x0 y) [(⟨.int .i64,3⟩:aY)] [⟨.int .i64,0⟩] (λn i ds=>Iu n i x0 x2 ds) (λn => ?_) (λn i hi hok ds hr => ?_) (λn i hi hok => ?_)
 ·cases hh:x2.all (λy=>Qu x0 y) <;> rw [hh] at key <;> simpa using key
 ·rw [Iu,if_neg (by simp)]
 ·rw [Iu,if_pos (by simp;omega)];simp only [aF];refine ⟨by omega,by omega,h _ (dN x2 i aC hi),?_⟩;rw [if_neg (by rw [hok];simp)];exact ⟨fC hm hi,hr⟩
 ·rw [Iu,if_pos (by simp;omega)];simp only [aF];refine ⟨by omega,by omega,h _ (dN x2 i aC hi),?_⟩;rw [if_pos (by rw [hok];rfl)] <;> trivial
def bCR:=dR aOy (λ⟨x0,x1,x2,_⟩=>aOz x0 x1 x2) λ⟨x0,x1,x2,_⟩=>[⟨.int .i64,nO x0 x1 x2⟩]
theorem aV5:c7 235 bCR:=dF bKO (λ⟨x0,x1,x2,_⟩ h hwf K q =>
 (aV3 _ K q _).1 (aV4 x0 x1 x2 h hwf.2.2.1.1))
def bCS:dB:=⟨319,Tryz.f319,[.v (.sl (.int .i64))],[.int .i64],[],[],false,[]⟩
theorem bKP:FO bCS:=mo Tryz.func319 trivial
def bKQ (x0:List Int):Prop:=True
def aKK (x0:List Int):Int:=(x0.length:Int)
def bCT:=dR bCS (λ⟨x0,_⟩=>bKQ x0) λ⟨x0,_⟩=>[⟨.int .i64,aKK x0⟩]
theorem aV6:c7 319 bCT:=dF bKP λ⟨x0,_⟩ h _ K q=>rt
def aO0:dB:=⟨237,Tryz.f237,[.v (.sl gT),.v (.sl (.int .i64))],[.cons .str fL,.bool],[],[(319,bCT)],false,[]⟩
theorem bKR:FO aO0:=mo Tryz.func237 ⟨aV6,trivial⟩
def aV7 (v7:Bool) (v14:Int) (h1:ByteArray×Int×Int×Int×Unit) (x1:List Int) (x0:List dG):eD×bG:=([eL 1 (.int .i64) x1,eO 4 0 0 [],eO 6 1 0 [],eB 7 v7,eL 12 gT x0,eI 13 (x0.length:Int),eI 14 v14],[some (fY gT [(aC,0,0,0,())] true none (some false)),some (fY gT [h1] true none (some false))])
mutual
def bCU:Nat->List dG->List Int->List aY->Prop
 | 0,_,_,_=>False
 | n+1,x0,x1,ds=>(yM n (false) (0) ((aC,0,0,0,())) (x1) (x0) ds)
def yM:Nat->Bool->Int->ByteArray×Int×Int×Int×Unit->List Int->List dG->List aY->Prop
 | 0,_,_,_,_,_,_=>False
 | n+1,v7,v14,h1,x1,x0,ds=>(if (decide (v14<(x0.length:Int)))=true then ((0<=v14)/\(v14<(x0.length:Int))/\(if (decide ((aD x0 (aE v14) (aC,0,0,0,())).2.2.1>=aKK x1))=true then ((cC .i64 ((x1.length:Int) - 1))/\((0<=(x1.length:Int) - 1)/\((x1.length:Int) - 1<(x1.length:Int))/\((0<(x1.length:Int))/\((cC .i64 (aD x1 (aE ((x1.length:Int) - 1)) 0 - aD x1 0 0))/\(if (decide (aD x1 (aE ((x1.length:Int) - 1)) 0 - aD x1 0 0<(aD x0 (aE v14) (aC,0,0,0,())).2.2.2.1))=true then (if (!v7)=true then ((cC .i64 (v14+1))/\(yM n (true) (v14+1) (aD x0 (aE v14) (aC,0,0,0,())) (x1) (x0) ds)) else (if (decide ((aD x0 (aE v14) (aC,0,0,0,())).2.1<h1.2.1))=true then ((cC .i64 (v14+1))/\(yM n (true) (v14+1) (aD x0 (aE v14) (aC,0,0,0,())) (x1) (x0) ds)) else ((cC .i64 (v14+1))/\(yM n (v7) (v14+1) (h1) (x1) (x0) ds)))) else ((cC .i64 (v14+1))/\(yM n (v7) (v14+1) (h1) (x1) (x0) ds))))))) else ((cC .i64 (v14+1))/\(yM n (v7) (v14+1) (h1) (x1) (x0) ds)))) else (ds=[aP gT h1,aP .bool v7]))
end
theorem aV8 (ds:List aY) (K:jK) (q:Nat->Value):∀ n,(∀ {x0 x1},bCU n x0 x1 ds->St aO0 (x0,x1,()) ds [] K q)/\(∀ {v7 v14 h1 x1 x0},yM n v7 v14 h1 x1 x0 ds->Cu aO0 3 (aV7 v7 v14 h1 x1 x0) ds [] K q):=by
 intro n
 induction n with
 | zero=>exact ⟨λh=>h.elim,λh=>h.elim⟩
 | succ n ih =>
 obtain ⟨i,i3⟩:=ih;exact ⟨λh=>jp (i3 h),
  λ{v7} {v14} {h1} {x1} {x0} h=>bR h (λh=>c2 h λh=>tv<|bR h (λh=>c1 h λh=>c2 h λh=>tP ((by decide):(0:Int)<=(0:Int))<|c1 h λh=>c1 h λh=>bR h (λh=>bR h (λh=>tT<|c1 h λh=>jp (i3 h)) λh=>bR h (λh=>c1 h λh=>jp (i3 h)) λh=>c1 h λh=>jp (i3 h)) λh=>tF<|c1 h λh=>jp (i3 h)) λh=>tF<|tF<|c1 h λh=>jp (i3 h)) λh=>rh h⟩
abbrev EY:=ByteArray×Int×Int×Int×Unit
abbrev aFl:Ty := .cons .str (.cons (.int .i64) (.cons (.int .i64) (.cons (.int .i64) .unit)))
def WK (x1:List Int) (f:EY):Bool:=decide (f.2.2.1>=(x1.length:Int))&&decide (x1.getD (x1.length - 1) 0 - x1.getD 0 0<f.2.2.2.1)
def qV (x1:List Int) (s:Bool×EY) (f:EY):Bool×EY:=if WK x1 f=true then (if (!s.1)=true then (true,f) else if decide (f.2.1<s.2.2.1)=true then (true,f) else s) else s
def Mc (x0:List EY) (x1:List Int):Bool×EY:=x0.foldl (qV x1) (false,(aC,0,0,0,()))
def jO (x0:List EY) (x1:List Int):EY:=(Mc x0 x1).2
def tL (x0:List EY) (x1:List Int):Bool:=(Mc x0 x1).1
def aKL (x0:List EY) (x1:List Int):Prop:=1<=x1.length/\∀ y∈x1,0<=y/\y<=1000000000
theorem aV9 (x0:List EY) (x1:List Int) (hm:x0.length<=maxLen) (hm1:x1.length<=maxLen) (h:aKL x0 x1):∀ (k i:Nat) (s:Bool×EY),i+k=x0.length->yM (k+1) s.1 (i:Int) s.2 x1 x0 [⟨aFl,((x0.drop i).foldl (qV x1) s).2⟩,⟨.bool,((x0.drop i).foldl (qV x1) s).1⟩]:=by
 have hmx:maxLen<=9223372036854775807:=by decide
 obtain ⟨h1,h2⟩:=h;intro k
 induction k with
 | zero =>
  intro i s hi;rw [yM,if_neg (by simp only [decide_eq_true_eq];omega),dS (by omega)];rfl
 | succ k ih =>
  intro i s hi;have hlt:i<x0.length:=by omega
  have hu:=fC hm hlt;have e3:(i:Int)+1=((i+1:Nat):Int):=by omega
  have e4:aE ((x1.length:Int) - 1)=x1.length - 1:=by omega
  have b1:=h2 _ (dN x1 (x1.length - 1) 0 (by omega));have b2:=h2 _ (dN x1 0 0 (by omega));have ih:=λs=>ih (i+1) s (by omega);rw [e3] at hu;rw [yM,if_pos (by simp only [decide_eq_true_eq];omega),eH x0 i (aC,0,0,0,()) hlt,dY,e3,e4,aF];generalize x0.getD i (aC,0,0,0,())=f at *;refine ⟨by omega,by omega,?_⟩;have no:qV x1 s f=s->cC .i64 ((i+1:Nat):Int)/\yM (k+1) s.1 ((i+1:Nat):Int) s.2 x1 x0 [⟨aFl,((x0.drop (i+1)).foldl (qV x1) (qV x1 s f)).2⟩,⟨.bool,((x0.drop (i+1)).foldl (qV x1) (qV x1 s f)).1⟩]:=λe=>by
   rw [e];exact ⟨hu,ih s⟩
  have yes:qV x1 s f=(true,f)->cC .i64 ((i+1:Nat):Int)/\yM (k+1) true ((i+1:Nat):Int) f x1 x0 [⟨aFl,((x0.drop (i+1)).foldl (qV x1) (qV x1 s f)).2⟩,⟨.bool,((x0.drop (i+1)).foldl (qV x1) (qV x1 s f)).1⟩]:=λe=>by
   rw [e];exact ⟨hu,ih (true,f)⟩
  have hx:qV x1 s f=if (decide (f.2.2.1>=(x1.length:Int))&&decide (x1.getD (x1.length - 1) 0 - x1.getD 0 0<f.2.2.2.1))=true then (if (!s.1)=true then (true,f) else if decide (f.2.1<s.2.2.1)=true then (true,f) else s) else s:=rfl
  by_cases c1:decide (f.2.2.1>=(x1.length:Int))=true
  ·refine (if_pos c1).mpr ⟨by rw [aK];omega,by omega,by omega,by omega,by rw [aK];omega,?_⟩;by_cases c2:decide (x1.getD (x1.length - 1) 0 - x1.getD 0 0<f.2.2.2.1)=true
   ·refine (if_pos c2).mpr ?_;rw [c1,c2,Bool.and_true,if_pos rfl] at hx;by_cases c3:(!s.1)=true
    ·exact (if_pos c3).mpr (yes (by rw [hx,if_pos c3]))
    ·refine (if_neg c3).mpr ?_;rw [if_neg c3] at hx;by_cases c4:decide (f.2.1<s.2.2.1)=true
     ·exact (if_pos c4).mpr (yes (by rw [hx,if_pos c4]))
     ·exact (if_neg c4).mpr (no (by rw [hx,if_neg c4]))
   ·exact (if_neg c2).mpr (no (by rw [hx,BE c2,Bool.and_false,if_neg (by decide)]))
  ·exact (if_neg c1).mpr (no (by rw [hx,BE c1,Bool.false_and,if_neg (by decide)]))
def bCV:=dR aO0 (λ⟨x0,x1,_⟩=>aKL x0 x1) λ⟨x0,x1,_⟩=>[⟨aFl,jO x0 x1⟩,⟨.bool,tL x0 x1⟩]
theorem aVA:c7 237 bCV:=dF bKR (λ⟨x0,x1,_⟩ h hwf K q =>
 (aV8 _ K q ((x0.length+2))).1 (by rw [bCU];exact aV9 x0 x1 hwf.1.1 hwf.2.1.1 h x0.length 0 (false,(aC,0,0,0,())) (by omega)))
def aG8:dB:=⟨157,Tryz.f157,[.v (.sl gT),.v (.sl (.int .i64))],[.int .i64,.sl .str,.int .i64],[],[(236,bCM),(235,bCR),(237,bCV)],false,[]⟩
theorem bKS:FO aG8:=mo Tryz.func157 ⟨aVw,aV5,aVA,trivial⟩
def aVB (v11:Int) (h0:List Int) (h1:List Int) (x0:List dG) (x1:List Int):eD×bG:=([eL 0 gT x0,eL 1 (.int .i64) x1,eI 8 (x1.length:Int),eW 9 0,eW 10 1,eI 11 v11],[jB (.int .i64) h0,jB (.int .i64) h1])
def aO1 (v12:Int) (h0:List Int) (h1:List Int) (x0:List dG) (x1:List Int) (v11:Int):eD×bG:=([eL 0 gT x0,eL 1 (.int .i64) x1,eI 8 (x1.length:Int),eW 9 0,eW 10 1,eI 11 v11,eI 12 v12],[jB (.int .i64) h0,jB (.int .i64) h1])
def aO2 (v16:Int) (h2:List ByteArray) (x0:List dG) (x1:List Int) (h0:List Int) (h1:List Int):eD×bG:=([eL 0 gT x0,eL 1 (.int .i64) x1,eI 8 (x1.length:Int),eW 9 0,eW 10 1,eW 15 2,eI 16 v16],[jB (.int .i64) h0,jB (.int .i64) h1,jB .str h2])
mutual
def aKM:Nat->List dG->List Int->List aY->Prop
 | 0,_,_,_=>False
 | n+1,x0,x1,ds=>((aOz x0 (kD x1) [])/\(if (nO x0 (kD x1) [] != 0)=true then (ds=[aP (.int .i64) 0,aP (.sl .str) [],aP (.int .i64) (nO x0 (kD x1) [])]) else (if ((x0.length:Int)==0)=true then (if (decide ((x1.length:Int)>0))=true then (ds=[aP (.int .i64) 0,aP (.sl .str) [],aP (.int .i64) 3]) else ((cC .i64 ((x1.length:Int)+1))/\((cC .i64 ((x1.length:Int)+1))/\((0<=(x1.length:Int)+1)/\((x1.length:Int)+1<=(x1.length:Int)+1)/\(8*((x1.length:Int)+1)<=281474976710656)/\(0<=(x1.length:Int)+1)/\((x1.length:Int)+1<=(x1.length:Int)+1)/\(8*((x1.length:Int)+1)<=281474976710656)/\((cC .i64 ((x1.length:Int) - 1))/\(De n ((x1.length:Int) - 1) (b6 (aE ((x1.length:Int)+1)) 0) (b6 (aE ((x1.length:Int)+1)) 0) (x0) (x1) ds)))))) else ((cC .i64 ((x1.length:Int)+1))/\((cC .i64 ((x1.length:Int)+1))/\((0<=(x1.length:Int)+1)/\((x1.length:Int)+1<=(x1.length:Int)+1)/\(8*((x1.length:Int)+1)<=281474976710656)/\(0<=(x1.length:Int)+1)/\((x1.length:Int)+1<=(x1.length:Int)+1)/\(8*((x1.length:Int)+1)<=281474976710656)/\((cC .i64 ((x1.length:Int) - 1))/\(De n ((x1.length:Int) - 1) (b6 (aE ((x1.length:Int)+1)) 0) (b6 (aE ((x1.length:Int)+1)) 0) (x0) (x1) ds))))))))
def De:Nat->Int->List Int->List Int->List dG->List Int->List aY->Prop
 | 0,_,_,_,_,_,_=>False
 | n+1,v11,h0,h1,x0,x1,ds=>(if (decide (v11>=0))=true then ((cC .i64 (v11+1))/\(xE n (v11+1) (h0) (h1) (x0) (x1) (v11) ds)) else (Gp n (0) ([]) (x0) (x1) (h0) (h1) ds))
def xE:Nat->Int->List Int->List Int->List dG->List Int->Int->List aY->Prop
 | 0,_,_,_,_,_,_,_=>False
 | n+1,v12,h0,h1,x0,x1,v11,ds=>(if (decide (v12<=(x1.length:Int)))=true then ((0<=v11)/\(v11<=v12)/\(v12<=(x1.length:Int))/\((aKL x0 (dE (aE v11) (dH (aE v12) x1)))/\(if (tL x0 (dE (aE v11) (dH (aE v12) x1)))=true then ((cC .i64 (v11+1))/\(if (v12==v11+1)=true then ((0<=v12)/\(v12<(h0.length:Int))/\((cC .i64 ((jO x0 (dE (aE v11) (dH (aE v12) x1))).2.1+aD h0 (aE v12) 0))/\(0<=v11)/\(v11<(h0.length:Int))/\(0<=v11)/\(v11<(h1.length:Int))/\((cC .i64 (v12+1))/\(xE n (v12+1) (vA h0 (aE v11) ((jO x0 (dE (aE v11) (dH (aE v12) x1))).2.1+aD h0 (aE v12) 0)) (vA h1 (aE v11) v12) (x0) (x1) (v11) ds)))) else ((0<=v12)/\(v12<(h0.length:Int))/\((cC .i64 ((jO x0 (dE (aE v11) (dH (aE v12) x1))).2.1+aD h0 (aE v12) 0))/\((0<=v11)/\(v11<(h0.length:Int))/\(if (decide ((jO x0 (dE (aE v11) (dH (aE v12) x1))).2.1+aD h0 (aE v12) 0<=aD h0 (aE v11) 0))=true then ((0<=v12)/\(v12<(h0.length:Int))/\((cC .i64 ((jO x0 (dE (aE v11) (dH (aE v12) x1))).2.1+aD h0 (aE v12) 0))/\(0<=v11)/\(v11<(h0.length:Int))/\(0<=v11)/\(v11<(h1.length:Int))/\((cC .i64 (v12+1))/\(xE n (v12+1) (vA h0 (aE v11) ((jO x0 (dE (aE v11) (dH (aE v12) x1))).2.1+aD h0 (aE v12) 0)) (vA h1 (aE v11) v12) (x0) (x1) (v11) ds)))) else ((cC .i64 (v12+1))/\(xE n (v12+1) (h0) (h1) (x0) (x1) (v11) ds)))))))) else ((cC .i64 (v12+1))/\(xE n (v12+1) (h0) (h1) (x0) (x1) (v11) ds))))) else ((cC .i64 (v11 - 1))/\(De n (v11 - 1) (h0) (h1) (x0) (x1) ds)))
def Gp:Nat->Int->List ByteArray->List dG->List Int->List Int->List Int->List aY->Prop
 | 0,_,_,_,_,_,_,_=>False
 | n+1,v16,h2,x0,x1,h0,h1,ds=>(if (decide (v16<(x1.length:Int)))=true then ((0<=v16)/\(v16<(h1.length:Int))/\((0<=v16)/\(v16<=aD h1 (aE v16) 0)/\(aD h1 (aE v16) 0<=(x1.length:Int))/\((aKL x0 (dE (aE v16) (dH (aE (aD h1 (aE v16) 0)) x1)))/\(((aN h2+1)*16<=140737488355328)/\((0<=v16)/\(v16<(h1.length:Int))/\(Gp n (aD h1 (aE v16) 0) (h2++[(jO x0 (dE (aE v16) (dH (aE (aD h1 (aE v16) 0)) x1))).1]) (x0) (x1) (h0) (h1) ds)))))) else ((0<(h0.length:Int))/\(ds=[aP (.int .i64) (aD h0 0 0),aP (.sl .str) h2,aP (.int .i64) 0])))
end
theorem aVC (ds:List aY) (K:jK) (q:Nat->Value):∀ n,(∀ {x0 x1},aKM n x0 x1 ds->St aG8 (x0,x1,()) ds [] K q)/\(∀ {v11 h0 h1 x0 x1},De n v11 h0 h1 x0 x1 ds->Cu aG8 9 (aVB v11 h0 h1 x0 x1) ds [] K q)/\(∀ {v12 h0 h1 x0 x1 v11},xE n v12 h0 h1 x0 x1 v11 ds->Cu aG8 12 (aO1 v12 h0 h1 x0 x1 v11) ds [] K q)/\(∀ {v16 h2 x0 x1 h0 h1},Gp n v16 h2 x0 x1 h0 h1 ds->Cu aG8 19 (aO2 v16 h2 x0 x1 h0 h1) ds [] K q):=by
 intro n
 induction n with
 | zero=>exact ⟨λh=>h.elim,λh=>h.elim,λh=>h.elim,λh=>h.elim⟩
 | succ n ih =>
 obtain ⟨i,i9,i12,i19⟩:=ih;exact ⟨λ{x0} {x1} h=>tv<|c1 h λh=>bR h (λh=>rh h) λh=>bR h (λh=>bR h (λh=>rh h) λh=>c1 h λh=>c1 h λh=>cS h λs3 h=>cS h λs4 h=>cS h λs5 h=>c3 h λh=>tP s3<|tP s4<|tP s5<|tP s3<|tP s4<|tP s5<|tP (VP [eL 0 gT x0,eL 1 (.int .i64) x1,eI 4 0,(5,.a (.val (.slice none 0 0))),eI 6 0,eI 7 (nO x0 (kD x1) []),eI 8 (x1.length:Int),eW 9 0,eW 10 1,eL 19 gT x0,eL 20 (.int .i64) x1,eB 21 (kD x1),eI 22 (nO x0 (kD x1) []),eI 23 (nO x0 (kD x1) []),eB 24 (nO x0 (kD x1) [] != 0),eL 26 (.int .i64) x1,eI 27 (x1.length:Int),eL 28 gT x0,eI 29 (x0.length:Int),eB 30 ((x0.length:Int)==0),eB 31 ((x0.length:Int)==0),eI 32 (x1.length:Int),eB 33 (decide ((x1.length:Int)>0)),eB 34 (decide ((x1.length:Int)>0)),eI 35 (x1.length:Int),eI 36 ((x1.length:Int)+1),eW 37 0,eI 38 (x1.length:Int),eI 39 ((x1.length:Int)+1),eW 40 1] [jB (.int .i64) (b6 (aE ((x1.length:Int)+1)) 0),jB (.int .i64) (b6 (aE ((x1.length:Int)+1)) 0)])<|c1 h λh=>jp (i9 h)) λh=>tF<|c1 h λh=>c1 h λh=>cS h λs3 h=>cS h λs4 h=>cS h λs5 h=>c3 h λh=>tP s3<|tP s4<|tP s5<|tP s3<|tP s4<|tP s5<|tP (VP [eL 0 gT x0,eL 1 (.int .i64) x1,eI 4 0,(5,.a (.val (.slice none 0 0))),eI 6 0,eI 7 (nO x0 (kD x1) []),eI 8 (x1.length:Int),eW 9 0,eW 10 1,eL 19 gT x0,eL 20 (.int .i64) x1,eB 21 (kD x1),eI 22 (nO x0 (kD x1) []),eI 23 (nO x0 (kD x1) []),eB 24 (nO x0 (kD x1) [] != 0),eL 26 (.int .i64) x1,eI 27 (x1.length:Int),eL 28 gT x0,eI 29 (x0.length:Int),eB 30 ((x0.length:Int)==0),eB 31 ((x0.length:Int)==0),(32,.a (.val (.tuple #[]))),(33,.a (.val (.tuple #[]))),eB 34 false,eI 35 (x1.length:Int),eI 36 ((x1.length:Int)+1),eW 37 0,eI 38 (x1.length:Int),eI 39 ((x1.length:Int)+1),eW 40 1] [jB (.int .i64) (b6 (aE ((x1.length:Int)+1)) 0),jB (.int .i64) (b6 (aE ((x1.length:Int)+1)) 0)])<|c1 h λh=>jp (i9 h),
  λh=>bR h (λh=>c1 h λh=>jp (i12 h)) λh=>jn [(15,.str)] (i19 h),
  λ{v12} {h0} {h1} {x0} {x1} {v11} h=>bR h (λh=>cS h λs0 h=>c2 h λh=>c1 h λh=>bR h (λh=>c1 h λh=>bR h (λh=>tT<|c2 h λh=>cS h λs7 h=>c1 h λh=>cS h λs9 h=>c1 h λh=>cS h λs11 h=>tP s7<|tP s0<|tP s9<|tP s0<|tP s11<|tP (VP [eL 0 gT x0,eL 1 (.int .i64) x1,eI 8 (x1.length:Int),eW 9 0,eW 10 1,eI 11 v11,eI 12 v12,eO 13 2 0 [],eB 14 (tL x0 (dE (aE v11) (dH (aE v12) x1))),eI 49 v12,eI 50 (x1.length:Int),eB 51 (decide (v12<=(x1.length:Int))),(54,gO [pE gT (jO x0 (dE (aE v11) (dH (aE v12) x1))),N1 (tL x0 (dE (aE v11) (dH (aE v12) x1)))]),eL 55 gT x0,eL 56 (.int .i64) x1,eI 57 v11,eI 58 v12,eL 59 (.int .i64) (dE (aE v11) (dH (aE v12) x1)),(60,gO [pE gT (jO x0 (dE (aE v11) (dH (aE v12) x1))),N1 (tL x0 (dE (aE v11) (dH (aE v12) x1)))]),eT 61 gT (jO x0 (dE (aE v11) (dH (aE v12) x1))),eB 62 (tL x0 (dE (aE v11) (dH (aE v12) x1))),eB 63 (tL x0 (dE (aE v11) (dH (aE v12) x1))),eB 64 (tL x0 (dE (aE v11) (dH (aE v12) x1))),eI 65 v12,eI 66 v11,eI 67 (v11+1),eB 68 (v12==v11+1),eB 69 (v12==v11+1),(70,.a (.val (.tuple #[]))),(71,.a (.val (.tuple #[]))),(72,.a (.val (.tuple #[]))),(73,.a (.val (.tuple #[]))),(74,.a (.val (.tuple #[]))),(75,.a (.val (.tuple #[]))),(76,.a (.val (.tuple #[]))),(77,.a (.val (.tuple #[]))),(78,.a (.val (.tuple #[]))),(79,.a (.val (.tuple #[]))),(80,.a (.val (.tuple #[]))),(81,.a (.val (.tuple #[]))),eB 82 true,eB 83 true,eW 84 0,eI 85 v11,eW 86 1,eI 87 v11,eO 88 2 0 [1],eI 89 (jO x0 (dE (aE v11) (dH (aE v12) x1))).2.1,eW 90 0,eI 91 v12,eO 92 0 (aE v12) [],eI 93 (aD h0 (aE v12) 0),eI 94 ((jO x0 (dE (aE v11) (dH (aE v12) x1))).2.1+aD h0 (aE v12) 0),eI 95 v12,eO 96 0 (aE v11) [],eO 97 1 (aE v11) []] [jB (.int .i64) (vA h0 (aE v11) ((jO x0 (dE (aE v11) (dH (aE v12) x1))).2.1+aD h0 (aE v12) 0)),jB (.int .i64) (vA h1 (aE v11) v12),some (fY gT [jO x0 (dE (aE v11) (dH (aE v12) x1))] true none (some false))])<|c1 h λh=>jp (i12 h)) λh=>c2 h λh=>cS h λs7 h=>c1 h λh=>cS h λs9 h=>bR h (λh=>c2 h λh=>c4 h λh=>cS h λs16 h=>tP s7<|tP s0<|tP s9<|tP s0<|tP s16<|tP (VP [eL 0 gT x0,eL 1 (.int .i64) x1,eI 8 (x1.length:Int),eW 9 0,eW 10 1,eI 11 v11,eI 12 v12,eO 13 2 0 [],eB 14 (tL x0 (dE (aE v11) (dH (aE v12) x1))),eI 49 v12,eI 50 (x1.length:Int),eB 51 (decide (v12<=(x1.length:Int))),(54,gO [pE gT (jO x0 (dE (aE v11) (dH (aE v12) x1))),N1 (tL x0 (dE (aE v11) (dH (aE v12) x1)))]),eL 55 gT x0,eL 56 (.int .i64) x1,eI 57 v11,eI 58 v12,eL 59 (.int .i64) (dE (aE v11) (dH (aE v12) x1)),(60,gO [pE gT (jO x0 (dE (aE v11) (dH (aE v12) x1))),N1 (tL x0 (dE (aE v11) (dH (aE v12) x1)))]),eT 61 gT (jO x0 (dE (aE v11) (dH (aE v12) x1))),eB 62 (tL x0 (dE (aE v11) (dH (aE v12) x1))),eB 63 (tL x0 (dE (aE v11) (dH (aE v12) x1))),eB 64 (tL x0 (dE (aE v11) (dH (aE v12) x1))),eI 65 v12,eI 66 v11,eI 67 (v11+1),eB 68 (v12==v11+1),eB 69 (v12==v11+1),eO 70 2 0 [1],eI 71 (jO x0 (dE (aE v11) (dH (aE v12) x1))).2.1,eW 72 0,eI 73 v12,eO 74 0 (aE v12) [],eI 75 (aD h0 (aE v12) 0),eI 76 ((jO x0 (dE (aE v11) (dH (aE v12) x1))).2.1+aD h0 (aE v12) 0),eW 77 0,eI 78 v11,eO 79 0 (aE v11) [],eI 80 (aD h0 (aE v11) 0),eB 81 (decide ((jO x0 (dE (aE v11) (dH (aE v12) x1))).2.1+aD h0 (aE v12) 0<=aD h0 (aE v11) 0)),eB 82 (decide ((jO x0 (dE (aE v11) (dH (aE v12) x1))).2.1+aD h0 (aE v12) 0<=aD h0 (aE v11) 0)),eB 83 (decide ((jO x0 (dE (aE v11) (dH (aE v12) x1))).2.1+aD h0 (aE v12) 0<=aD h0 (aE v11) 0)),eW 84 0,eI 85 v11,eW 86 1,eI 87 v11,eO 88 2 0 [1],eI 89 (jO x0 (dE (aE v11) (dH (aE v12) x1))).2.1,eW 90 0,eI 91 v12,eO 92 0 (aE v12) [],eI 93 (aD h0 (aE v12) 0),eI 94 ((jO x0 (dE (aE v11) (dH (aE v12) x1))).2.1+aD h0 (aE v12) 0),eI 95 v12,eO 96 0 (aE v11) [],eO 97 1 (aE v11) []] [jB (.int .i64) (vA h0 (aE v11) ((jO x0 (dE (aE v11) (dH (aE v12) x1))).2.1+aD h0 (aE v12) 0)),jB (.int .i64) (vA h1 (aE v11) v12),some (fY gT [jO x0 (dE (aE v11) (dH (aE v12) x1))] true none (some false))])<|c1 h λh=>jp (i12 h)) λh=>c1 h λh=>jp (i12 h)) λh=>tF<|c1 h λh=>jp (i12 h)) λh=>c1 h λh=>jp (i9 h),
  λ{v16} {h2} {x0} {x1} {h0} {h1} h=>bR h (λh=>c2 h λh=>c3 h λh=>c1 h λh=>c1 h λh=>c2 h λh=>jn [(15,.str)] (i19 h)) λh=>tP ((by decide):(0:Int)<=(0:Int))<|c1 h λh=>rh h⟩
abbrev oA:=ByteArray×Int×Int×Int×Unit
abbrev Fw (x1:List Int) (a b:Nat):List Int:=(x1.take b).drop a
abbrev Zi (x0:List oA) (x1:List Int) (a b:Nat):Bool:=tL x0 (Fw x1 a b)
abbrev EZ (x0:List oA) (x1:List Int) (a b:Nat):Int:=(jO x0 (Fw x1 a b)).2.1
def Zj (x0:List oA) (x1:List Int) (a b:Nat) (s:List Int×List Int):List Int×List Int :=
 if Zi x0 x1 a b=true then (if b=a+1\/EZ x0 x1 a b+s.1.getD b 0<=s.1.getD a 0 then (s.1.set a (EZ x0 x1 a b+s.1.getD b 0),s.2.set a (b:Int)) else s) else s
def Df (x0:List oA) (x1:List Int) (a:Nat):Nat->Nat->List Int×List Int->List Int×List Int
 | 0,_,s=>s
 | k+1,b,s=>Df x0 x1 a k (b+1) (Zj x0 x1 a b s)
def C5 (x0:List oA) (x1:List Int):Nat->List Int×List Int->List Int×List Int
 | 0,s=>s
 | k+1,s=>C5 x0 x1 k (Df x0 x1 k (x1.length - k) (k+1) s)
def Iv (x0:List oA) (x1:List Int):List Int×List Int:=C5 x0 x1 x1.length (b6 (x1.length+1) 0,b6 (x1.length+1) 0)
def Dg (x0:List oA) (x1:List Int) (e:List Int):Nat->Nat->List ByteArray
 | 0,_=>[]
 | k+1,a=>if a<x1.length then (jO x0 (Fw x1 a (e.getD a 0).toNat)).1 :: Dg x0 x1 e k (e.getD a 0).toNat else []
def Gr (x0:List oA) (x1:List Int):Int:=if (nO x0 (kD x1) [] != 0)=true then nO x0 (kD x1) [] else if x0.length=0/\0<x1.length then 3 else 0
def aDw (x0:List oA) (x1:List Int):Int:=if Gr x0 x1=0 then (Iv x0 x1).1.getD 0 0 else 0
def Md (x0:List oA) (x1:List Int):List ByteArray:=if Gr x0 x1=0 then Dg x0 x1 (Iv x0 x1).2 (x1.length+1) 0 else []
def WL (x0:List oA) (x1:List Int):Int:=Gr x0 x1
def K2 (x0:List oA) (x1:List Int):Prop:=x1.length<=1000/\(∀ f∈x0,(0<=f.2.1/\f.2.1<=1000000)/\1<=f.2.2.1/\1<=f.2.2.2.1)/\∀ y∈x1,0<=y/\y<=1000000000
def aO3 (x0:List oA) (x1:List Int):Prop:=aOz x0 (kD x1) []/\(nO x0 (kD x1) []=0->K2 x0 x1)
theorem Fx (x0:List oA) (s:List Int):∀ (l:List oA) (b:Bool×oA),(∀ f∈l,f∈x0)->(l.foldl (qV s) b).2=b.2\/(l.foldl (qV s) b).2∈x0
 | [],b,_ => .inl rfl
 | f :: l,b,h=>by
  rw [dY];have hr:=Fx x0 s l (qV s b f) λg hg=>h g (aM _ hg);have hs:(qV s b f).2=b.2\/(qV s b f).2=f:=by
   unfold qV;split
   ·split
    ·exact .inr rfl
    ·split
     ·exact .inr rfl
     ·exact .inl rfl
   ·exact .inl rfl
  rcases hr with hr | hr
  ·rcases hs with hs | hs
   ·exact .inl (hr.trans hs)
   ·exact .inr (by rw [hr,hs];exact h f (aQ ..))
  ·exact .inr hr
theorem Zk {x0:List oA} {x1:List Int} (h:K2 x0 x1) (a b:Nat):0<=EZ x0 x1 a b/\EZ x0 x1 a b<=1000000:=by
 rcases Fx x0 (Fw x1 a b) x0 (false,(aC,0,0,0,())) (λf hf=>hf) with e | e
 ·have:EZ x0 x1 a b=0:=by
   show ((x0.foldl (qV (Fw x1 a b)) (false,(aC,0,0,0,()))).2).2.1=0;rw [e]
  omega
 ·exact (h.2.1 _ e).1
theorem Zl (s:List Int):∀ (l:List oA) (b:Bool×oA),(∀ f∈l,WK s f=true)->(b.1=true\/l≠[])->(l.foldl (qV s) b).1=true
 | [],b,_,h=>h.resolve_right (by simp)
 | f :: l,b,hg,h=>by
  rw [dY];refine Zl s l _ (λg hh=>hg g (aM _ hh)) (.inl ?_);unfold qV;rw [if_pos (hg f (aQ ..))];split
  ·rfl
  ·rename_i c;split
   ·rfl
   ·simpa using c
theorem Zm {x0:List oA} {x1:List Int} (h:K2 x0 x1) (hne:x0≠[]) {a:Nat} (ha:a<x1.length):Zi x0 x1 a (a+1)=true:=by
 have e:Fw x1 a (a+1)=[x1.getD a 0]:=by
  unfold Fw;rw [gY,bC ha,iV x1 a 0 ha,List.drop_append_of_le_length (by rw [cJ];omega),dS (by rw [cJ];omega)];rfl
 refine Zl _ x0 _ (λf hf => ?_) (.inr hne);obtain ⟨_,h1,h2⟩:=h.2.1 f hf;rw [e];unfold WK;rw [Bool.and_eq_true,decide_eq_true_eq,decide_eq_true_eq];refine ⟨by simp only [cP];omega,?_⟩;show x1.getD a 0 - x1.getD a 0<_;omega
theorem aKN {x0:List oA} {x1:List Int} (h:K2 x0 x1) {a b:Nat} (hab:a<b) (hb:b<=x1.length):aKL x0 (Fw x1 a b):=by
 refine ⟨?_,λy hy=>h.2.2 y (List.mem_of_mem_take (List.mem_of_mem_drop hy))⟩;unfold Fw;rw [List.length_drop,cJ];omega
structure BY (x1:List Int) (k:Nat) (s:List Int×List Int):Prop where
 l1:s.1.length=x1.length+1
 l2:s.2.length=x1.length+1
 cost:∀ j,k<=j->j<=x1.length->0<=s.1.getD j 0/\s.1.getD j 0<=1000000*((x1.length - j:Nat):Int)
 next:∀ j,k<=j->j<x1.length->(j:Int)<s.2.getD j 0/\s.2.getD j 0<=(x1.length:Int)
theorem Qv (l:List Int) (a j:Nat) (v:Int) (h:a<l.length):(l.set a v).getD j 0=if a=j then v else l.getD j 0:=by
 simp only [bL,List.getElem?_set];by_cases c:a=j
 ·subst c;rw [if_pos rfl,if_pos rfl,if_pos h];rfl
 ·rw [if_neg c,if_neg c]
theorem Ah {x0:List oA} {x1:List Int} (h:K2 x0 x1) {a b:Nat} {s:List Int×List Int} (hi:BY x1 (a+1) s) (hab:a<b) (hb:b<=x1.length):BY x1 a (s.1.set a (EZ x0 x1 a b+s.1.getD b 0),s.2.set a (b:Int)):=by
 obtain ⟨c1,c2⟩:=Zk h a b;obtain ⟨d1,d2⟩:=hi.cost b (by omega) hb;refine ⟨by rw [sV];exact hi.l1,by rw [sV];exact hi.l2,λj h1 h2 => ?_,λj h1 h2 => ?_⟩
 ·rw [Qv _ _ _ _ (by rw [hi.l1];omega)];split
  ·rename_i e;subst e;omega
  ·exact hi.cost j (by omega) h2
 ·rw [Qv _ _ _ _ (by rw [hi.l2];omega)];split
  ·rename_i e;subst e;omega
  ·exact hi.next j (by omega) h2
theorem aKO {x0:List oA} {x1:List Int} (h:K2 x0 x1) (hne:x0≠[]) (a:Nat) (ha:a<x1.length) (ds:List aY) (n:Nat):∀ (k b:Nat) (s:List Int×List Int),b+k=x1.length+1->a<b->BY x1 (a+1) s->(b≠a+1->BY x1 a s) ->
  (BY x1 a (Df x0 x1 a k b s)->De n ((a:Int) - 1) (Df x0 x1 a k b s).1 (Df x0 x1 a k b s).2 x0 x1 ds)->xE (n+k+1) (b:Int) s.1 s.2 x0 x1 (a:Int) ds:=by
 have hl:=h.1;intro k
 induction k with
 | zero =>
  intro b s hb hab hi hi2 hr;rw [lE,xE,if_neg (by simp only [decide_eq_true_eq];omega)];exact ⟨by rw [aK];omega,hr (hi2 (by omega))⟩
 | succ k ih =>
  intro b s hb hab hi hi2 hr;have e3:(b:Int)+1=((b+1:Nat):Int):=by omega
  obtain ⟨c1,c2⟩:=Zk h a b;obtain ⟨d1,d2⟩:=hi.cost b (by omega) (by omega);have hl1:=hi.l1;have hl2:=hi.l2;have hcast:1000000*((x1.length - b:Nat):Int)<=1000000*1000:=by omega
  rw [Df] at hr;have hs:Zj x0 x1 a b s=if Zi x0 x1 a b=true then (if b=a+1\/EZ x0 x1 a b+s.1.getD b 0<=s.1.getD a 0 then (s.1.set a (EZ x0 x1 a b+s.1.getD b 0),s.2.set a (b:Int)) else s) else s:=rfl
  show xE (n+k+1+1) _ _ _ _ _ _ _;rw [xE,if_pos (by simp only [decide_eq_true_eq];omega),e3,aF,aF];have hu:cC .i64 ((b+1:Nat):Int):=by rw [aK];omega
  have hv:cC .i64 (EZ x0 x1 a b+s.1.getD b 0):=by rw [aK];omega
  refine ⟨by omega,by omega,by omega,aKN h hab (by omega),?_⟩;by_cases c:Zi x0 x1 a b=true
  ·rw [if_pos c] at hs;refine (if_pos c).mpr ⟨by rw [aK];omega,?_⟩;by_cases e:b=a+1
   ·rw [if_pos (.inl e)] at hs;refine (if_pos (show ((b:Int)==(a:Int)+1)=true by rw [beq_iff_eq];omega)).mpr ?_;refine ⟨by omega,by omega,hv,by omega,by omega,by omega,by omega,hu,?_⟩;have:=ih (b+1) (Zj x0 x1 a b s) (by omega) (by omega) (by rw [hs];exact ⟨(Ah h hi hab (by omega)).l1,(Ah h hi hab (by omega)).l2,λj h1 h2=>(Ah h hi hab (by omega)).cost j (by omega) h2,λj h1 h2=>(Ah h hi hab (by omega)).next j (by omega) h2⟩) (λ_=>by rw [hs];exact Ah h hi hab (by omega)) hr;rw [hs] at this;exact this
   ·refine (if_neg (show ¬ ((b:Int)==(a:Int)+1)=true by rw [beq_iff_eq];omega)).mpr ?_;refine ⟨by omega,by omega,hv,by omega,by omega,?_⟩;by_cases d:EZ x0 x1 a b+s.1.getD b 0<=s.1.getD a 0
    ·rw [if_pos (.inr d)] at hs;refine (if_pos (decide_eq_true d)).mpr ⟨by omega,by omega,hv,by omega,by omega,by omega,by omega,hu,?_⟩;have:=ih (b+1) (Zj x0 x1 a b s) (by omega) (by omega) (by rw [hs];exact ⟨(Ah h hi hab (by omega)).l1,(Ah h hi hab (by omega)).l2,λj h1 h2=>(Ah h hi hab (by omega)).cost j (by omega) h2,λj h1 h2=>(Ah h hi hab (by omega)).next j (by omega) h2⟩) (λ_=>by rw [hs];exact Ah h hi hab (by omega)) hr;rw [hs] at this;exact this
    ·rw [if_neg (λhh=>hh.elim e d)] at hs;rw [hs] at hr;exact (if_neg (by simpa using d)).mpr ⟨hu,ih (b+1) s (by omega) (by omega) hi (λ_=>hi2 e) hr⟩
  ·have e:b≠a+1:=λe=>c (by rw [e];exact Zm h hne ha);rw [if_neg c] at hs;rw [hs] at hr;exact (if_neg c).mpr ⟨hu,ih (b+1) s (by omega) (by omega) hi (λ_=>hi2 e) hr⟩
theorem aO4 {x0:List oA} {x1:List Int} (h:K2 x0 x1) (hne:x0≠[]) (a:Nat) (ha:a<x1.length):∀ (k b:Nat) (s:List Int×List Int),b+k=x1.length+1->a<b->BY x1 (a+1) s->(b≠a+1->BY x1 a s)->BY x1 a (Df x0 x1 a k b s):=by
 intro k
 induction k with
 | zero=>intro b s hb hab hi hi2;exact hi2 (by omega)
 | succ k ih =>
  intro b s hb hab hi hi2;rw [Df];have hput:=Ah h hi hab (show b<=x1.length by omega);have hput':BY x1 (a+1) (s.1.set a (EZ x0 x1 a b+s.1.getD b 0),s.2.set a (b:Int)):=⟨hput.l1,hput.l2,λj h1 h2=>hput.cost j (by omega) h2,λj h1 h2=>hput.next j (by omega) h2⟩;unfold Zj;by_cases c:Zi x0 x1 a b=true
  ·rw [if_pos c];by_cases d:b=a+1\/EZ x0 x1 a b+s.1.getD b 0<=s.1.getD a 0
   ·rw [if_pos d];exact ih (b+1) _ (by omega) (by omega) hput' (λ_=>hput)
   ·rw [if_neg d];exact ih (b+1) s (by omega) (by omega) hi (λ_=>hi2 λe=>d (.inl e))
  ·have e:b≠a+1:=λe=>c (by rw [e];exact Zm h hne ha);rw [if_neg c];exact ih (b+1) s (by omega) (by omega) hi (λ_=>hi2 e)
theorem aO5 {x0:List oA} {x1:List Int} (h:K2 x0 x1) {s:List Int×List Int} (hi:BY x1 0 s):∀ (k a:Nat) (h2:List ByteArray),x1.length - a<k->a<=x1.length->h2.length<=a->Gp k (a:Int) h2 x0 x1 s.1 s.2 [⟨.int .i64,s.1.getD 0 0⟩,⟨.sl .str,h2++Dg x0 x1 s.2 k a⟩,⟨.int .i64,0⟩]:=by
 have hl:=h.1;have hl1:=hi.l1;have hl2:=hi.l2;intro k
 induction k with
 | zero=>intro a h2 hk;omega
 | succ k ih =>
  intro a h2 hk ha hh;rw [Dg,Gp];by_cases c:a<x1.length
  ·obtain ⟨n1,n2⟩:=hi.next a (bW _) c;obtain ⟨e,he⟩:∃ e:Nat,s.2.getD a 0=(e:Int):=⟨(s.2.getD a 0).toNat,by omega⟩;rw [if_pos (by simp only [decide_eq_true_eq];omega),if_pos c,aF,he,aF];rw [he] at n1 n2;have:=ih e (h2++[(jO x0 (Fw x1 a e)).1]) (by omega) (by omega) (by rw [aO,cP];omega);rw [bS] at this;exact ⟨by omega,by omega,by omega,by omega,by omega,aKN h (by omega) (by omega),by omega,by omega,by omega,this⟩
  ·rw [if_neg (by simp only [decide_eq_true_eq];omega),if_neg c,c6];exact ⟨by omega,rfl⟩
theorem aO6 {x0:List oA} {x1:List Int} (h:K2 x0 x1) (hne:x0≠[]\/x1.length=0) (ds:List aY):∀ (k:Nat) (s:List Int×List Int),k<=x1.length->BY x1 k s->(BY x1 0 (C5 x0 x1 k s)->∃ n,Gp n 0 [] x0 x1 (C5 x0 x1 k s).1 (C5 x0 x1 k s).2 ds)->∃ n,De n ((k:Int) - 1) s.1 s.2 x0 x1 ds:=by
 have hl:=h.1;intro k
 induction k with
 | zero =>
  intro s hk hi hr;obtain ⟨n,hn⟩:=hr hi;refine ⟨n+1,?_⟩;rw [De,if_neg (by simp only [decide_eq_true_eq];omega)];exact hn
 | succ k ih =>
  intro s hk hi hr;have hx:x0≠[]:=hne.resolve_right (by omega);rw [C5] at hr;have e1:((k+1:Nat):Int) - 1=(k:Int):=by omega
  have e2:(k:Int)+1=((k+1:Nat):Int):=by omega
  by_cases hq:BY x1 k (Df x0 x1 k (x1.length - k) (k+1) s)
  ·obtain ⟨n,hn⟩:=ih _ (by omega) hq hr;have:=aKO h hx k (by omega) ds n (x1.length - k) (k+1) s (by omega) (by omega) hi (λhh=>absurd rfl hh) (λ_=>hn);refine ⟨_+1,by
    rw [e1,De,if_pos (by simp only [decide_eq_true_eq];omega),e2];exact ⟨by rw [aK];omega,this⟩⟩
  ·exfalso;exact hq (aO4 h hx k (by omega) (x1.length - k) (k+1) s (by omega) (by omega) hi (λhh=>absurd rfl hh))
theorem aVD (x0:List oA) (x1:List Int) (h:aO3 x0 x1):∃ n,aKM n x0 x1 [⟨.int .i64,aDw x0 x1⟩,⟨.sl .str,Md x0 x1⟩,⟨.int .i64,WL x0 x1⟩]:=by
 obtain ⟨p,ho⟩:=h;unfold aDw Md WL;have hc:Gr x0 x1=if (nO x0 (kD x1) [] != 0)=true then nO x0 (kD x1) [] else if x0.length=0/\0<x1.length then 3 else 0:=rfl
 by_cases c:(nO x0 (kD x1) [] != 0)=true
 ·rw [if_pos c] at hc;have hn:¬ Gr x0 x1=0:=by rw [hc];simpa using c
  refine ⟨1,?_⟩;rw [aKM,if_pos c,if_neg hn,if_neg hn,hc];exact ⟨p,rfl⟩
 ·rw [if_neg c] at hc;have hok:=ho (by simpa using c);have hl:=hok.1;by_cases d:x0.length=0/\0<x1.length
  ·rw [if_pos d] at hc;refine ⟨1,?_⟩;rw [aKM,if_neg c,if_pos (show ((x0.length:Int)==0)=true by rw [beq_iff_eq];omega),if_pos (show decide ((x1.length:Int)>0)=true by simp only [decide_eq_true_eq];omega),hc,if_neg (by decide),if_neg (by decide)];exact ⟨p,rfl⟩
  ·rw [if_neg d] at hc;have hne:x0≠[]\/x1.length=0:=by
    cases x0 with
    | nil=>exact .inr (by simp at d;rw [d];rfl)
    | cons f l=>exact .inl (by simp)
   have h0:BY x1 x1.length (b6 (x1.length+1) 0,b6 (x1.length+1) 0):=by
    refine ⟨by simp,by simp,λj h1 h2 => ?_,λj h1 h2=>by omega⟩;have:(b6 (x1.length+1) (0:Int)).getD j 0=0:=by
     rw [bL,List.getElem?_replicate];split <;> rfl
    rw [this];omega
   obtain ⟨n,hn⟩:=aO6 hok hne [⟨.int .i64,(Iv x0 x1).1.getD 0 0⟩,⟨.sl .str,Dg x0 x1 (Iv x0 x1).2 (x1.length+1) 0⟩,⟨.int .i64,0⟩] x1.length _ (aT _) h0 (λhi=>⟨x1.length+1,by
    have:=aO5 hok hi (x1.length+1) 0 [] (by omega) (bW _) (aT _);exact this⟩)
   have e:aE ((x1.length:Int)+1)=x1.length+1:=by omega
   have stuff:cC .i64 ((x1.length:Int)+1)/\cC .i64 ((x1.length:Int)+1)/\(0<=(x1.length:Int)+1)/\((x1.length:Int)+1<=(x1.length:Int)+1)/\(8*((x1.length:Int)+1)<=281474976710656)/\(0<=(x1.length:Int)+1)/\((x1.length:Int)+1<=(x1.length:Int)+1)/\(8*((x1.length:Int)+1)<=281474976710656)/\cC .i64 ((x1.length:Int) - 1)/\De n ((x1.length:Int) - 1) (b6 (aE ((x1.length:Int)+1)) 0) (b6 (aE ((x1.length:Int)+1)) 0) x0 x1 [⟨.int .i64,(Iv x0 x1).1.getD 0 0⟩,⟨.sl .str,Dg x0 x1 (Iv x0 x1).2 (x1.length+1) 0⟩,⟨.int .i64,0⟩]:=by
    rw [e];exact ⟨by rw [aK];omega,by rw [aK];omega,by omega,by omega,by omega,by omega,by omega,by omega,by rw [aK];omega,hn⟩
   refine ⟨n+1,?_⟩;rw [aKM,if_neg c,hc,if_pos rfl,if_pos rfl];refine ⟨p,?_⟩;by_cases e0:((x0.length:Int)==0)=true
   ·refine (if_pos e0).mpr ((if_neg ?_).mpr stuff);rw [beq_iff_eq] at e0;simp only [decide_eq_true_eq];omega
   ·exact (if_neg e0).mpr stuff
def bCW:=dR aG8 (λ⟨x0,x1,_⟩=>aO3 x0 x1) λ⟨x0,x1,_⟩=>[⟨.int .i64,aDw x0 x1⟩,⟨.sl .str,Md x0 x1⟩,⟨.int .i64,WL x0 x1⟩]
theorem aVE:c7 157 bCW:=dF bKS (λ⟨x0,x1,_⟩ h hwf K q =>
 let ⟨n,hn⟩:=aVD x0 x1 h
 (aVC _ K q n).1 hn)
end
end Go.Proofs.YtmhpnodnljbnjaaGreatDoor
