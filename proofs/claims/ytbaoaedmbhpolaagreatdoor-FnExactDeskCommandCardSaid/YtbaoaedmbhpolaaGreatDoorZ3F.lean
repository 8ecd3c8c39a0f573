/- The functions that this law reaches, and their laws. -/
import Derived.Test.YtbaoaedmbhpolaaGreatDoorZ3E
set_option linter.unusedVariables false
set_option linter.unusedSimpArgs false
set_option linter.defProp false
open Bool renaming and_eq_true->aT,eq_false_iff->bV,eq_iff_iff->oF,false_eq_true->gE,noConfusion->Sh,not_true->vJ
open ByteArray renaming data->bO,empty->aC,extract->aO,mk->aA,size->aG,size_append->dH,size_extract->mW,toList->aB
open Classical renaming byContradiction->kR
open False renaming elim->aH
open Go.Am.aS renaming mk->aI
open Go.Am.jD renaming mk->iX
open Go.Lib renaming countB->gX,cut->lC,join->uC,joinTail->iW,join_cons->pD,trimRightB->fO
open Go.Op renaming bytesLess->bL
open Go.Proofs.Tryz renaming func172->tg,func3->H7,func5->aDu,func63->aAL,func64->aAM,func65->aAN,func66->aAO,func67->aAP,func68->aAQ,func69->aAR,func70->aAS,func9->aDv,func91->aAK
open Int renaming eq_ofNat_of_zero_le->eG,ofNat_le->Bq,tdiv->aQ,toNat->aE,toNat_natCast->aK
open List renaming any_eq_false->fC,any_eq_true->Fa,count_pos_iff->kV,eq_nil_of_length_eq_zero->bN,getD->aD,length->aF,length_append->bS,length_cons->cH,length_map->eV,map_congr_left->pM,map_cons->dY,map_map->mY,mem_cons->bA,mem_cons_of_mem->aM,mem_cons_self->aR,mem_map->cW,replicate->aP
open Nat renaming le_refl->aU,mul_le_mul->yO,zero_add->cO,zero_le->aY
set_option maxRecDepth 100000
namespace Go.Proofs.YtbaoaedmbhpolaaGreatDoor
open Go Go.Am Go.Proofs
noncomputable section
def P7(x0:bF)(x1:Δ):Prop:=if !zC x0 then True else ik x1/\if !BX x1 then True else P39 x0/\P40 (cX x0) (hY x1)/\if !gP (cX x0) (hY x1)then True else if fU (cX x0) (hY x1) != 0 then P39 x0/\P41 (fU (cX x0) (hY x1))/\6+aG (TZ (fU (cX x0) (hY x1)))<=9223372036854775807/\True else if(↑(aF (fM (cX x0) (hY x1))):Int)==0 then True else if(↑(aF (fM (cX x0) (hY x1))):Int)==1 then 0<(↑(aF (fM (cX x0) (hY x1))):Int)/\True else True
def dR(x0:bF)(x1:Δ):bF:=if !zC x0 then([],(0,0,0,0,()),[],[],(0,0,0,()),(0,0,0,()),[],(0,0,0,0,()),[],[],[],[],())else if !BX x1 then([],(0,0,0,0,()),[],[],(0,0,0,()),(0,0,0,()),[],(0,0,0,0,()),[],[],[],[],())else if !gP (cX x0) (hY x1)then([],(0,0,0,0,()),[],[],(0,0,0,()),(0,0,0,()),[],(0,0,0,0,()),[],[],[],[],())else if fU (cX x0) (hY x1) != 0 then cX x0 else if(↑(aF (fM (cX x0) (hY x1))):Int)==0 then gT (cX x0) (hY x1)else if(↑(aF (fM (cX x0) (hY x1))):Int)==1 then(if aB (aD (fM (cX x0) (hY x1)) 0 aC)==aB (aA #[])then gT (cX x0) (hY x1)else gT (cX x0) (hY x1))else gT (cX x0) (hY x1)
def DI(x0:bF)(x1:Δ):Γ Δ:=if !zC x0 then [] else if !BX x1 then [] else if !gP (cX x0) (hY x1)then [] else if fU (cX x0) (hY x1) != 0 then [aA #[101,114,114,111,114,32]++TZ (fU (cX x0) (hY x1))] else if(↑(aF (fM (cX x0) (hY x1))):Int)==0 then [aA #[110,111,110,101]] else if(↑(aF (fM (cX x0) (hY x1))):Int)==1 then(if aB (aD (fM (cX x0) (hY x1)) 0 aC)==aB (aA #[])then [aA #[110,111,110,101]] else fM (cX x0) (hY x1))else fM (cX x0) (hY x1)
def SS(x0:bF)(x1:Δ):Int:=if !zC x0 then 1 else if !BX x1 then 8 else if !gP (cX x0) (hY x1)then 8 else if fU (cX x0) (hY x1) != 0 then 0 else if(↑(aF (fM (cX x0) (hY x1))):Int)==0 then 0 else if(↑(aF (fM (cX x0) (hY x1))):Int)==1 then(if aB (aD (fM (cX x0) (hY x1)) 0 aC)==aB (aA #[])then 0 else 0)else 0
def kx7:KK:=mB Tryz.func7 [.v iT,.v (.str)] [.cons (.sl eC) YA1,.sl .str,.int .i64] [bDa,bJF,bJG,bJA,bJB] P7 (dR,DI,SS,()) λ_=>bH<|Yz pr<|aL<|Yz pr<|aL<|aL<|Yz pr<|Yz (aL<|aL<|aL pr)<|Yz (jM pr)<|Yz (pq 0<|aL<|pe3 pr pr)<|dK pr
end
def aCU(l:Γ b6):aHl l:=λh=>by
 obtain⟨h1,h2⟩:=wI h;refine⟨by lia,λf hf=>?_⟩;obtain⟨q1,q2,q3⟩:=h2 f hf;obtain⟨a,b,c,e,p,_⟩:=Kw q1;refine⟨p,B9 _,B9 _,λx hx=>?_⟩;unfold Dc at hx;simp at hx;rcases hx with rfl | rfl | rfl
 ·rw[e,show (dT a b c).size=10 from rfl];lia
 all_goals grind [JO,aJ]
def Few(ls:Γ Δ):Prop:=ls.length<=1000/\∀l∈ls,l.size<=50000000
def yz{s:Δ}(h:s.size<=50000000):Few [s]:=⟨by simp,λl hl=>by grind⟩
theorem zd:Few []:=⟨aY _,λl hl=>by grind⟩
theorem aOM(l:Γ Δ):Few (HC l):=by
 unfold HC;split
 ·exact zd
 ·rename_i c;have c:=nb c;obtain⟨a,c⟩:=z7 c;unfold Gz at c;rw[Xu,Bool.not_eq_true',fC]at c;refine⟨by lia,λs hs=>?_⟩;have q:¬(!SK s)=true:=c s hs;unfold SK at q
  lia
def aCW(l:Γ b6):Few (BN l):=by
 grind [BN,E7,zd,aOM]
theorem aEU:∀(w:Γ (Γ UInt8)) (M:Nat),(∀x∈w,x.length<=M)->(iW [44] w).length<=w.length*(M+1)
 | [],M,_=>by simp[iW]
 | x::r,M,h=>by
  have:=aEU r M (λy hy=>h y (aM _ hy));have hx:=h x (aR ..);simp[iW]at this ⊢
  lia
def UR(l:Γ Int):(hJ l).size<=50000000:=by
 unfold hJ;split
 ·exact aY _
 ·rename_i c1;split
  ·exact aY _
  ·rename_i c2;split
   ·show 1<=50000000;lia
   ·unfold wH at c2;rw[Wc,Fa]at c2;have hv:∀x∈l,(dA x).data.toList.length<=21:=λx hx=>by
     have q:¬(!Rb x)=true:=λq=>c2 ⟨x,hx,q⟩;have w:=wi (show bE x (-1000000000000) 1000000000000=true from nb q);have:=JO (x:=x) (by grind [aJ]);simp_all
    show (uC (List.map (λx=>x.data.toList) (l.map dA)) [44]).toArray.size<=_;rw[List.size_toArray,mY];cases l with
    | nil=>grind
    | cons a r =>
     rw[dY,pD];have ha:=hv a (aR ..);have hr:=aEU (r.map (λx=>(dA x).data.toList)) 21 (λy hy=>by
      grind)
     rw[eV]at hr;simp at c1;rw[bS];show (dA a).data.toList.length+(iW [44] (r.map (λx=>(dA x).data.toList))).length<=_
     lia
def aON{s:Δ}(h:s6 s=true):s.size<=10:=by
 unfold s6 at h
 lia
def de(l:Γ dO)(t:Γ Int):Few (BC l t):=by
 unfold BC;split
 ·rename_i c;have q:lU l=true/\jB t=true:=by
   unfold B8 lG at c
   lia
  have t1:=(Wq q.2).1;have key:∀(e:Γ Int) (k a:Nat),(wC l t e k a).length<=k/\∀s∈wC l t e k a,s.size<=50000000:=by
   intro e k
   induction k with
   | zero=>exact λa=>⟨aU _,λs hs=>by cases hs⟩
   | succ k ih =>
    intro a;unfold wC;split
    ·refine⟨by grind,λs hs=>?_⟩;rcases bA.1 hs with rfl | hs
     ·rcases JC l (w8 t a (e.getD a 0).toNat) l (false,(aC,0,0,0,())) (λf hf=>hf)with h | h
      ·show (Ma l _).2.1.size<=_;unfold Ma;simp_all
      ·have hn:=(iz (NE q.1 _ h)).1;have:=aON hn;show (Ma l _).2.1.size<=_
       grind [Ma]
     grind
    simp
  obtain⟨k1,k2⟩:=key (wB l t).2 (t.length+1) 0;exact⟨by lia,k2⟩
 simp[zd]
theorem aYY(x k:Δ)(hk:1<=k.size):(aW x k).length=gX x k+1:=Lib.splitB_all k hk 0 (gX x k) x rfl
def aEV(x k:Δ)(i:Nat):((aW x k).getD i aC).size<=x.size:=by
 by_cases c:i<(aW x k).length
 ·exact sX k 0 _ _ _ (cF (aW x k) i aC c)
 simp_all
theorem aEW{k:Δ}(hk:1<=k.size):(aW (aA #[]) k).length=1:=by
 rw[aYY _ _ hk];have:=Lib.countB_le k hk 0 (aA #[]) (aU _);have e:(aA #[]).size=0:=rfl
 lia
def LD(t s:Δ):(iV t s).size<=t.size/\(eD t s).size<=t.size:=by
 obtain⟨l1,l2⟩:=cg t.data.toList s.data.toList;have e:t.data.toList.length=t.size:=rfl;have a1:(iV t s).size=(lC t.data.toList s.data.toList).1.length:=by
  rfl
 have a2:(eD t s).size=(lC t.data.toList s.data.toList).2.1.length:=by
  rfl
 lia
def aYZ(x:Δ):(fK x).length=0\/(fK x).length=(aW x (aA #[44])).length:=by
 unfold fK EH;split
 ·simp
 ·split
  ·exact .inr (by show (kP x).length=_;unfold kP;rw[eV];rfl)
  simp
theorem US(k:Nat)(hk:2<=k):(fK (aA #[])).length≠k:=by
 rcases aYZ (aA #[])with h | h
 ·lia
 ·rw[aEW (by decide)]at h;lia
theorem km(k:Δ):iV (aA #[]) k=aA #[]/\eD (aA #[]) k=aA #[]:=by
 have hz:∀s:Δ,s.size<=0->s=aA #[]:=λs hs=>by
  obtain⟨⟨l⟩⟩:=s;cases l with
  | nil=>rfl
  | cons a r=>exact absurd hs (by show ¬(r.length+1<=0);lia)
 have h:=LD (aA #[]) k;exact⟨hz _ h.1,hz _ h.2⟩
variable {x:Δ}
def LF(h:x.size<=1048576)(k:Int):aO5 x k:=by
 have:=(LD x (aA #[32])).2;exact⟨show x.size<4294967281 by lia,show (eD x (aA #[32])).size<=1048576 by lia,trivial⟩
def aEX(h:x.size<=1048576):aO7 x/\(yF x=true->oX (lV x)=true):=by
 unfold aO7 yF lV;by_cases c:(!Ci x 3)=true
 ·rw[π c];exact⟨⟨LF h 3,trivial⟩,λh=>by lia⟩
 ·rw[ν c];have hl:((gL x 3).length:Int)=3:=by grind [Ci,gL]
  have hs:=(LD x (aA #[32])).1;generalize hb:(Ch x 3,(gL x 3).getD 0 0,(gL x 3).getD 1 0,(gL x 3).getD 2 0,())=b;have hb1:b.1.size<=1048576:=by rw[<- hb];show (iV x (aA #[32])).size<=_;lia
  have hp:aO6 b:=by
   unfold aO6;have:=UR [b.2.1,b.2.2.1,b.2.2.2.1];rw[dH,show (aA #[32]).size=1 from rfl];lia
  refine⟨⟨LF h 3,by lia,by lia,by lia,hp,trivial⟩,λe=>?_⟩;by_cases t:(!aB (Nd b)==aB x)=true
  ·lia
  ·have t:=(bC _ _).1 (nb t);cases v:oX b
   ·unfold Nd at t;rw[v]at t;subst t;have:(fK (eD (aA #[]) (aA #[32]))).length=3:=by
     have hl:(((fK (eD (aA #[]) (aA #[32]))).length:Nat):Int)=3:=hl
     lia
    grind [km,US]
   lia
def aEY(h:x.size<=1048576):aO9 x/\(yG x=true->s8 (lX x)=true):=by
 unfold aO9 yG lX;by_cases c:(!Ci x 3)=true
 ·rw[π c];exact⟨⟨LF h 3,trivial⟩,λh=>by lia⟩
 ·rw[ν c];have hl:((gL x 3).length:Int)=3:=by grind [Ci,gL]
  have hs:=(LD x (aA #[32])).1;generalize hb:(Ch x 3,(gL x 3).getD 0 0,(gL x 3).getD 1 0,(gL x 3).getD 2 0,())=b;have hb1:b.1.size<=1048576:=by rw[<- hb];show (iV x (aA #[32])).size<=_;lia
  have hp:aO8 b:=by
   unfold aO8;have:=UR [b.2.1,b.2.2.1,b.2.2.2.1];rw[dH,show (aA #[32]).size=1 from rfl];lia
  refine⟨⟨LF h 3,by lia,by lia,by lia,hp,trivial⟩,λe=>?_⟩;by_cases t:(!aB (Nf b)==aB x)=true
  ·lia
  ·have t:=(bC _ _).1 (nb t);cases v:s8 b
   ·unfold Nf at t;rw[v]at t;subst t;have:(fK (eD (aA #[]) (aA #[32]))).length=3:=by
     have hl:(((fK (eD (aA #[]) (aA #[32]))).length:Nat):Int)=3:=hl
     lia
    grind [km,US]
   lia
def T1(h:x.size<=1048576):aOA x:=by
 refine⟨⟨by lia,by decide⟩,Fc λc=>?_⟩;have:=aEV x (aA #[32]) 2;exact⟨by lia,by lia,show _<=281474976710656 by lia,by lia,trivial⟩
def df(h:x.size<=1048576):aYe x/\(wN x=true->xY (lK x)=true):=by
 refine⟨⟨T1 h,trivial⟩,?_⟩;unfold wN lK
 lia
def aEZ(h:x.size<=1048576):aYe x/\(wN x=true->xY (lK x)=true):=by
 refine⟨⟨T1 h,trivial⟩,?_⟩;unfold wN lK
 lia
def aFa(h:x.size<=1048576):aOB x/\(AH x=true->xW (o6 x)=true):=by
 unfold aOB AH o6;refine⟨⟨⟨h,trivial⟩,Fc λc=>?_⟩,λe=>?_⟩
 ·have hl:((cT x 3).length:Int)=3:=by grind [kN,cT]
  lia
 lia
def ze(h:x.size<=1048576):aOB x/\(Gv x=true->rX (Ji x)=true):=by
 unfold aOB Gv Ji;refine⟨⟨⟨h,trivial⟩,Fc λc=>?_⟩,λe=>?_⟩
 ·have hl:((cT x 3).length:Int)=3:=by grind [kN,cT]
  lia
 lia
def aFb(h:x.size<=1048576):aOC x/\(Gu x=true->wF (Jh x)=true):=by
 unfold aOC Gu Jh;refine⟨⟨⟨h,trivial⟩,Fc λc=>?_⟩,λe=>?_⟩
 ·have hl:((cT x 4).length:Int)=4:=by grind [kN,cT]
  lia
 lia
def zf(h:x.size<=1048576):aOC x/\(Gw x=true->q8 (Jj x)=true):=by
 unfold aOC Gw Jj;refine⟨⟨⟨h,trivial⟩,Fc λc=>?_⟩,λe=>?_⟩
 ·have hl:((cT x 4).length:Int)=4:=by grind [kN,cT]
  lia
 lia
def dh(h:x.size<=1048576):aGG x/\(wM x=true->qZ (lJ x)=true):=by
 have hs:=λi=>aEV x (aA #[32]) i;have hd:=λi=>aBY (x:=(aW x (aA #[32])).getD i aC) (by grind);have hz:∀n,0<=n->n<=1440->(EF n).size=5:=λn h0 h1=>by
  obtain⟨k,rfl⟩:=eG h0;have e:=PE (n:=k) (by lia);rw[e];rfl
 unfold aGG wM lJ;by_cases c:(((aW x (aA #[32])).length:Int) != 3)=true
 ·rw[π c];exact⟨⟨⟨by lia,by decide⟩,trivial⟩,λh=>by lia⟩
 ·rw[ν c];have hl:((aW x (aA #[32])).length:Int)=3:=by lia
  generalize hb:((aW x (aA #[32])).getD 0 aC,q9 ((aW x (aA #[32])).getD 1 aC),q9 ((aW x (aA #[32])).getD 2 aC),())=b;have hb1:b.1.size<=1048576:=by grind
  have hp:aLk b:=by
   refine Fc λv=>?_;have m:=JM (a:=b.1) (n:=b.2.1) (m:=b.2.2.1) (nb v);have z1:=hz b.2.1 m.1 m.2.1;have z2:=hz b.2.2.1 m.2.2.1 m.2.2.2;have i1:(aA #[32]).size=1:=rfl;simp only[dH];exact⟨by lia,UI _,by lia,by lia,UI _,by lia,trivial⟩
  refine⟨⟨⟨by lia,by decide⟩,by lia,by lia,hd 1,by lia,hd 2,hp,trivial⟩,λe=>?_⟩;by_cases t:(!aB (Cj b)==aB x)=true
  ·lia
  ·have t:=(bC _ _).1 (nb t);cases v:qZ b
   ·unfold Cj at t;rw[v]at t;have t:aA #[]=x:=t;subst t;rw[aEW (by decide)]at hl
    lia
   lia
def aOO(h:x.size<=1048576):xn x/\(C6 x=true->tI (rB x)=true):=by
 have hc:=LD x (aA #[32]);have hd:aGt (iV x (aA #[32])):=aEx _ (by lia);unfold xn C6 rB;by_cases c:(!u2 (iV x (aA #[32])))=true
 ·rw[π c];exact⟨⟨show x.size<4294967281 by lia,hd,⟨show (eD x (aA #[32])).size<=1048576 by lia,trivial⟩,trivial⟩,λh=>by lia⟩
 ·rw[ν c];by_cases c2:(!kN (eD x (aA #[32])) 2)=true
  ·rw[π c2];exact⟨⟨show x.size<4294967281 by lia,hd,⟨show (eD x (aA #[32])).size<=1048576 by lia,trivial⟩,trivial⟩,λh=>by lia⟩
  ·rw[ν c2];have hl:((cT (eD x (aA #[32])) 2).length:Int)=2:=by simpa [kN,cT] using nb c2
   generalize hb:(rY (iV x (aA #[32])),(cT (eD x (aA #[32])) 2).getD 0 0,(cT (eD x (aA #[32])) 2).getD 1 0,())=b;have hp:aKd b:=by
    have z:=UR [b.2.1,b.2.2.1];refine Fc λv=>?_;obtain⟨p,q,r,e,dp,_⟩:=Kw (Kv (nb v)).1;have i1:(aA #[32]).size=1:=rfl;have i2:(dT p q r).size=10:=rfl
    grind
   refine⟨⟨show x.size<4294967281 by lia,hd,⟨show (eD x (aA #[32])).size<=1048576 by lia,trivial⟩,by lia,by lia,hp,trivial⟩,λe=>?_⟩;by_cases t:(!aB (EI b)==aB x)=true
   ·lia
   ·have t:=(bC _ _).1 (nb t);cases v:tI b
    ·unfold EI at t;rw[v]at t;subst t;have:(fK (eD (aA #[]) (aA #[32]))).length=2:=by
      have hl:(((fK (eD (aA #[]) (aA #[32]))).length:Nat):Int)=2:=hl
      lia
     grind [km,US]
    lia
theorem E8(a b:Δ):(Gx a b<0↔Kl a b)/\(Gx a b=0↔a=b):=by
 unfold Gx Kl;simp[aNT];by_cases h:bL (aB a) (aB b)=true
 ·grind [Kk]
 ·by_cases k:a=b
  ·lia
  ·have kk:(aB a==aB b)=false:=bV.2 λq=>k ((bC a b).1 q)
   lia
def UT(l:Γ dO):oY l=true↔((∀x∈l,oX x=true)/\l.Pairwise λa b=>Kl a.1 b.1)/\l.length<=12:=by
 unfold oY;rw[aT,ε];have key:=PR oX (λa b:dO=>Kl a.1 b.1) (λa b:dO => !(bL (aB b.1) (aB a.1)||aB b.1==aB a.1)) (aC,(0:Int),(0:Int),(0:Int),()) (λa b=>by rw[EE];rfl) (λ_ _ _=>Kl.trans) l;rw[<- key];rfl
def aFc{l:Γ dO}(hv:oY l=true)(x:dO):Jn l x 12/\wP l x 12=pL l x 12/\o7 l x 12=pC l x 12:=by
 obtain⟨⟨h1,h2⟩,h3⟩:=(UT l).1 hv;have hk:Xf l x (some 199)=(l.filter λy=>EO y.1 x.1).length:=XA h2 x (aC,(0:Int),(0:Int),(0:Int),()) _ λi _=>by
  unfold Jl;rw[ε];exact(E8 _ _).1
 have q:=PS h2 x;have hg:nM l x (some 199)=(((l.filter λy=>EO y.1 x.1).length:Nat):Int):=by unfold nM;rw[hk]
 have hf:lY l x (some 199)=Al l x.1:=by
  unfold lY PX;rw[hk];by_cases c:(l.filter λy=>EO y.1 x.1).length<l.length
  ·rw[π c, <- q.has (aC,(0:Int),(0:Int),(0:Int),()) c];exact oF.2 (by rw[beq_iff_eq,ε];exact(E8 _ _).2)
  ·rw[ν c,q.no c]
 have hi:kd l (((l.filter λy=>EO y.1 x.1).length:Nat):Int) [x]=pR l x:=by
  show l.take (aE _)++([x]++l.drop (aE _))=_;rw[aK,q.tk,q.dr]<;>rfl
 have hl:=q.le;unfold Jn wP o7 pL pC;rw[hf,hg,show aPW l=l from rfl,hi];refine⟨⟨⟨show l.length<=4611686018427387903 by omega,λy _=>⟨rfl,trivial⟩⟩,Fc λ_=>Fc λ_=>⟨show l.length<=1048576 by omega,⟨by omega,Bq.2 hl,rfl,show l.length<=1048576 by omega⟩,trivial⟩⟩,?_,?_⟩
 ·cases Al l x.1
  ·by_cases c:(l.length:Int)>=12
   ·rw[decide_eq_true c,π c]<;>rfl
   ·rw[decide_eq_false c,ν c]<;>rfl
  ·rfl
 ·cases Al l x.1
  ·by_cases c:(l.length:Int)>=12
   ·rw[decide_eq_true c,π c]<;>rfl
   ·rw[decide_eq_false c,ν c]<;>rfl
  ·rfl
def zg{l:Γ dO}(hv:oY l=true)(x:dO):Jn l x 12/\(oX x=true->o7 l x 12=0->oY (wP l x 12)=true):=by
 obtain⟨⟨h1,h2⟩,h3⟩:=(UT l).1 hv;obtain⟨p,e,_⟩:=aFc hv x;refine⟨p,λhx _=>?_⟩;rw[e];exact(UT _).2 ⟨⟨XB h1 hx,yf h2⟩,by have:=XC l x 12 (by lia);lia⟩
def LG(l:Γ bP):oW l=true↔((∀x∈l,qZ x=true)/\l.Pairwise λa b=>Kl a.1 b.1)/\l.length<=12:=by
 unfold oW;rw[aT,ε];have key:=PR qZ (λa b:bP=>Kl a.1 b.1) (λa b:bP => !(bL (aB b.1) (aB a.1)||aB b.1==aB a.1)) (aC,(0:Int),(0:Int),()) (λa b=>by rw[EE];rfl) (λ_ _ _=>Kl.trans) l;rw[<- key];rfl
variable {l:Γ bP}
def di(hv:oW l=true)(x:bP):Jq l x 12/\wQ l x 12=pL l x 12/\o8 l x 12=pC l x 12:=by
 obtain⟨⟨h1,h2⟩,h3⟩:=(LG l).1 hv;have hk:Xi l x (some 202)=(l.filter λy=>EO y.1 x.1).length:=XA h2 x (aC,(0:Int),(0:Int),()) _ λi _=>by
  unfold Jo;rw[ε];exact(E8 _ _).1
 have q:=PS h2 x;have hg:nN l x (some 202)=(((l.filter λy=>EO y.1 x.1).length:Nat):Int):=by unfold nN;rw[hk]
 have hf:lZ l x (some 202)=Al l x.1:=by
  unfold lZ PY;rw[hk];by_cases c:(l.filter λy=>EO y.1 x.1).length<l.length
  ·rw[π c, <- q.has (aC,(0:Int),(0:Int),()) c];exact oF.2 (by rw[beq_iff_eq,ε];exact(E8 _ _).2)
  ·rw[ν c,q.no c]
 have hi:ke l (((l.filter λy=>EO y.1 x.1).length:Nat):Int) [x]=pR l x:=by
  show l.take (aE _)++([x]++l.drop (aE _))=_;rw[aK,q.tk,q.dr]<;>rfl
 have hl:=q.le;unfold Jq wQ o8 pL pC;rw[hf,hg,show aPZ l=l from rfl,hi];refine⟨⟨⟨show l.length<=4611686018427387903 by omega,λy _=>⟨rfl,trivial⟩⟩,Fc λ_=>Fc λ_=>⟨show l.length<=1048576 by omega,⟨by omega,Bq.2 hl,rfl,show l.length<=1048576 by omega⟩,trivial⟩⟩,?_,?_⟩
 ·cases Al l x.1
  ·by_cases c:(l.length:Int)>=12
   ·rw[decide_eq_true c,π c]<;>rfl
   ·rw[decide_eq_false c,ν c]<;>rfl
  ·rfl
 ·cases Al l x.1
  ·by_cases c:(l.length:Int)>=12
   ·rw[decide_eq_true c,π c]<;>rfl
   ·rw[decide_eq_false c,ν c]<;>rfl
  ·rfl
def YL(hv:oW l=true)(x:bP):Jq l x 12/\(qZ x=true->o8 l x 12=0->oW (wQ l x 12)=true):=by
 obtain⟨⟨h1,h2⟩,h3⟩:=(LG l).1 hv;obtain⟨p,e,_⟩:=di hv x;refine⟨p,λhx _=>?_⟩;rw[e];exact(LG _).2 ⟨⟨XB h1 hx,yf h2⟩,by have:=XC l x 12 (by lia);lia⟩
def UU(l:Γ dO):lU l=true↔((∀x∈l,s8 x=true)/\l.Pairwise λa b=>Kl a.1 b.1)/\l.length<=8:=by
 unfold lU;rw[aT,ε];have key:=PR s8 (λa b:dO=>Kl a.1 b.1) (λa b:dO => !(bL (aB b.1) (aB a.1)||aB b.1==aB a.1)) (aC,(0:Int),(0:Int),(0:Int),()) (λa b=>by rw[EE];rfl) (λ_ _ _=>Kl.trans) l;rw[<- key];rfl
def aFd{l:Γ dO}(hv:lU l=true)(x:dO):Jt l x 8/\wR l x 8=pL l x 8/\o9 l x 8=pC l x 8:=by
 obtain⟨⟨h1,h2⟩,h3⟩:=(UU l).1 hv;have hk:Xf l x (some 205)=(l.filter λy=>EO y.1 x.1).length:=XA h2 x (aC,(0:Int),(0:Int),(0:Int),()) _ λi _=>by
  unfold Jl;rw[ε];exact(E8 _ _).1
 have q:=PS h2 x;have hg:nM l x (some 205)=(((l.filter λy=>EO y.1 x.1).length:Nat):Int):=by unfold nM;rw[hk]
 have hf:lY l x (some 205)=Al l x.1:=by
  unfold lY PX;rw[hk];by_cases c:(l.filter λy=>EO y.1 x.1).length<l.length
  ·rw[π c, <- q.has (aC,(0:Int),(0:Int),(0:Int),()) c];exact oF.2 (by rw[beq_iff_eq,ε];exact(E8 _ _).2)
  ·rw[ν c,q.no c]
 have hi:kd l (((l.filter λy=>EO y.1 x.1).length:Nat):Int) [x]=pR l x:=by
  show l.take (aE _)++([x]++l.drop (aE _))=_;rw[aK,q.tk,q.dr]<;>rfl
 have hl:=q.le;unfold Jt wR o9 pL pC;rw[hf,hg,show aPW l=l from rfl,hi];refine⟨⟨⟨show l.length<=4611686018427387903 by omega,λy _=>⟨rfl,trivial⟩⟩,Fc λ_=>Fc λ_=>⟨show l.length<=1048576 by omega,⟨by omega,Bq.2 hl,rfl,show l.length<=1048576 by omega⟩,trivial⟩⟩,?_,?_⟩
 ·cases Al l x.1
  ·by_cases c:(l.length:Int)>=8
   ·rw[decide_eq_true c,π c]<;>rfl
   ·rw[decide_eq_false c,ν c]<;>rfl
  ·rfl
 ·cases Al l x.1
  ·by_cases c:(l.length:Int)>=8
   ·rw[decide_eq_true c,π c]<;>rfl
   ·rw[decide_eq_false c,ν c]<;>rfl
  ·rfl
def zh{l:Γ dO}(hv:lU l=true)(x:dO):Jt l x 8/\(s8 x=true->o9 l x 8=0->lU (wR l x 8)=true):=by
 obtain⟨⟨h1,h2⟩,h3⟩:=(UU l).1 hv;obtain⟨p,e,_⟩:=aFd hv x;refine⟨p,λhx _=>?_⟩;rw[e];exact(UU _).2 ⟨⟨XB h1 hx,yf h2⟩,by have:=XC l x 8 (by lia);lia⟩
def LH(l:Γ bP):qX l=true↔((∀x∈l,xY x=true)/\l.Pairwise λa b=>Kl a.1 b.1)/\l.length<=10:=by
 unfold qX;rw[aT,ε];have key:=PR xY (λa b:bP=>Kl a.1 b.1) (λa b:bP => !(bL (aB b.1) (aB a.1)||aB b.1==aB a.1)) (aC,(0:Int),(0:Int),()) (λa b=>by rw[EE]<;>rfl) (λ_ _ _=>Kl.trans) l;rw[<- key]<;>rfl
def dj(hv:qX l=true)(x:bP):Jw l x 10/\wS l x 10=pL l x 10/\pA l x 10=pC l x 10:=by
 obtain⟨⟨h1,h2⟩,h3⟩:=(LH l).1 hv;have hk:Xi l x (some 208)=(l.filter λy=>EO y.1 x.1).length:=XA h2 x (aC,(0:Int),(0:Int),()) _ λi _=>by
  unfold Jo;rw[ε];exact(E8 _ _).1
 have q:=PS h2 x;have hg:nN l x (some 208)=(((l.filter λy=>EO y.1 x.1).length:Nat):Int):=by unfold nN;rw[hk]
 have hf:lZ l x (some 208)=Al l x.1:=by
  unfold lZ PY;rw[hk];by_cases c:(l.filter λy=>EO y.1 x.1).length<l.length
  ·rw[π c, <- q.has (aC,(0:Int),(0:Int),()) c];exact oF.2 (by rw[beq_iff_eq,ε];exact(E8 _ _).2)
  ·rw[ν c,q.no c]
 have hi:ke l (((l.filter λy=>EO y.1 x.1).length:Nat):Int) [x]=pR l x:=by
  show l.take (aE _)++([x]++l.drop (aE _))=_;rw[aK,q.tk,q.dr]<;>rfl
 have hl:=q.le;unfold Jw wS pA pL pC;rw[hf,hg,show aPZ l=l from rfl,hi];refine⟨⟨⟨show l.length<=4611686018427387903 by omega,λy _=>⟨rfl,trivial⟩⟩,Fc λ_=>Fc λ_=>⟨show l.length<=1048576 by omega,⟨by omega,Bq.2 hl,rfl,show l.length<=1048576 by omega⟩,trivial⟩⟩,?_,?_⟩
 ·cases Al l x.1
  ·by_cases c:(l.length:Int)>=10
   ·rw[decide_eq_true c,π c]<;>rfl
   ·rw[decide_eq_false c,ν c]<;>rfl
  ·rfl
 ·cases Al l x.1
  ·by_cases c:(l.length:Int)>=10
   ·rw[decide_eq_true c,π c]<;>rfl
   ·rw[decide_eq_false c,ν c]<;>rfl
  ·rfl
def YM(hv:qX l=true)(x:bP):Jw l x 10/\(xY x=true->pA l x 10=0->qX (wS l x 10)=true):=by
 obtain⟨⟨h1,h2⟩,h3⟩:=(LH l).1 hv;obtain⟨p,e,_⟩:=dj hv x;refine⟨p,λhx _=>?_⟩;rw[e];exact(LH _).2 ⟨⟨XB h1 hx,yf h2⟩,by have:=XC l x 10 (by lia);lia⟩
def UV(l:Γ bP):qY l=true↔((∀x∈l,xY x=true)/\l.Pairwise λa b=>Kl a.1 b.1)/\l.length<=8:=by
 unfold qY;rw[aT,ε];have key:=PR xY (λa b:bP=>Kl a.1 b.1) (λa b:bP => !(bL (aB b.1) (aB a.1)||aB b.1==aB a.1)) (aC,(0:Int),(0:Int),()) (λa b=>by rw[EE]<;>rfl) (λ_ _ _=>Kl.trans) l;rw[<- key]<;>rfl
def aFe(hv:qY l=true)(x:bP):Jz l x 8/\wT l x 8=pL l x 8/\pB l x 8=pC l x 8:=by
 obtain⟨⟨h1,h2⟩,h3⟩:=(UV l).1 hv;have hk:Xi l x (some 211)=(l.filter λy=>EO y.1 x.1).length:=XA h2 x (aC,(0:Int),(0:Int),()) _ λi _=>by
  unfold Jo;rw[ε];exact(E8 _ _).1
 have q:=PS h2 x;have hg:nN l x (some 211)=(((l.filter λy=>EO y.1 x.1).length:Nat):Int):=by unfold nN;rw[hk]
 have hf:lZ l x (some 211)=Al l x.1:=by
  unfold lZ PY;rw[hk];by_cases c:(l.filter λy=>EO y.1 x.1).length<l.length
  ·rw[π c, <- q.has (aC,(0:Int),(0:Int),()) c];exact oF.2 (by rw[beq_iff_eq,ε];exact(E8 _ _).2)
  ·rw[ν c,q.no c]
 have hi:ke l (((l.filter λy=>EO y.1 x.1).length:Nat):Int) [x]=pR l x:=by
  show l.take (aE _)++([x]++l.drop (aE _))=_;rw[aK,q.tk,q.dr]<;>rfl
 have hl:=q.le;unfold Jz wT pB pL pC;rw[hf,hg,show aPZ l=l from rfl,hi];refine⟨⟨⟨show l.length<=4611686018427387903 by omega,λy _=>⟨rfl,trivial⟩⟩,Fc λ_=>Fc λ_=>⟨show l.length<=1048576 by omega,⟨by omega,Bq.2 hl,rfl,show l.length<=1048576 by omega⟩,trivial⟩⟩,?_,?_⟩
 ·cases Al l x.1
  ·by_cases c:(l.length:Int)>=8
   ·rw[decide_eq_true c,π c]<;>rfl
   ·rw[decide_eq_false c,ν c]<;>rfl
  ·rfl
 ·cases Al l x.1
  ·by_cases c:(l.length:Int)>=8
   ·rw[decide_eq_true c,π c]<;>rfl
   ·rw[decide_eq_false c,ν c]<;>rfl
  ·rfl
def zi(hv:qY l=true)(x:bP):Jz l x 8/\(xY x=true->pB l x 8=0->qY (wT l x 8)=true):=by
 obtain⟨⟨h1,h2⟩,h3⟩:=(UV l).1 hv;obtain⟨p,e,_⟩:=aFe hv x;refine⟨p,λhx _=>?_⟩;rw[e];exact(UV _).2 ⟨⟨XB h1 hx,yf h2⟩,by have:=XC l x 8 (by lia);lia⟩
theorem aLt:∀a b c d e f g h i j k l:Bool,(if a=true then(if b=true then(if c=true then(if d=true then(if f=true then(if g=true then(if h=true then(if e=true then(if i=true then(if j=true then(if k=true then l else false)else false)else false)else false)else(if e=true then false else false))else(if e=true then false else false))else(if e=true then false else false))else(if f=true then(if g=true then(if h=true then false else false)else false)else false))else(if f=true then(if g=true then(if h=true then false else false)else false)else false))else(if f=true then(if g=true then(if h=true then false else false)else false)else false))else(if f=true then(if g=true then(if h=true then false else false)else false)else false))=(a&&(b&&(c&&(d&&(e&&(f&&(g&&(h&&(i&&(j&&(k&&l))))))))))):=by
 lia
def Vd(d:bF):Prop:=oY d.1=true/\wF d.2.1=true/\u0 d.2.2.1=true/\qW d.2.2.2.1=true/\rX d.2.2.2.2.1=true/\iF d.2.2.2.2.2.1=true/\oW d.2.2.2.2.2.2.1=true/\q8 d.2.2.2.2.2.2.2.1=true/\lU d.2.2.2.2.2.2.2.2.1=true/\fW d.2.2.2.2.2.2.2.2.2.1=true/\qX d.2.2.2.2.2.2.2.2.2.2.1=true/\qY d.2.2.2.2.2.2.2.2.2.2.2.1=true
theorem aCX(d:bF):zC d=true↔Vd d:=by
 have h:zC d=_:=aLt (oY d.1) (wF d.2.1) (u0 d.2.2.1) (qW d.2.2.2.1) (rX d.2.2.2.2.1) (iF d.2.2.2.2.2.1) (oW d.2.2.2.2.2.2.1) (q8 d.2.2.2.2.2.2.2.1) (lU d.2.2.2.2.2.2.2.2.1) (fW d.2.2.2.2.2.2.2.2.2.1) (qX d.2.2.2.2.2.2.2.2.2.2.1) (qY d.2.2.2.2.2.2.2.2.2.2.2.1);rw[h];simp;rfl
variable {b:Bool}
theorem rP{A B:Prop}(h1:b=true->A)(h2:b=false->B):if b=true then A else B:=by
 lia
variable {d:bF}
theorem aLu(hd:Vd d)(c:Δ×Δ×Γ Int×Γ Int×Unit)(hc:c.2.1.size<=1048576):aYA d c:=by
 obtain⟨v1,v2,v3,v4,v5,v6,v7,v8,v9,v10,v11,v12⟩:=hd;have hh:=(w9 v3).1;have ht:=(wI v10).1;exact rP (λ_=>⟨(aEX hc).1,(zg v1 _).1,trivial⟩) λ_=>rP (λ_=>⟨(dh hc).1,(YL v7 _).1,trivial⟩) λ_=>rP (λ_=>⟨(aEY hc).1,(zh v9 _).1,trivial⟩) λ_ =>
  rP (λ_=>⟨(df hc).1,(YM v11 _).1,trivial⟩) λ_=>rP (λ_=>⟨(aEZ hc).1,(zi v12 _).1,trivial⟩) λ_=>rP (λ_=>⟨(aFa hc).1,aJT (by lia) _ _,trivial⟩) λ_ =>
  rP (λ_=>⟨(aOO hc).1,aJV (by lia) _,trivial⟩) λ_=>rP (λ_=>⟨(aFb hc).1,trivial⟩) λ_=>rP (λ_=>⟨(ze hc).1,trivial⟩) λ_=>⟨(zf hc).1,trivial⟩
theorem aOP{l:Γ b6}(hl:u0 l=true){x:b6}(hx:xW x=true)(hc:EA l x 48=0):u0 (Mj l x 48)=true:=by
 obtain⟨h1,h2⟩:=w9 hl;unfold EA at hc;unfold Mj;split at hc
 ·lia
 ·rename_i c;rw[ν c];refine aKp (l:=l++[x]) (by grind) λy hy=>?_
  grind
theorem aOQ{l:Γ b6}(hl:qW l=true){x:b6}(hx:qV x=true)(hc:EA l x 8=0):qW (Mj l x 8)=true:=by
 obtain⟨h1,h2⟩:=tM hl;unfold EA at hc;unfold Mj;split at hc
 ·lia
 ·rename_i c;rw[ν c];refine aG7 (l:=l++[x]) (by grind) λy hy=>?_
  grind
theorem aOR{l:Γ b6}{x:b6}(hc:EC l x=0):fW (JK l x)=true:=by
 unfold EC at hc;unfold JK;split at hc
 ·lia
 ·rename_i c1;split at hc
  ·lia
  ·rename_i c2;split at hc
   ·lia
   ·rename_i c3;split at hc
    ·lia
    ·rename_i c4;rw[ν c1,ν c2,ν c3,ν c4];show fW (l++[x])=true;unfold fW;rw[π (show Dx (l++[x])=true from nb c3),bS,List.length_singleton]
     lia
theorem FU{α β γ:Type}{A1 A2:α}{B1 B2:β}{C1 C2:γ}{Q:α->β->γ->Prop}(h1:b=true->Q A1 B1 C1)(h2:b=false->Q A2 B2 C2):Q (if b=true then A1 else A2) (if b=true then B1 else B2) (if b=true then C1 else C2):=by
 lia
def KQ(o:Bool)(k:Int)(y:bF):Prop:=o=true->k=0->Vd y
theorem aOS(hd:Vd d)(c:Δ×Δ×Γ Int×Γ Int×Unit)(hc:c.2.1.size<=1048576):yH d c=true->yI d c=0->Vd (yJ d c):=by
 obtain⟨v1,v2,v3,v4,v5,v6,v7,v8,v9,v10,v11,v12⟩:=hd;show KQ (yH d c) (yI d c) (yJ d c);exact FU (λ_ o k=>⟨(zg v1 _).2 ((aEX hc).2 o) k,v2,v3,v4,v5,v6,v7,v8,v9,v10,v11,v12⟩) λ_ =>
  FU (λ_ o k=>⟨v1,v2,v3,v4,v5,v6,(YL v7 _).2 ((dh hc).2 o) k,v8,v9,v10,v11,v12⟩) λ_ =>
  FU (λ_ o k=>⟨v1,v2,v3,v4,v5,v6,v7,v8,(zh v9 _).2 ((aEY hc).2 o) k,v10,v11,v12⟩) λ_ =>
  FU (λ_ o k=>⟨v1,v2,v3,v4,v5,v6,v7,v8,v9,v10,(YM v11 _).2 ((df hc).2 o) k,v12⟩) λ_ =>
  FU (λ_ o k=>⟨v1,v2,v3,v4,v5,v6,v7,v8,v9,v10,v11,(zi v12 _).2 ((aEZ hc).2 o) k⟩) λ_ =>
  FU (λ_ o k=>⟨v1,v2,aOP v3 ((aFa hc).2 o) k,v4,v5,v6,v7,v8,v9,v10,v11,v12⟩) λ_ =>
  FU (λ_ o k=>⟨v1,v2,v3,v4,v5,v6,v7,v8,v9,aOR k,v11,v12⟩) λ_ =>
  FU (λ_ o k=>⟨v1,(aFb hc).2 o,v3,v4,v5,v6,v7,v8,v9,v10,v11,v12⟩) λ_ =>
  FU (λ_ o k=>⟨v1,v2,v3,v4,(ze hc).2 o,v6,v7,v8,v9,v10,v11,v12⟩) λ_ =>
  λo k=>⟨v1,v2,v3,v4,v5,v6,v7,(zf hc).2 o,v9,v10,v11,v12⟩
theorem Pb{d:b6}(h:iF d=true):(0<=d.2.1/\d.2.1<=2)/\0<=d.2.2.1/\d.2.2.1<=3:=by
 unfold iF at h;split at h
 ·lia
 ·split at h
  ·lia
  ·split at h
   ·rename_i c;exact⟨wi c,wi h⟩
   lia
theorem aZa{x a b:Int}(h:a<=x/\x<=b):bE x a b=true:=by rw[ia];lia
theorem Pc{p t r:Int}(hp:p=1\/p=3)(ht:0<=t/\t<=2)(hr:0<=r/\r<=3):iF (p,t,r,())=true:=by
 unfold iF JI;rw[aZa (x:=p) (by lia),aZa ht,aZa hr]
 lia
theorem aOT{d:b6}(h:iF d=true):iF (WL d)=true:=by
 obtain⟨t,r⟩:=Pb h;unfold WL;split
 ·lia
 ·have hp:d.1=1\/d.1=3:=by
   grind [JI]
  split
  ·grind [Pc]
  ·split
   ·rfl
   ·split
    ·rfl
    ·exact Pc (.inr rfl) (by lia) r
theorem kn{d:b6}(h:iF d=true)(e:Int):iF (RS d e)=true:=by
 obtain⟨t,r⟩:=Pb h;have m1:iF (1,0,0,())=true:=Pc (.inl rfl) (by lia) (by lia);have m3:iF (3,0,0,())=true:=Pc (.inr rfl) (by lia) (by lia);have mb:¬decide (d.2.2.1<3)=false->iF (1,0,d.2.2.1+1,())=true:=λq=>Pc (.inl rfl) (by lia) (by
  lia)
 grind [aOT,RS]
theorem zj{d:b6}(h:iF d=true)(e:Int)(hc:¬(tK d e != 0)=true):iF (x7 d e)=true:=by
 unfold tK at hc;unfold x7;split at hc
 ·lia
 ·split at hc
  ·lia
  ·split at hc
   ·lia
   ·grind [kn]
theorem aFf(x:Int):(sC x).size<=8/\∀s:Δ,sC x++aA #[47]++s≠aA #[]:=by
 refine⟨?_,λs e=>?_⟩
 ·unfold sC;split
  ·exact aY _
  ·rename_i c;have w:=wi (nb c);have:x=0\/x=1\/x=2\/x=3:=by lia
   rcases this with rfl | rfl | rfl | rfl <;> decide
 ·have:=congrArg aG e;rw[dH,dH,show (aA #[47]).size=1 from rfl,show (aA #[]).size=0 from rfl]at this
  lia
theorem dk{d:b6}(h:iF d=true):aXU d/\(AG d).size<=60/\AG d=sC d.1++aA #[47]++dA d.2.1++aA #[47]++dA d.2.2.1:=by
 obtain⟨t,r⟩:=Pb h;have n1:=(aFf d.1).1;have s1:=JO (x:=d.2.1) (by grind [aJ]);have s2:=JO (x:=d.2.2.1) (by grind [aJ]);have i1:(aA #[47]).size=1:=rfl;have hn:aXT d.1:=by
  exact Fc λc=>by have w:=wi (nb c);lia
 have e:AG d=sC d.1++aA #[47]++dA d.2.1++aA #[47]++dA d.2.2.1:=by
  grind [AG]
 refine⟨?_,?_,e⟩
 ·refine Fc λ_=>⟨hn,?_⟩;simp only[dH];exact⟨by lia,B9 _,by lia,by lia,B9 _,by lia,trivial⟩
 grind
def aLv{l:Γ b6}(h:qW l=true):l.length<=8:=(tM h).1
theorem YN(hd:Vd d)(c:Δ×Δ×Γ Int×Γ Int×Unit)(h1:(aB c.1==aB (aA #[101,118,101,110,116]))=true->1<=c.2.2.1.length)(h2:(aB c.1==aB (aA #[101,118,101,110,116]))=false->3<=c.2.2.1.length):aOF d c:=by
 obtain⟨v1,v2,v3,v4,v5,v6,v7,v8,v9,v10,v11,v12⟩:=hd;have hl:=aLv v4;exact rP (λq=>⟨by lia,ZB _ _,Fc λk=>⟨(dk (zj v6 _ k)).1,trivial⟩⟩) λq=>by
  exact⟨by lia,by lia,by lia,Fc λ_=>⟨aJT (by lia) _ _,trivial⟩⟩
def CQ(o:Γ Δ)(k:Int)(y:bF):Prop:=Few o/\(k=0->Vd y/\(o=[aA #[111,107]]\/∃x s,o=[sC x++aA #[47]++s]))
theorem aHm(hd:Vd d)(c:Δ×Δ×Γ Int×Γ Int×Unit):CQ (KA d c) (KB d c) (KC d c):=by
 obtain⟨v1,v2,v3,v4,v5,v6,v7,v8,v9,v10,v11,v12⟩:=hd;refine FU (λ_=>FU (λq=>?a) λq=>?b) λ_=>FU (λq=>?c) λq=>?d
 case a =>
  refine⟨zd,λk=>?_⟩
  lia
 case b =>
  have hv:=zj v6 (c.2.2.1.getD 0 0) (by lia);obtain⟨_,z,e⟩:=dk hv;refine⟨yz (by lia),λ_=>⟨⟨v1,v2,v3,v4,v5,hv,v7,v8,v9,v10,v11,v12⟩,.inr ?_⟩⟩
  grind [ByteArray.append_assoc]
 case c=>exact⟨zd,λk=>(by lia)⟩
 case d =>
  have hx:qV (c.2.2.1.getD 0 0,c.2.2.1.getD 1 0,c.2.2.1.getD 2 0,())=true:=by
   lia
  exact⟨yz (by decide),λk=>⟨⟨v1,v2,v3,aOQ v4 hx k,v5,v6,v7,v8,v9,v10,v11,v12⟩,.inl rfl⟩⟩
def zk(s w:Δ):Prop:=(aB s==aB w)=true
def Pd:Δ:=ByteArray.mk #[115,108,111,119,101,115,116]
def Pe:Δ:=ByteArray.mk #[114,101,115,101,114,118,101]
def ko:Δ:=ByteArray.mk #[112,111,119,101,114]
def aFg:Δ:=ByteArray.mk #[118,111,116,101]
def YO:Δ:=ByteArray.mk #[119,97,116,101,114]
def aCY:Δ:=ByteArray.mk #[99,111,118,101,114]
def aCZ:Δ:=ByteArray.mk #[113,117,101,117,101]
def aZb:Δ:=ByteArray.mk #[100,117,101]
def aDa:Δ:=ByteArray.mk #[101,118,101,110,116]
def aDb:Δ:=ByteArray.mk #[108,105,109,105,116]
abbrev CMD:Type:=Δ×Δ×Γ Int×Γ Int×Unit
def Cn(c:CMD):Prop:=(zk c.1 Pd->1<=c.2.2.1.length)/\(zk c.1 Pe->1<=c.2.2.1.length)/\(zk c.1 ko->2<=c.2.2.1.length)/\(zk c.1 aFg->1<=c.2.2.1.length)/\(zk c.1 YO->5<=c.2.2.1.length)/\(zk c.1 aCY->2<=c.2.2.1.length)/\(zk c.1 aCZ->2<=c.2.2.1.length)/\(zk c.1 aZb->2<=c.2.2.1.length)/\(zk c.1 aDa->1<=c.2.2.1.length)/\(zk c.1 aDb->3<=c.2.2.1.length)
variable {c:CMD}
theorem Cm(hd:Vd d)(hc:Cn c)(hw:zk c.1 Pd\/zk c.1 Pe\/zk c.1 ko\/zk c.1 aFg\/zk c.1 YO):aCI d c:=by
 obtain⟨k1,k2,k3,k4,k5,_⟩:=hc;refine rP (λq=>⟨by lia,xf _ _ (λh=>Wp h),trivial⟩) λq1=>rP (λq=>⟨by lia,xd _ _,trivial⟩) λq2=>rP (λq=>⟨by lia,by have:=k3 q;lia,aGr _ _ _,trivial⟩) λq3=>rP (λq=>⟨by lia,aJX _ _,trivial⟩) λq4=>?_;have q5:zk c.1 YO:=by
  rcases hw with h | h | h | h | h
  ·exact absurd (h.symm.trans q1) (by lia)
  ·exact absurd (h.symm.trans q2) (by lia)
  ·exact absurd (h.symm.trans q3) (by lia)
  ·exact absurd (h.symm.trans q4) (by lia)
  lia
 exact⟨by lia,by lia,by lia,by lia,by lia,aGs _ _ _ _ _ _,trivial⟩
theorem Pf(hd:Vd d)(hc:Cn c):aGX d c:=by
 obtain⟨v1,v2,v3,v4,v5,v6,v7,v8,v9,v10,v11,v12⟩:=hd;obtain⟨k1,k2,k3,k4,k5,k6,k7,k8,k9⟩:=hc;have:=cx v7;exact rP (λq=>⟨xw _ _,trivial⟩) λ_=>rP (λq=>⟨by have:=k6 q;lia,by have:=k6 q;lia,show _<=1000 by lia,trivial⟩) λ_=>rP (λq=>⟨by have:=k7 q;lia,by have:=k7 q;lia,Rl _ _ _,trivial⟩) λ_=>⟨aKr _ _ v11 v12,trivial⟩
theorem aLw(n:Int):Mu n:=by
 by_cases h:pU n=true
 ·obtain⟨_,_,_,_,p,_⟩:=Kw (wi (show bE n 0 36524=true from h))
  lia
 ·unfold Mu
  lia
theorem aOU(n:Int):(o3 n).size<=50000000:=by
 by_cases h:pU n=true
 ·obtain⟨a,b,c,e,_⟩:=Kw (wi (show bE n 0 36524=true from h));rw[e,show (dT a b c).size=10 from rfl];lia
 ·unfold o3;rw[bV.2 h];exact aY _
theorem aLx(hd:Vd d)(hc:Cn c):aYS d c:=by
 have hk:=hc;obtain⟨_,_,_,_,_,_,_,k8,_⟩:=hk;exact rP (λq=>⟨Cm hd hc (.inl q),B9 _,trivial⟩) λ_=>rP (λq=>⟨Cm hd hc (.inr (.inl q)),B9 _,trivial⟩) λ_=>rP (λq=>⟨Cm hd hc (.inr (.inr (.inl q))),B9 _,trivial⟩) λ_ =>
  rP (λq=>⟨Cm hd hc (.inr (.inr (.inr (.inl q)))),B9 _,trivial⟩) λ_=>rP (λq=>⟨Cm hd hc (.inr (.inr (.inr (.inr q)))),B9 _,trivial⟩) λ_ =>
  rP (λq=>⟨Pf hd hc,trivial⟩) λ_=>rP (λq=>⟨Pf hd hc,trivial⟩) λ_=>rP (λq=>⟨Pf hd hc,trivial⟩) λ_=>rP (λq=>⟨Pf hd hc,trivial⟩) λ_ =>
  rP (λq=>⟨Rm _ _,trivial⟩) λ_=>rP (λq=>⟨by have:=k8 q;lia,by have:=k8 q;lia,aNB _ _ _,aLw _,trivial⟩) λ_=>rP (λq=>⟨aCU _,trivial⟩) λ_=>trivial
def Sm(x:Int):Prop := -100000000000000<=x/\x<=100000000000000
theorem sm0:Sm 0:=⟨by lia,by lia⟩
theorem KJ{A B:Int}(h1:b=true->Sm A)(h2:b=false->Sm B):Sm (if b=true then A else B):=by
 lia
theorem Pg{A B:Γ Δ}(h1:b=true->Few A)(h2:b=false->Few B):Few (if b=true then A else B):=by
 lia
theorem aZc{x:Int}(h:Sm x):Few [dA x]:=yz (by
 grind [JO,aJ,Sm])
theorem aOV(l:Γ dO)(n:Int):Sm (GS l n):=by
 unfold GS;split
 ·unfold D3 Sm;have bs:=R8 (λx=>x8 x (l.getD (vO l n l.length 0 0).toNat (aC,0,0,0,())) n) (20000+1-0:Int).toNat 0 20001 (by lia) (by lia);have e:CY (l.getD (vO l n l.length 0 0).toNat (aC,0,0,0,())) n=Me (λx=>x8 x (l.getD (vO l n l.length 0 0).toNat (aC,0,0,0,())) n) (20000+1-0:Int).toNat 0 20001-1:=rfl
  lia
 simp[sm0]
variable {r:Int×Int×Int×Int×Unit}
theorem aFh(v:wF r=true):1000<=r.2.2.2.1/\r.2.2.2.1<=10000000:=by
 exact wi (z7 (z7 (z7 v).2).2).2
theorem aZd(v:wF r=true)(n:Int):Sm (RU r n):=by
 have hv:=aFh v;have t:=tdb n (a:=1000*r.2.2.2.1) (A:=10000000000) (by lia);exact KJ (λ_=>sm0) λ_=>⟨by lia,by lia⟩
theorem aZe{m:b6}(v:rX m=true)(f s:Int):Sm (RY m f s):=by
 obtain⟨_,_,m3⟩:=W8 v;refine KJ (λhf=>KJ (λ_=>sm0) λc=>KJ (λ_=>sm0) λ_=>?_) λ_=>KJ (λ_=>sm0) λc=>?_
 ·obtain⟨_,hs⟩:=Kq (by rw[c];lia);have hf:=wi (show bE f (-1000000) 1000000=true from hf);have hs:=wi (show bE s 0 20000=true from hs);have b1:=mb (A:=1000000) (B:=20000) (a:=f) (b:=s) (by lia) (by lia);have b3:=mb (A:=20000000000) (B:=1000) (a:=0-aQ (f*s) 1000) (b:=1000-m.2.2.1) (by lia) (by lia);unfold Mm;unfold gz;have t:=tdb (1000-m.2.2.1) (a:=1000*aQ (f*s) 1000+(1000-m.2.2.1)-1) (A:=9000000000000) (by lia);exact⟨by lia,by lia⟩
 grind [Kq]
theorem aOW(l:Γ Int)(n:Int):Sm (GQ l n):=by
 refine KJ (λ_=>sm0) λc=>KJ (λ_=>sm0) λ_=>KJ (λ_=>sm0) λ_=>?_;have h3:=(JP (l:=l) (k:=3) (by lia)).2.2;generalize (RD (j7 l n) (wE (j7 l n))).toNat=k;by_cases hk:k<l.length
 ·have:=h3 _ (cF l k 0 hk);exact⟨by lia,by lia⟩
 ·rw[List.getD_eq_getElem?_getD,List.getElem?_eq_none (by omega)];exact sm0
theorem aLy{x:Int×Int×Int×Int×Unit}(v:q8 x=true)(t b r g n:Int):Sm (RO x t b r g n):=by
 have hv:=PF v;have key:Sm (BE x t b r g n):=by
  have bs:=R8 (λy=>Dz y t b r g n) (x.1+1-0).toNat 0 (x.1+1) (by lia) (by lia);have e:BE x t b r g n=Me (λy=>Dz y t b r g n) (x.1+1-0).toNat 0 (x.1+1):=rfl;exact⟨by lia,by lia⟩
 exact KJ (λ_=>KJ (λ_=>sm0) λ_=>KJ (λ_=>sm0) λ_=>key) λ_=>KJ (λ_=>sm0) λ_=>KJ (λ_=>sm0) λ_=>key
theorem aHo(hd:Vd d)(c:CMD):Sm (tQ d c):=by
 obtain⟨v1,v2,v3,v4,v5,v6,v7,v8,v9,v10,v11,v12⟩:=hd;exact KJ (λ_=>aOV _ _) λ_=>KJ (λ_=>aZd v2 _) λ_=>KJ (λ_=>aZe v5 _ _) λ_=>KJ (λ_=>aOW _ _) λ_=>aLy v8 _ _ _ _ _
theorem aLz(hd:Vd d):Few (AP d):=by
 have hk:=hd;obtain⟨v1,v2,v3,v4,v5,v6,v7,v8,v9,v10,v11,v12⟩:=hk;have l1:=aKq v1;have l3:=(w9 v3).1;have l4:=(tM v4).1;have l7:=cx v7;have l9:=aQZ v9;have l10:=(wI v10).1;have l11:=xx v11;have l12:=xy v12;have l8:0<=d.2.2.2.2.2.2.2.1.2.2.1/\d.2.2.2.2.2.2.2.1.2.2.1<=10000000:=by
  exact wi (show bE _ 0 10000000=true from(z7 (z7 (z7 v8).2).2).1)
 refine Pg (λ_=>?_) λ_=>zd;have key:∀(W:Γ Δ) (N:Γ Int),(∀w∈W,w.size<=7)->(∀n∈N,Sm n)->∀s∈List.zipWith P9 W N,s.size<=50000000:=by
  intro W
  induction W with
  | nil=>simp
  | cons w W ih =>
   intro N hw hn s hs;cases N with
   | nil=>simp_all
   | cons n N =>
    rcases bA.1 hs with rfl | hs
    ·have a:=hw w (aR ..);have b:=hn n (aR ..);have:=JO (x:=n) (by grind [aJ,Sm]);unfold P9;rw[dH,dH,show (aA #[32]).size=1 from rfl]
     lia
    grind
 refine⟨?_,key _ _ aRE λn hn=>?_⟩
 ·rw[List.length_zipWith];exact Nat.le_trans (Nat.min_le_left _ _) (by decide)
 ·unfold P8 at hn;simp at hn;unfold Sm
  lia
theorem aHp:Few aKA:=by
 have h:aKA.all (λl=>decide (l.size<=50000000))=true:=by rfl
 refine⟨by decide,λl hl=>?_⟩
 grind
theorem aL0(hd:Vd d)(c:CMD):Few (tV d c):=by
 have n:=aZc (aHo hd c);have l:=yz (UR (E6 d c));exact Pg (λ_=>n) λ_=>Pg (λ_=>n) λ_=>Pg (λ_=>n) λ_=>Pg (λ_=>n) λ_=>Pg (λ_=>n) λ_=>Pg (λ_=>l) λ_=>Pg (λ_=>l) λ_=>Pg (λ_=>l) λ_=>Pg (λ_=>l) λ_ =>
  Pg (λ_=>de _ _) λ_=>Pg (λ_=>yz (aOU _)) λ_=>Pg (λ_=>aCW _) λ_=>Pg (λ_=>aLz hd) λ_=>aHp
theorem aZf(v:wF r=true)(n:Int):aOo r n/\XR r n=RU r n/\XS r n=WP r n:=by
 have hv:=aFh v;have t:=tdb n (a:=1000*r.2.2.2.1) (A:=10000000000) (by lia);have e:L7 r=true:=v;have e2:XP n=JL n:=rfl;unfold aOo XR RU XS WP Ml;rw[e,e2,v];cases c:JL n with
 | false=>lia
 | true =>
  have:=wi (show bE n 1 10000000=true from c);exact⟨⟨by grind [aJ],by lia,by grind [aJ],trivial⟩,rfl,rfl⟩
theorem aZg{m:b6}(v:rX m=true)(f s:Int):aOq m f s/\XX m f s=RY m f s/\XY m f s=WQ m f s:=by
 obtain⟨m1,m2,m3⟩:=W8 v;have e:L8 m=true:=v;have e2:XU f=RX f:=rfl;have e3:Vh s=GD s:=rfl;unfold aOq XX RY XY WQ BG;cases c:RX f with
 | false=>lia
 | true =>
  cases c2:GD s with
  | false=>lia
  | true =>
   have hf:=wi (show bE f (-1000000) 1000000=true from c);have hs:=wi (show bE s 0 20000=true from c2);have b1:=mb (A:=1000000) (B:=20000) (a:=f) (b:=s) (by lia) (by lia);have b3:=mb (A:=20000000000) (B:=1000) (a:=0-aQ (f*s) 1000) (b:=1000-m.2.2.1) (by lia) (by lia);have key:aOp m f s/\XW m f s=ED m f s/\(ED m f s=true->jw m f s=Mm m f s):=by
    unfold aOp jw XW ED Mm gz;by_cases d:f<=m.2.1
    ·rw[ν (show ¬decide (f>m.2.1)=true by lia),ν (show ¬decide (f>m.2.1)=true by lia),ν (show ¬decide (f>m.2.1)=true by lia),π (decide_eq_true d)];by_cases w:aQ (f*s) 1000>0
     ·have t:=tdb (1000-m.2.2.1) (a:=1000*aQ (f*s) 1000+999-m.2.2.1) (A:=90000000000000) (by lia);simp only[decide_eq_true w,if_true];rw[show 1000*aQ (f*s) 1000+(1000-m.2.2.1)-1=1000*aQ (f*s) 1000+999-m.2.2.1 by lia];exact⟨⟨by grind [aJ],by grind [aJ],by grind [aJ],by grind [aJ],by grind [aJ],by grind [aJ],by lia,by grind [aJ],trivial⟩,rfl,λ_=>rfl⟩
     ·have t0:0<=(0-aQ (f*s) 1000)*(1000-m.2.2.1):=Int.mul_nonneg (by lia) (by lia);simp only[decide_eq_false w,if_false];exact⟨⟨by grind [aJ],by grind [aJ],by grind [aJ],by grind [aJ],by grind [aJ],by grind [aJ],by grind [aJ],trivial⟩,(decide_eq_true (by lia)).symm,by lia⟩
    lia
   lia
theorem aL1{d:b6}(h:iF d=true){e:Int}(he:1<=e/\e<=4):aOr d e/\jx d e=RS d e/\X0 d e=WM d e:=by
 obtain⟨⟨t1,t2⟩,r1,r2⟩:=Pb h;have hp:0<=d.1/\d.1<=3:=by
  unfold iF at h;split at h
  ·lia
  ·rename_i c;exact wi (nb c)
 obtain⟨p,t,r,u⟩:=d;have i1:aX .i64 (t+1):=by grind [aJ]
 have i2:aX .i64 (r+1):=by grind [aJ]
 unfold aOr jx X0 RS WM WL JI
 lia
theorem aHq{d:b6}(h:iF d=true)(e:Int):aOs d e/\E0 d e=x7 d e/\Jc d e=tK d e:=by
 have e1:He d=true:=(UG d).symm.trans h;have e2:XZ e=aBA e:=rfl;unfold aOs E0 x7 Jc tK;cases c:aBA e with
 | false=>lia
 | true =>
  obtain⟨k1,k2,k3⟩:=aL1 h (wi (show bE e 1 4=true from c))
  lia
theorem aL2{d:b6}(h:iF d=true):aC2 d/\Gk d=AG d:=by
 have e1:He d=true:=(UG d).symm.trans h;obtain⟨t,r⟩:=Pb h;have n1:=(aFf d.1).1;have s1:=JO (x:=d.2.1) (by grind [aJ]);have s2:=JO (x:=d.2.2.1) (by grind [aJ]);have i1:(aA #[47]).size=1:=rfl;have hn:aX5 d.1:=by
  exact Fc λc=>by have w:=wi (show bE d.1 0 3=true from nb c);lia
 have e2:N8 d.1=sC d.1:=rfl;have e3:∀n,gV n=dA n:=λ_=>rfl;unfold aC2 Gk AG aX6 aC1
 grind
theorem aDc(s:Δ):SK s=EM s:=by
 unfold SK Nj EM
 grind [aCK,SJ,da]
theorem aZh(x:Γ Δ):Xv x=G8 x:=by
 unfold Xv G8 Gz;rw[Xu];have hq:(!x.any Nk)=x.all EM:=by
  simp[List.not_any_eq_all_not,Nk,aDc]
 lia
theorem zl:∀(h:Γ Int) (k:Nat),h.set k (h.getD k 0)=h
 | [],_=>rfl
 | a::l,0=>rfl
 | a::l,k+1=>by
  show a::l.set k (l.getD k 0)=a::l;rw[zl l k]
theorem aL3:∀(r:Γ Δ) (k:Nat) (h:Γ Int),wU k r h=J1 k r h
 | [],_,_=>rfl
 | c::r,k,h=>by
  have e:KD h k c=if((c.size:Nat):Int)>h.getD k 0 then h.set k (c.size:Nat)else h:=by
   unfold KD;by_cases h1:h.getD k 0<((c.size:Nat):Int)
   ·lia
   ·rw[ν h1,ν h1,zl]
  show wU (k+1) r (KD h k c)=J1 (k+1) r _;rw[e,aL3]
theorem aOX(x:Γ (Γ Δ)):LC x=UP x:=by
 simp[LC,UP,aL3]
theorem YP(h:Γ Int)(k:Nat)(c:Δ):(Xz h k c).data.toList=c.data.toList++wK (h.getD k 0-(c.size:Nat)).toNat:=by
 have e:(aA #[32]).data.toList=aP 1 32:=rfl;unfold Xz GU wK;rw[e,Lib.repeatL_replicate,Nat.mul_one];rfl
theorem aFi:∀(r:Γ Δ) (k:Nat) (h:Γ Int) (v:Γ UInt8),0<k->TT k r h v=v++iW [32,32] ((tU h k r).map λx=>x.data.toList)
 | [],k,h,v,_=>by simp[TT,tU,iW]
 | c::r,k,h,v,hk=>by
  simp only[TT,tU];rw[aFi r (k+1) h _ (by lia),π hk,dY,YP];simp[iW]
theorem aOY(h:Γ Int)(r:Γ Δ):vR h r=Bb h r:=by
 unfold vR Bb aCT ki rA;cases r with
 | nil=>rfl
 | cons c r =>
  simp[tU,TT,pD,YP,aFi]
theorem aOZ(l:Γ Δ):HC l=G9 l/\SL l=NR l:=by
 unfold HC SL G9 NR;rw[aZh];exact⟨rfl,rfl⟩
def SU(c:Δ):Prop:=∀b∈cD c,33<=b/\b<=126
theorem aPa{c:Δ}(h:SU c):No c=false:=by
 unfold No Nn;rw[aCN,fC];intro b hb;obtain⟨h1,h2⟩:=h b hb
 grind [SM]
theorem aPb{x:Γ (Γ Δ)}(h:∀r∈x,r.length<=12/\∀c∈r,SU c):tR x=false:=by
 unfold tR;rw[aCS,fC];intro r hr;obtain⟨h1,h2⟩:=h r hr;have e:HF r=false:=by
  grind [HF,aCP,aPa]
 unfold SN aCQ
 lia
theorem aL4{x:Γ (Γ Δ)}(h:∀r∈x,r.length<=12/\∀c∈r,SU c):E7 x=G9 (AC x)/\KE x=NR (AC x):=by
 have e:x.map (vR (LC x))=AC x:=by
  simp[AC,aOX,aOY]
 unfold E7 KE;rw[aPb h,e];simp[aOZ]
theorem aL5(l:Γ Δ):(G9 l).length<=200:=by
 unfold G9;cases h:G8 l with
 | false=>simp
 | true =>
  unfold G8 at h
  lia
theorem Nv{l:Γ UInt8}(h:∀b∈l,33<=b.toNat/\b.toNat<=126):SU ⟨⟨l⟩⟩:=by
 intro b hb;unfold cD at hb
 grind
theorem aL6{n:Int}(h:0<=n)(h2:n<=1000000000000):SU (lD n)/\(lD n).size<=21:=by
 refine⟨?_,w5 n (by lia) (by lia)⟩;obtain⟨k,rfl⟩:=eG h;have e:lD (k:Int)=⟨⟨Lib.decDigits k⟩⟩:=by
  rfl
 grind [Nv,oC,C8]
def pos(y m:Int):Int:=OT y+lI y (m-1).toNat
theorem aZi{y m:Int}(hy:2000<=y/\y<=2099)(hm:1<=m/\m<=12):mQ y m=mP y m/\28<=mP y m:=by
 have e:=im (y:=y) hm;have h:=(aRe (y:=y) (m:=m) (by lia) hm).2.1
 lia
theorem aL7{y m:Int}(hm:1<=m/\m<12):pos y m+mP y m=pos y (m+1):=by
 obtain⟨k,hk⟩:∃k:Nat,m=(k:Int)+1:=⟨(m-1).toNat,by lia⟩;subst hk;unfold pos;rw[show ((k:Int)+1+1-1).toNat=k+1 by lia]
 grind [lI]
theorem aFj{y:Int}(hy:2000<=y/\y<=2099):pos y 12+mP y 12=pos (y+1) 1:=by
 have h:=iq hy;unfold pos
 grind [lI]
theorem zm{y m:Int}(hy:2000<=y/\y<=2099)(hm:1<=m/\m<=12):∀(n:Nat) (Y M:Int),12*y+m=12*Y+M+n->2000<=Y->1<=M/\M<=12->pos Y M<=pos y m:=by
 intro n
 induction n with
 | zero =>
  grind
 | succ n ih =>
  intro Y M h h1 h2;have hl:=(aZi (y:=Y) (m:=M) (by lia) h2).2
  grind [aFj,aL7]
theorem bG9{y m d:Int}(h:Yl y m d):∀(n k:Nat) (Y M e:Int),12*y+m=12*Y+M+n->2000<=Y->1<=M/\M<=12->n<k->e=pos y m+d-1-pos Y M->FR k e Y M=(y,m,d):=by
 obtain⟨hy,hm,hd⟩:=h;intro n
 induction n with
 | zero =>
  intro k Y M e h h1 h2 hk he;have:Y=y:=by lia
  have:M=m:=by lia
  subst_vars
  have hl:=aZi (y:=Y) (m:=M) hy hm;unfold FR
  lia
 | succ n ih =>
  intro k Y M e h h1 h2 hk he;have hl:=aZi (y:=Y) (m:=M) (by lia) h2;unfold FR;by_cases hM:M=12
  ·have hp:=zm hy hm n (Y+1) 1 (by lia) (by lia) (by lia);have hq:=aFj (y:=Y) (by lia)
   grind
  ·have hp:=zm hy hm n Y (M+1) (by lia) (by lia) (by lia);have hq:=aL7 (y:=Y) (m:=M) (by lia)
   grind
theorem aFk{y m d:Int}(h:Yl y m d):G4 (fH y m d)=y/\G5 (fH y m d)=m/\NM (fH y m d)=d:=by
 have hh:=h;obtain⟨hy,hm,hd⟩:=h;have e:FR 1305 (fH y m d) 2000 1=(y,m,d):=by
  refine bG9 hh (12*(y-2000)+(m-1)).toNat 1305 2000 1 _ (by lia) (by lia) (by lia) (by lia) ?_;have e0:pos 2000 1=0:=cr
  grind [NA,pos]
 unfold G4 G5 NM
 lia
theorem aFl{n:Nat}(h:n<100):aK7 (n:Int)/\G6 (n:Int)=⟨⟨[mJ (n/10),mJ (n%10)]⟩⟩:=by
 have e:gV (n:Int)=lD (n:Int):=rfl;unfold aK7 G6;rw[e];by_cases h1:n<10
 ·have d:decide ((n:Int)<10)=true:=decide_eq_true (by lia);have e0:n/10=0:=by lia
  have e1:n%10=n:=by lia
  rw[d,aEj h1,e0,e1];have e2:(aA (Array.mk [mJ n])).size=1:=rfl;exact⟨by lia,rfl⟩
 ·rw[aEk (by lia) h]
  lia
theorem aZj{a b c:Nat}(h:Yl (a:Int) (b:Int) (c:Int))(ha:2000<=a/\a<=2099)(hb:b<=12)(hc:c<=31):NN (fH (a:Int) (b:Int) (c:Int))=dT a b c:=by
 obtain⟨e0,e1,e2⟩:=aFk h;unfold NN;have e:gV (a:Int)=⟨⟨y4 a⟩⟩:=UL ha;rw[e0,e1,e2,e,(aFl (n:=b) (by lia)).2,(aFl (n:=c) (by lia)).2];rfl
theorem aHr{y m d:Int}(h:Yl y m d):je (fH y m d):=by
 obtain⟨a,b,c,rfl,rfl,rfl,ha,hb,hc⟩:=JV h;obtain⟨hd,_⟩:=Rd h;obtain⟨e0,e1,e2⟩:=aFk h;have e:gV (a:Int)=⟨⟨y4 a⟩⟩:=UL ha;unfold je;obtain⟨p1,q1⟩:=aFl (n:=b) (by lia);obtain⟨p2,q2⟩:=aFl (n:=c) (by lia);rw[e1,e2,q1,q2];have s4:(aA ⟨y4 a⟩).size=4:=rfl;have s1:(aA #[45]).size=1:=rfl;have s2:∀u v:UInt8,(aA ⟨[u,v]⟩).size=2:=λ_ _=>rfl;simp[s2];refine⟨⟨by lia,by lia⟩,?_⟩
 lia
theorem SV{n:Int}(h:0<=n/\n<=36524):∃a b c:Nat,o3 n=dT a b c/\NN n=dT a b c/\Mu n/\je n/\(2000<=a/\a<=2099)/\b<=12/\c<=31:=by
 obtain⟨y,m,d,hD,he⟩:=xp h;obtain⟨a,b,c,rfl,rfl,rfl,ha,hb,hc⟩:=JV hD;subst he;exact⟨a,b,c,FN hD ha (by omega) (by omega),aZj hD ha (by omega) (by omega),JW hD,aHr hD,ha,by omega,by omega⟩
theorem YQ{x a b:Int}(h:cG x a b=true):a<=x/\x<=b:=by
 unfold cG at h
 lia
theorem YR{x:b6}(h:vZ x=true):(0<=x.1/\x.1<=36524)/\(0<=x.2.1/\x.2.1<=24000)/\(0<=x.2.2.1/\x.2.2.1<=1000):=by
 unfold vZ at h;split at h
 ·rename_i h0;split at h
  ·rename_i h1;exact⟨YQ h0,YQ h1,YQ h⟩
  lia
 lia
theorem zn{xs:Γ b6}(h:w7 xs=true):xs.length<=24/\∀x∈xs,vZ x=true:=by
 unfold w7 at h;have h1:(xs.length:Int)<=24/\Im xs=true:=by
  lia
 refine⟨by lia,λx hx=>?_⟩;have h2:=h1.2;obtain⟨j,hj⟩:=CZ xs 0 h2 x hx;unfold bq at hj
 lia
theorem aL8{a:Nat}(h:a<10):33<=(mJ a).toNat/\(mJ a).toNat<=126:=by
 grind [pH]
theorem aFm{a b c:Nat}(hb:b<=12)(hc:c<=31):SU (dT a b c)/\(dT a b c).size<=1000:=by
 refine⟨Nv λx hx=>?_,by show 10<=1000;lia⟩;unfold y4 at hx;simp only[List.mem_append,bA,List.mem_nil_iff,or_false]at hx;rcases hx with (rfl | rfl | rfl | rfl) | rfl | (rfl | rfl) | rfl | rfl | rfl
 all_goals grind [aL8]
theorem FV{x:b6}(h:vZ x=true):Dc x=Ce x/\(∀c∈Ce x,SU c/\c.size<=1000)/\je x.1/\Mu x.1:=by
 obtain⟨h0,h1,h2⟩:=YR h;obtain⟨a,b,c,e1,e2,p1,p2,ha,hb,hc⟩:=SV h0;have d2:∀n:Int,gV n=lD n:=λn=>rfl;refine⟨?_,λc hc=>?_,p2,p1⟩
 ·unfold Dc Ce;rw[e1,e2];rfl
 ·unfold Ce at hc
  all_goals grind [aFm,aL6]
theorem Ao(xs:Γ b6):aHl xs/\aK9 xs/\BN xs=J3 xs/\KF xs=NS xs/\(J3 xs).length<=200:=by
 have hv:=FL xs;unfold aHl aK9 BN KF J3 NS;rw[hv];cases h:w7 xs with
 | false =>
  simp
 | true =>
  obtain⟨hl,ho⟩:=zn h;have er:xs.map Dc=xs.map Ce:=pM λx hx=>(FV (ho x hx)).1;have eh:YC=PN:=rfl;have hok:∀r∈PN::xs.map Ce,r.length<=12/\∀c∈r,SU c:=λr hr=>by
   rcases bA.1 hr with rfl | hr
   ·refine⟨by decide,λc hc=>?_⟩;unfold PN at hc;simp at hc;rcases hc with rfl | rfl | rfl <;> exact Nv (by decide)
   ·obtain⟨x,hx,rfl⟩:=cW.1 hr;exact⟨by show 3<=12;lia,λc hc=>((FV (ho x hx)).2.1 c hc).1⟩
  obtain⟨t0,t1⟩:=aL4 hok;rw[er,eh,t0,t1];refine⟨λ_=>⟨by lia,λf hf=>?_⟩,λ_=>⟨by lia,λf hf=>?_⟩,rfl,rfl,?_⟩
  ·refine⟨(FV (ho f hf)).2.2.2,⟨rfl,trivial⟩,⟨rfl,trivial⟩,λc hc=>?_⟩
   grind [FV]
  ·exact⟨(FV (ho f hf)).2.2.1,λc hc=>by grind [FV]⟩
  ·exact aL5 _
theorem aFn:∀(r:Γ Int) (i:Nat) (o:Δ),0<i->TR i o r=⟨⟨o.data.toList++iW [44] (r.map λx=>(gV x).data.toList)⟩⟩
 | [],_,o,_=>by simp[TR,iW]
 | x::r,i,o,h=>by
  unfold TR;rw[π h,aFn r (i+1) _ (by lia)];simp[iW]
theorem aPc{xs:Γ Int}(h0:0<xs.length)(h1:xs.length<=64)(hv:∀x∈xs,Rb x=true):hJ xs=GY xs:=by
 have hc:wH xs=false:=by
  rw[bV];intro h;have h':=(DW _ xs).1 (of_decide_eq_true h)
  grind [Rc]
 unfold hJ GY;rw[ν (by lia),ν (by lia),ν (by lia),ν (by lia)];cases xs with
 | nil=>rfl
 | cons x r =>
  unfold TR;rw[aFn r _ _ (by lia)];unfold rA;rw[mY,dY,pD];rfl
theorem aZk(x:Δ):∀(k i:Nat) (n l:Γ Int) (r:Γ Int×Γ Int),i+k=(An x).data.toList.length->LU x k i n l=some r->r.1.length=n.length+((An x).data.toList.drop i).countP (λb=>b==110):=by
 intro k
 induction k with
 | zero =>
  simp[LU,List.drop_eq_nil_of_le]
 | succ k ih =>
  intro i n l r hi h;have hlt:i<(An x).data.toList.length:=by lia
  rw[List.drop_eq_getElem_cons hlt];have hk:Cl x i=((((An x).data.toList)[i]).toNat:Int):=by
   grind [Cl]
  unfold LU at h;by_cases c:(Cl x i==110)=true
  ·have e:((An x).data.toList[i]==110)=true:=by
    rw[beq_iff_eq]at c ⊢;exact UInt8.toNat_inj.1 (by lia)
   grind
  ·have e:((An x).data.toList[i]==110)=false:=by
    rw[beq_eq_false_iff_ne];intro q;simp_all
   grind
theorem aDd:cU Pd=aA #[110]:=by
 simp[cU,Pd]
theorem aDe:cU Pe=aA #[110]:=by
 simp[cU,Pe]
theorem zo:cU ko=aA #[110,110]:=by
 simp[cU,ko]
theorem aPd:cU aFg=aA #[108,110]:=by
 simp[cU,aFg]
theorem aL9:cU YO=aA #[110,110,110,110,110]:=by
 simp[cU,YO]
theorem aLA:cU aCY=aA #[110,110]:=by
 simp[cU,aCY]
theorem aLB:cU aCZ=aA #[97,110,110]:=by
 simp[cU,aCZ]
theorem aZl:cU aZb=aA #[110,110]:=by
 simp[cU,aZb]
theorem aLC:cU aDa=aA #[110]:=by
 simp[cU,aDa]
theorem aLD:cU aDb=aA #[110,110,110]:=by
 simp[cU,aDb]
theorem aRH{w:Δ}{n:Nat}(h:∀v,zk w v->aA #[116]≠cU v->(cU v).data.toList.countP (λb=>b==110)<=n)(t:Δ)(a l:Γ Int)(ha:a.length=n):Cn (w,t,a,l,()):=by
 refine⟨λq=>?_,λq=>?_,λq=>?_,λq=>?_,λq=>?_,λq=>?_,λq=>?_,λq=>?_,λq=>?_,λq=>?_⟩
 ·grind [aDd]
 ·grind [aDe]
 ·have:=h _ q (by simp[zo])
  grind [zo]
 ·grind [aPd]
 all_goals grind [aL9,aLA,aLB,aZl,aLC,aLD]
theorem aRI(h:BX x=true):Cn (hY x)/\(hY x).2.1.size<=x.size:=by
 unfold BX at h;unfold hY;unfold Pa at h ⊢;split at h
 ·cases h
 ·rename_i c1;rw[ν c1];split at h
  ·cases h
  ·rename_i c2;rw[ν c2];split at h
   ·rename_i c3;rw[π c3];refine⟨aRH (n:=0) (λv q hv=>?_) _ [] [] rfl,(LD x (aA #[32])).2⟩;have e:=(bC _ _).1 q;exact absurd (show aA #[116]=cU v by rw[<- c3, <- e];rfl) hv
   ·rename_i c3;rw[ν c3];split at h
    ·rename_i c4;rw[π c4];cases hr:LU x (An x).size 0 [] [] with
     | none=>rw[hr]at h;cases h
     | some r =>
      have hl:=aZk x _ 0 [] [] r (by simp) hr;refine⟨aRH (n:=r.1.length) (λv q _=>?_) _ r.1 r.2 rfl,aY _⟩;have e:=(bC _ _).1 q;rw[hl, <- e];exact Nat.le_of_eq (by rw[List.length_nil,cO];rfl)
    ·cases h
theorem Ph(hd:Vd d):P39 d:=by
 obtain⟨v1,v2,v3,v4,v5,v6,v7,v8,v9,v10,v11,v12⟩:=hd;have l1:=aKq v1;have l3:=(w9 v3).1;have l4:=(tM v4).1;have l7:=cx v7;have l9:=aQZ v9;have l10:=(wI v10).1;have l11:=xx v11;have l12:=xy v12;exact⟨show _<=1048576 by lia,show _<=1048576 by lia,show _<=1048576 by lia,show _<=1048576 by lia,show _<=1048576 by lia,show _<=1048576 by lia,show _<=1048576 by lia,show _<=1048576 by lia,trivial⟩
theorem aLE(hd:Vd d)(hc:Cn c)(ht:c.2.1.size<=1048576):P40 d c:=by
 have hk:=hc;obtain⟨_,_,_,_,_,_,_,_,k9,k10⟩:=hk;exact rP (λ_=>⟨aLu hd c ht,trivial⟩) λ_=>rP (λq=>⟨YN hd c k9 (λr=>absurd (q.symm.trans r) (by lia)),trivial⟩) λq=>rP (λr=>⟨YN hd c k9 (λ_=>k10 r),trivial⟩) λ_=>⟨aLx hd hc,trivial⟩
def XQ(d:bF)(o:Γ Δ)(k:Int)(b:Bool)(y:bF):Prop:=Few o/\(b=true->k=0->Vd y/\(y=d\/o=[aA #[111,107]]\/∃x s,o=[sC x++aA #[47]++s]))
theorem aZm{α β γ δ:Type}{A1 A2:α}{B1 B2:β}{C1 C2:γ}{D1 D2:δ}{Q:α->β->γ->δ->Prop}(h1:b=true->Q A1 B1 C1 D1)(h2:b=false->Q A2 B2 C2 D2):Q (if b=true then A1 else A2) (if b=true then B1 else B2) (if b=true then C1 else C2) (if b=true then D1 else D2):=by
 lia
theorem aPe(hd:Vd d)(c:CMD)(ht:c.2.1.size<=1048576):XQ d (fM d c) (fU d c) (gP d c) (gT d c):=by
 have ch:=aHm hd c;refine aZm (λ_=>⟨yz (by decide),λb k=>⟨aOS hd c ht b k,.inr (.inl rfl)⟩⟩) λ_=>aZm (λ_=>⟨ch.1,λ_ k=>⟨(ch.2 k).1,.inr (ch.2 k).2⟩⟩) λ_=>aZm (λ_=>⟨ch.1,λ_ k=>⟨(ch.2 k).1,.inr (ch.2 k).2⟩⟩) λ_=>⟨aL0 hd c,λ_ _=>⟨hd,.inl rfl⟩⟩
theorem zq(r g t b:Int):JE r g [t,b]=(E4 t&&Nb b r g):=by
 have e:GL [t,b]=(GJ t||(GJ b||false)):=WE [t,b];have k:∀x,GJ x = !E4 x:=λ_=>rfl;have k2:gx r=E4 r:=rfl;have k3:bE g 1 900=cG g 1 900:=rfl
 grind [JE,Nb]
theorem aHs{x:Int×Int×Int×Int×Unit}(v:q8 x=true)(t b r g n:Int):aO0 x t b r g n/\X7 x t b r g n=RO x t b r g n/\X8 x t b r g n=WI x t b r g n:=by
 have hv:=PF v;have e0:L9 x=true:=v;have en:X6 n=Md n:=rfl;unfold aO0 X7 X8 RO WI zZ;rw[zq,e0,en];cases c1:E4 t with
 | false=>lia
 | true =>
  cases c2:Nb b r g with
  | false=>lia
  | true =>
   cases c3:Md n with
   | false=>lia
   | true =>
    obtain⟨l1,l2,l3,l4⟩:=xg (r:=r) (g:=g) (t:=t) (b:=b) (by simp[zq,c1,c2]);have ew:aXL x t b r g n=BE x t b r g n:=aLj v n l3 l4 l1 l2 20002 (by lia);have bs:=R8 (λy=>Dz y t b r g n) (x.1+1-0).toNat 0 (x.1+1) (by lia) (by lia);have eb:BE x t b r g n=Me (λy=>Dz y t b r g n) (x.1+1-0).toNat 0 (x.1+1):=rfl;have e1:RN x t b r g n=decide (BE x t b r g n<=x.1):=rfl;have eg:Rz x t b r g n=if BE x t b r g n>x.1 then -1 else BE x t b r g n:=by grind [Rz]
    refine⟨⟨⟨hv,l3,l4,l1,l2⟩,trivial⟩,?_⟩
    lia
theorem aLF{l:Γ I3}(v:fW l=true)(a b:Int):aO3 l a b/\SA l a b=JD l a b/\X9 l a b=RL l a b:=by
 have e0:w7 l=true:=(FL l).symm.trans v;have ea:Qy a=bE a 0 24000:=rfl;have eb:cG b 1 1000=bE b 1 1000:=rfl;obtain⟨hl,ht⟩:=wI v;unfold aO3 SA X9 JD RL;rw[e0,ea,eb,v];cases c1:bE a 0 24000 with
 | false=>lia
 | true =>
  cases c2:bE b 1 1000 with
  | false=>lia
  | true =>
   by_cases c3:l.length=0
   ·lia
   ·have w:=wi c2;have c3':((l.length:Int)==0)=false:=beq_false_of_ne (by lia);have e:(((l.length:Nat):Int)-1).toNat=l.length-1:=by lia
    have md:∀x y:Int,Dt x y=if y<x then y else x:=λx y=>by
     unfold Dt
     lia
    have hg:=(ND l).2.1 v;have hd:(E5 l a>=0/\Dy l a=0/\BD l a=E5 l a)\/(¬E5 l a>=0/\Dy l a≠0):=by
     unfold E5 BD Dy
     lia
    rw[c3',e];refine⟨⟨by grind [aJ],by lia,by lia,by grind [aJ],v,trivial⟩,?_⟩
    grind
theorem aHt(l:Γ Int)(e s:Int):aOn l e s/\XJ l e s=Iy l e s/\XK l e s=RB l e s:=by
 have e1:aCw e=M4 e:=rfl;have e2:aCx s=Iw s:=rfl;have hp:=Rl l e s;unfold aGe at hp;unfold aOn XJ XK Iy RB Rw;unfold sZ at hp ⊢;rw[aKX,e1,e2];cases c1:pT l with
 | false=>lia
 | true =>
  cases c2:M4 e with
  | false=>lia
  | true =>
   cases c3:Iw s with
   | false=>lia
   | true =>
    rw[c1,c2,c3]at hp;have w:=wi (show bE s 1 1000=true from c3);exact⟨⟨⟨hp.1,by lia⟩,trivial⟩,rfl,rfl⟩
theorem aLG(n:Int):aO4 n/\Xa n=o3 n:=by
 unfold aO4 Xa;have e:MV n=pU n:=rfl;cases c:pU n with
 | false =>
  grind [o3]
 | true =>
  obtain⟨a,b,d,h1,h2,h3,h4,_⟩:=SV (n:=n) (wi (show bE n 0 36524=true from c))
  lia
theorem aLH{l:Γ Int}(h1:l.length<=64)(hv:∀n∈l,Le n):aNF l/\GY l=hJ l:=by
 refine⟨⟨by lia,λn hn=>by grind [Le,aJ]⟩,?_⟩;by_cases c:l.length=0
 ·obtain rfl:=bN c;rfl
 grind [aPc,aKn]
theorem aZn{x0 x1:Γ b6}:(Du x0 x1).length<=64/\∀n∈Du x0 x1,Le n:=by
 unfold Du;split
 ·rename_i h;unfold Hf at h;rw[aT]at h;have hl:=(w9 h.2).1;have key:∀(l:Γ b6) (i:Nat),i+l.length<=64->(vN x0 l i).length<=l.length/\∀n∈vN x0 l i,Le n:=λl=>by
   induction l with
   | nil=>intro i _;exact⟨aU _,λn hn=>by cases hn⟩
   | cons y l ih =>
    unfold vN;split
    ·all_goals grind [Le]
    grind
  grind
 simp
theorem aFo{x0:Γ bP}{e:Int}:∀ {n:Nat} {m:Int} {l:Γ Int},Bc x0 e n m=some l->l.Nodup/\∀c∈l,(0<=c/\c<(x0.length:Int))/\m<(sA x0 c.toNat).2.2.1
 | 0,m,l,h=>by
  obtain rfl:[]=l:=by injection h
  simp
 | n+1,m,l,h=>by
  unfold Bc at h;split at h
  ·split at h
   ·lia
   ·rename_i hb;obtain⟨b,h1,h2,h3,h4,_⟩:=ka x0 m hb;obtain⟨r,hr,rfl⟩:=Option.map_eq_some_iff.1 h;obtain⟨k1,k2⟩:=aFo hr
    grind
  grind
theorem aLI{x0:Γ bP}(hl:x0.length<=64)(a b:Int):(E2 x0 a b).length<=64/\∀n∈E2 x0 a b,Le n:=by
 unfold E2;split
 ·simp
 ·cases h:Bc x0 b (b-a).toNat a with
  | none=>simp
  | some l =>
   obtain⟨k1,k2⟩:=aFo h;have:=UN l ((List.range x0.length).map Int.ofNat) k1 (λc hc=>cW.2 ⟨c.toNat,List.mem_range.2 (by grind),Int.toNat_of_nonneg (k2 c hc).1.1⟩)
   grind [Le]
theorem aFp{x0 x1:Γ HT}:∀ {m:Nat} {u y:Γ Int},fF x0 x1 m u=some y->y.length=u.length+m/\((∀n∈u,0<=n/\n<(x0.length:Int))->∀n∈y,0<=n/\n<(x0.length:Int))
 | 0,u,y,h=>by
  obtain rfl:u=y:=by injection h
  lia
 | m+1,u,y,h=>by
  have e:fF x0 x1 (m+1) u=zY (fF x0 x1 m) u (pG (x1.getD u.length hD) x0 0):=rfl;rw[e]at h;have hp:∀(l:Γ HT) (i:Nat) (z:HT),∀n∈pG z l i,(i:Int)<=n/\n<((i+l.length:Nat):Int):=λl=>by
   induction l with
   | nil=>intro i z n hn;cases hn
   | cons a l ih =>
    intro i z n hn;unfold pG at hn
    grind
  have key:∀ks:Γ Int,(∀k∈ks,0<=k/\k<(x0.length:Int))->zY (fF x0 x1 m) u ks=some y->∃k,(0<=k/\k<(x0.length:Int))/\fF x0 x1 m (u++[k])=some y:=λks=>by
   induction ks with
   | nil=>intro _ h;cases h
   | cons k ks ih =>
    intro hk h;rw[zY]at h;split at h
    ·simp_all
    ·cases hf:fF x0 x1 m (u++[k])with
     | some z =>
      grind [aR]
     | none =>
      simp_all
  obtain⟨k,hk,hf⟩:=key _ (λk hk=>by grind) h;obtain⟨a,b⟩:=aFp hf
  grind
theorem aLJ{x0 x1:Γ HT}(h0:x0.length<=64)(h1:x1.length<=64):(JA x0 x1).length<=64/\∀n∈JA x0 x1,Le n:=by
 unfold JA;have no:([]:Γ Int).length<=64/\∀n∈([]:Γ Int),Le n:=⟨by simp,λn hn=>by grind⟩;split
 ·lia
 ·split
  ·lia
  ·show ((fF x0 x1 x1.length []).getD []).length<=64/\∀n∈(fF x0 x1 x1.length []).getD [],Le n;cases h:fF x0 x1 x1.length [] with
   | none=>simp
   | some y =>
    obtain⟨a,b⟩:=aFp h;refine⟨by grind,λn hn=>?_⟩;have:=b (λn hn=>by grind) n hn
    grind [Le]
theorem aLK(l:Γ Int)(e s:Int):(Iy l e s).length<=64/\∀n∈Iy l e s,Le n:=by
 have hp:=Rl l e s;have hv:sZ l (Iw s)=0->pT l=true:=λh=>by
  grind [sZ]
 have key:aGd l e s 0->pT l=true->(RA l e s 0).length<=64/\∀n∈RA l e s 0,Le n:=λhq hv=>by
  obtain⟨a1,a2⟩:=TQ hv;obtain⟨_,q2,_,_⟩:=hq;have go:∀(r:Γ Int) (i:Nat) (w:Int),(0<=w/\w<=1000*(i:Int))->i+r.length<=60->(∀x∈r,0<=x/\x<=1000)->(xX e s 0 r i w).length=r.length/\∀n∈xX e s 0 r i w,Le n:=λr=>by
   induction r with
   | nil=>intro i w _ _ _;exact⟨rfl,λn hn=>by cases hn⟩
   | cons x r ih =>
    intro i w hw hi hx;rw[cH]at hi;have hx0:=hx x (aR ..);have hb:0<=DY e s 0 i w x/\DY e s 0 i w x<=w+x:=by
     obtain⟨d1,d2⟩:=Ix q2 (show 0<=w+x by lia)
     grind [DY]
    obtain⟨a,b⟩:=ih (i+1) (DY e s 0 i w x) (by lia) (by lia) (λy hy=>hx y (aM _ hy));unfold xX
    all_goals grind [Le]
  obtain⟨a,b⟩:=go l 0 0 (by lia) (by lia) a2;exact⟨by show (xX e s 0 l 0 0).length<=64;lia,b⟩
 unfold aGe at hp;unfold Iy;cases c1:M4 e with
 | false =>
  by_cases c2:(sZ l false != 0)=true
  ·grind
  ·have:sZ l false≠0:=by grind [sZ]
   lia
 | true =>
  grind
theorem getD_all{l:Γ Δ}{M:Nat}(h:l.all (λs=>decide (s.size<=M))=true)(i:Nat):(l.getD i aC).size<=M:=by
 by_cases c:i<l.length
 all_goals simp_all
theorem SW(k:Int):P41 k/\(TZ k).size<=20:=by
 constructor
 ·unfold P41
  lia
 ·unfold TZ;split
  ·exact aY _
  ·split
   ·exact aY _
   ·exact getD_all (by rfl) _
def DQ(d:bF)(y:bF)(o:Γ Δ)(k:Int):Prop:=Few o/\(k=8\/(k=0/\Vd y/\o≠[]/\(y=d\/(o.getD 0 aC).data.toList.head? ≠ some 101)))
theorem aHu(x:Int)(s:Δ):(sC x++aA #[47]++s).data.toList.head? ≠ some 101:=by
 have e:(sC x++aA #[47]++s).data.toList=(sC x).data.toList++([47]++s.data.toList):=by
  simp
 rw[e];unfold sC;split
 ·simp
 ·rename_i c;have w:=wi (nb c)
  grind
theorem aFq(hv:zC d=true)(hx:x.size<=1048576):P7 d x/\DQ d (dR d x) (DI d x) (SS d x):=by
 have hd:=(aCX d).1 hv;constructor
 ·refine rP (λ_=>trivial) λ_=>⟨hx,rP (λ_=>trivial) λq=>?_⟩;obtain⟨hc,ht⟩:=aRI (x:=x) (by lia);have n:=(SW (fU (cX d) (hY x)));exact⟨Ph hd,aLE hd hc (by lia),rP (λ_=>trivial) λ_=>rP (λ_=>⟨Ph hd,n.1,by lia,trivial⟩) λ_=>rP (λ_=>trivial) λ_=>rP (λr=>⟨by lia,trivial⟩) λ_=>trivial⟩
 ·refine FU (λq=>?_) λ_=>FU (λ_=>⟨zd,.inl rfl⟩) λq=>?_
  ·lia
  obtain⟨hc,ht⟩:=aRI (x:=x) (by lia);have hX:=aPe hd (hY x) (by lia);have hX:XQ d (fM (cX d) (hY x)) (fU (cX d) (hY x)) (gP (cX d) (hY x)) (gT (cX d) (hY x)):=hX;generalize fM (cX d) (hY x)=o at *;generalize fU (cX d) (hY x)=k at *;generalize gP (cX d) (hY x)=b at *;generalize gT (cX d) (hY x)=y at *;refine FU (λ_=>⟨zd,.inl rfl⟩) λhb=>FU (λhk=>?_) λhk=>?_
  ·have n:=(SW k).2;exact⟨yz (by rw[dH,show (aA #[101,114,114,111,114,32]).size=6 from rfl];lia),.inr ⟨rfl,hd,by lia,.inl rfl⟩⟩
  ·have hb:b=true:=by lia
   have hk:k=0:=by lia
   obtain⟨hy,hz⟩:=hX.2 hb hk;have none_ok:DQ d y [aA #[110,111,110,101]] 0:=⟨yz (by decide),.inr ⟨rfl,hy,by lia,.inr (by
    simp)⟩⟩
   have all_ok:o≠[]->DQ d y o 0:=λhne=>⟨hX.1,.inr ⟨rfl,hy,hne,by
    grind [aHu]⟩⟩
   grind
theorem aPf(hx:Cf x=false):J5 x=0 :=
 (chI (chI (chI (chI (chI (chI (λh=>by
  grind [Mz,JT]))))))) hx
theorem aFr{a b c:Nat}(h:Yl (a:Int) (b:Int) (c:Int))(ha:2000<=a/\a<=2099)(hb:b<=12)(hc:c<=31):J5 (dT a b c)=fH (a:Int) (b:Int) (c:Int)/\Cf (dT a b c)=true:=by
 obtain⟨y1,y2⟩:=aVi ha;obtain⟨m1,m2⟩:=aEw (n:=b) (by lia);obtain⟨d1,d2⟩:=aEw (n:=c) (by lia);obtain⟨n1,n2⟩:=aVf h;have es:(((dT a b c).size:Nat):Int)=10:=rfl;have g4:(((((dT a b c).data.toList).getD 4 0).toNat:Nat):Int)=45:=rfl;have g7:(((((dT a b c).data.toList).getD 7 0).toNat:Nat):Int)=45:=rfl;have x1:aO (dT a b c) 0 4=⟨⟨y4 a⟩⟩:=Ks _ 0 4;have x2:aO (dT a b c) 5 7=⟨⟨[mJ (b/10),mJ (b%10)]⟩⟩:=Ks _ 5 7;have x3:aO (dT a b c) 8 (aE 10)=⟨⟨[mJ (c/10),mJ (c%10)]⟩⟩:=Ks _ 8 10;unfold J5 Cf
 grind
theorem aPg(hx:Cf x=true):∃a b c:Nat,Yl (a:Int) (b:Int) (c:Int)/\(2000<=a/\a<=2099)/\(1<=b/\b<=12)/\(1<=c/\c<=31)/\x=dT a b c:=by
 unfold Cf at hx;split at hx
 ·lia
 have hs:x.size=10:=by
  lia
 obtain⟨⟨l⟩⟩:=x;have hl:l.length=10:=hs
 match l,hl with
 | [p,q,r,s,t,u,v,w,z,o],_ =>
  have es:(((aA ⟨[p,q,r,s,t,u,v,w,z,o]⟩).size:Nat):Int)=10:=rfl;have x1:aO ⟨⟨[p,q,r,s,t,u,v,w,z,o]⟩⟩ 0 4=⟨⟨[p,q,r,s]⟩⟩:=Ks _ 0 4;have x2:aO ⟨⟨[p,q,r,s,t,u,v,w,z,o]⟩⟩ 5 7=⟨⟨[u,v]⟩⟩:=Ks _ 5 7;have x3:aO ⟨⟨[p,q,r,s,t,u,v,w,z,o]⟩⟩ 8 (aE 10)=⟨⟨[z,o]⟩⟩:=Ks _ 8 10;have g4:aD (Array.toList (bO ⟨⟨[p,q,r,s,t,u,v,w,z,o]⟩⟩)) 4 0=t:=rfl;have g7:aD (Array.toList (bO ⟨⟨[p,q,r,s,t,u,v,w,z,o]⟩⟩)) 7 0=w:=rfl;rw[es,g7]at hx;split at hx
  ·lia
  rename_i h1;split at hx
  ·lia
  rename_i h2;split at hx
  ·lia
  split at hx
  ·lia
  split at hx
  ·lia
  have h1':t=45:=kR λe=>h1 (bDx.2 e);have h2':w=45:=kR λe=>h2 (bDx.2 e);have hD:=aVg hx;obtain⟨a,ha,ea,la⟩:=aKh (l:=[p,q,r,s]) rfl (by lia) hD.1;obtain⟨b,hb,eb,lb⟩:=aEv (a:=u) (b:=v) (by lia);obtain⟨c,hc,ec,lc⟩:=aEv (a:=z) (b:=o) (by lia);obtain⟨a',b',c',e1,e2,e3,r1,r2,r3⟩:=JV hD
  grind [dT]
theorem dl(x:Δ)(h:x.size<=1048576):aNZ x/\aGt x/\rY x=J5 x/\u2 x=Cf x:=by
 have ifT3:∀ {c:Prop} [Decidable c] {Q:Prop},(¬c->Q)->if c then True else Q:=by
  lia
 refine⟨?_,?_,?_⟩
 ·unfold aNZ;have k:∀a b:Nat,a<=b->b<=10->wz (aO x a b):=λa b _ hb=>by
   show (aO x a b).size<=18
   grind [mW]
  grind
 ·refine⟨⟨by lia,aU 1⟩,ifT3 λh0=>?_⟩;generalize eJ (aD (aW x (aA #[45])) 0 aC)=y;generalize eJ (aD (aW x (aA #[45])) 1 aC)=m;generalize eJ (aD (aW x (aA #[45])) 2 aC)=d;refine⟨by lia,by lia,by lia,?_,ifT3 λh1=>?_⟩
  ·refine ifT3 λa1=>ifT3 λa2=>?_;have a1':=win.1 (show bE y 2000 2099=true by lia);have a2':=win.1 (show bE m 1 12=true by lia);obtain⟨l0,l1,l2⟩:=Mq a1' (m:=m);refine⟨l0,ifT3 λa3=>?_⟩;have a3':=win.1 (show bE d 1 (mP y m)=true by lia);exact⟨⟨a1',a2',by lia⟩,trivial⟩
  ·have hD:Yl y m d:=aVh (by lia);rw[(aN7 hD).1];exact⟨JW hD,trivial⟩
 ·cases hs:Cf x with
  | true =>
   obtain⟨a,b,c,hD,ha,hb,hc,rfl⟩:=aPg hs;obtain⟨i0,i1⟩:=UM hD ha (by lia) (by lia);obtain⟨s0,s1⟩:=aFr hD ha (by lia) (by lia)
   lia
  | false =>
   cases hi:u2 x with
   | true =>
    obtain⟨a,b,c,hD,ha,hb,hc,rfl⟩:=aEt hi
    grind [aFr]
   | false=>exact⟨(aEu hi).trans (aPf hs).symm,rfl⟩
theorem bGA:Yl ((2000:Nat):Int) ((1:Nat):Int) ((1:Nat):Int):=by
 refine⟨⟨by lia,by lia⟩,⟨by lia,by lia⟩,by lia,?_⟩;have:=(Mq (y:=((2000:Nat):Int)) ⟨by lia,by lia⟩ (m:=((1:Nat):Int))).2.1
 lia
theorem bJH:fH ((2000:Nat):Int) ((1:Nat):Int) ((1:Nat):Int)=0:=by
 rfl
theorem aLL(x:Δ):∃a b c:Nat,Yl (a:Int) (b:Int) (c:Int)/\(2000<=a/\a<=2099)/\b<=12/\c<=31/\rY x=fH (a:Int) (b:Int) (c:Int)/\(u2 x=true↔x=dT a b c):=by
 cases hi:u2 x with
 | true =>
  obtain⟨a,b,c,hd,ha,hb,hc,rfl⟩:=aEt hi;exact⟨a,b,c,hd,ha,by lia,by lia,(UM hd ha (by lia) (by lia)).1,⟨λ_=>rfl,λ_=>rfl⟩⟩
 | false =>
  refine⟨2000,1,1,bGA,by lia,by lia,by lia,?_,⟨(λh=>by lia),λh=>?_⟩⟩
  all_goals grind [aEu,bJH,UM,bGA]
theorem aPh(a b c:Nat):(dT a b c).size=10:=rfl
theorem aPi(x:b6):vZ x=tI x:=rfl
theorem Lf{a b:Int}(h:fK x=[a,b]):o4 x=true/\hJ [a,b]=x/\x.data.toList≠[]:=by
 obtain⟨h1,h2⟩:=Rj (x:=x) (by lia);rw[h]at h2;refine⟨h1,h2,?_⟩;unfold fK EH at h;split at h
 ·lia
 ·split at h
  ·rename_i ht;have hn:kP x=[a,b]:=h;obtain⟨h5,h6⟩:=(Wn x).1 ht;have hv:∀n∈kP x,Le n:=λn hn=>by
    obtain⟨w,hw,rfl⟩:=cW.1 hn
    grind
   rw[hn]at hv;rw[Rh (by lia) (by simp) hv]at h2;rw[<- h2,Ri];simp
  grind
theorem bJI{n a b:Int}{y p q:Nat}(h:tI (n,a,b,())=true)(hn:o3 n=dT y p q) :
  (EI (n,a,b,())).data.toList=(dT y p q).data.toList++32::(hJ [a,b]).data.toList:=by
 unfold EI;simp_all
theorem aPj(x:Δ)(hx:x.size<=1048576):aGA x/\xn x/\rB x=wL x/\C6 x=Cg x:=by
 have hss:bU x 32=bss (dB 32 x.data.toList):=rfl;have hpp:P88 x 32:=⟨by lia,by lia,by lia⟩;have hpc:aGq x (aA #[32]):=(show x.size<4294967281 from by lia);have hsz:x.data.toList.length=x.size:=rfl;have rej:∀(D R:Δ),iV x (aA #[32])=D->eD x (aA #[32])=R->D.size<=1048576->R.size<=1048576->(dB 32 x.data.toList).length≠2->(fK R).length≠2 ->
   aGA x/\xn x/\rB x=wL x/\C6 x=Cg x:=λD R hD hR zD zR hl hr=>by
  unfold aGA xn rB C6 wL Cg cT kN xl;rw[hss,hD,hR];obtain⟨_,p2,_,_⟩:=dl D zD;have hl':(((bss (dB 32 x.data.toList)).length:Int) != 2)=true:=by
   grind [bss,dB,eV]
  have hr':(((fK R).length:Int)==2)=false:=by
   lia
  have pR:ik R:=zR
  lia
 rcases Ot 32 x.data.toList with hn | ⟨p,r,hj,hp⟩
 ·have hc:lC x.data.toList (aA #[32]).data.toList=(x.data.toList,[],false):=VZ 32 hn;refine rej x (aA #[]) ?_ ?_ hx (aY _) ?_ ?_
  ·unfold iV;rw[hc]
  ·grind [eD]
  ·grind [lE]
  ·intro h2;obtain⟨a,b,e⟩:=xb h2;exact(Lf e).2.2 rfl
 ·have hc:lC x.data.toList (aA #[32]).data.toList=(p,r,true):=by grind [UC]
  have c0:iV x (aA #[32])=⟨⟨p⟩⟩:=by grind [iV]
  have c1:eD x (aA #[32])=⟨⟨r⟩⟩:=by grind [eD]
  have hlen:p.length+(r.length+1)=x.size:=by grind
  have zp:(⟨⟨p⟩⟩:Δ).size=p.length:=rfl;have zr:(⟨⟨r⟩⟩:Δ).size=r.length:=rfl;by_cases hr:(32:UInt8)∈r
  ·refine rej _ _ c0 c1 (by lia) (by lia) ?_ ?_
   ·grind [nJ,cH,oV,kV]
   ·intro h2;refine cw (x:=⟨⟨r⟩⟩) (k:=32) (by simp[C8]) (by lia) (by lia) (λe=>?_) hr
    grind
  ·have hs2:dB 32 x.data.toList=[p,r]:=by grind [PD]
   unfold aGA xn rB C6 wL Cg cT kN xl;rw[hss,hs2,c0,c1];have e0:bss [p,r]=[⟨⟨p⟩⟩,⟨⟨r⟩⟩]:=rfl;rw[e0];have n0:((([(⟨⟨p⟩⟩:Δ),⟨⟨r⟩⟩].length:Nat):Int) != 2)=false:=rfl;have d0:aD [(⟨⟨p⟩⟩:Δ),⟨⟨r⟩⟩] 0 aC=⟨⟨p⟩⟩:=rfl;have d1:aD [(⟨⟨p⟩⟩:Δ),⟨⟨r⟩⟩] 1 aC=⟨⟨r⟩⟩:=rfl;have l0:(0:Int)<(([(⟨⟨p⟩⟩:Δ),⟨⟨r⟩⟩].length:Nat):Int):=by lia
   have l1:(1:Int)<(([(⟨⟨p⟩⟩:Δ),⟨⟨r⟩⟩].length:Nat):Int):=by lia
   obtain⟨p1,p2,r0,r1⟩:=dl ⟨⟨p⟩⟩ (by lia);obtain⟨q0,q1⟩:=rT ⟨⟨r⟩⟩;have pR:ik ⟨⟨r⟩⟩:=(show r.length<=1048576 from by lia);have pS:LR ⟨⟨r⟩⟩:=(show r.length<4294967281 from by lia);simp only[n0,d0,d1,l0,l1, <- r0, <- r1,q0,q1,gE,if_false,true_and,and_true];cases s1:u2 ⟨⟨p⟩⟩ with
   | false=>lia
   | true =>
    obtain⟨y,m,d,hd,hy,hm,hdd,v0,v1⟩:=aLL ⟨⟨p⟩⟩;have ep:=v1.1 s1;have hdt:o3 (rY ⟨⟨p⟩⟩)=dT y m d:=by grind [FN]
    have hdp:Mu (rY ⟨⟨p⟩⟩):=by grind [JW]
    by_cases h2:(fK ⟨⟨r⟩⟩).length=2
    ·obtain⟨a,b,e⟩:=xb h2;obtain⟨t1,t2,_⟩:=Lf e;rw[e,t1];have n2:((([a,b].length:Nat):Int) != 2)=false:=rfl;have n3:((([a,b].length:Nat):Int)==2)=true:=rfl;have g0:aD [a,b] 0 0=a:=rfl;have g1:aD [a,b] 1 0=b:=rfl;have m0:(0:Int)<(([a,b].length:Nat):Int):=by lia
     have m1:(1:Int)<(([a,b].length:Nat):Int):=by lia
     have hP:aKd (rY ⟨⟨p⟩⟩,a,b,()):=by
      unfold aKd;split
      ·lia
      ·have e1:(aA #[32]).size=1:=rfl
       grind
     simp only[n2,n3,g0,g1,m0,m1,vJ,gE,if_false,true_and,and_true,aPi];refine⟨⟨hpp,p1,pS⟩,⟨hpc,p2,pR,hP⟩,?_⟩;cases hv:tI (rY ⟨⟨p⟩⟩,a,b,())with
     | true =>
      grind [EI,rY,z6,bJI]
     | false =>
      have ht:EI (rY ⟨⟨p⟩⟩,a,b,())=aA #[]:=by
       grind [EI]
      have hne:(aB (aA #[])==aB x)=false:=by
       rw[bV];intro hh;have:=(bC _ _).1 hh
       grind
      lia
    lia
theorem bGB{a:Δ}{n m:Nat}(h:qZ (a,(n:Int),(m:Int),())=true)(hn:n<=1440)(hm:m<=1440) :
  (Cj (a,(n:Int),(m:Int),())).data.toList=a.data.toList++32::((LQ (n/60) (n%60)).data.toList++32::(LQ (m/60) (m%60)).data.toList):=by
 unfold Cj
 grind [PE,W4]
theorem bJJ(a:Δ)(n m:Int)(hs:a.size<=1048576):aLk (a,n,m,()):=by
 unfold aLk;split
 ·lia
 ·obtain⟨h1,h2,h3,h4⟩:=JM (a:=a) (n:=n) (m:=m) (by lia);obtain⟨n,rfl⟩:=eG h1;obtain⟨m,rfl⟩:=eG h3;have e1:(aA #[32]).size=1:=rfl;simp only[PE (show n<=1440 by lia),PE (show m<=1440 by lia),dH,aJN];exact⟨by lia,UI _,by lia,by lia,UI _,by lia,trivial⟩
theorem SX(x:Δ)(hx:x.size<=1048576):aKG x/\aGG x/\lJ x=J4 x/\wM x=ER x:=by
 have hsp:aW x (aA #[32])=bss (dB 32 x.data.toList):=zW 32 x;have hss:bU x 32=bss (dB 32 x.data.toList):=rfl;have hps:xi x (aA #[32]):=⟨by lia,aU 1⟩;have hpp:P88 x 32:=⟨by lia,by lia,by lia⟩;unfold aKG aGG lJ wM J4 ER;rw[hsp,hss];by_cases h3:(dB 32 x.data.toList).length=3
 ·obtain⟨a,b,c,e⟩:=W6 h3;have hj:=xa e;have hsz:x.data.toList.length=x.size:=rfl;rw[hj]at hsz;simp at hsz;rw[e];have e0:bss [a,b,c]=[⟨⟨a⟩⟩,⟨⟨b⟩⟩,⟨⟨c⟩⟩]:=rfl;rw[e0];have n0:((([(⟨⟨a⟩⟩:Δ),⟨⟨b⟩⟩,⟨⟨c⟩⟩].length:Nat):Int) != 3)=false:=rfl;have d0:aD [(⟨⟨a⟩⟩:Δ),⟨⟨b⟩⟩,⟨⟨c⟩⟩] 0 aC=⟨⟨a⟩⟩:=rfl;have d1:aD [(⟨⟨a⟩⟩:Δ),⟨⟨b⟩⟩,⟨⟨c⟩⟩] 1 aC=⟨⟨b⟩⟩:=rfl;have d2:aD [(⟨⟨a⟩⟩:Δ),⟨⟨b⟩⟩,⟨⟨c⟩⟩] 2 aC=⟨⟨c⟩⟩:=rfl;have l0:(0:Int)<(([(⟨⟨a⟩⟩:Δ),⟨⟨b⟩⟩,⟨⟨c⟩⟩].length:Nat):Int):=by lia
  have l1:(1:Int)<(([(⟨⟨a⟩⟩:Δ),⟨⟨b⟩⟩,⟨⟨c⟩⟩].length:Nat):Int):=by lia
  have l2:(2:Int)<(([(⟨⟨a⟩⟩:Δ),⟨⟨b⟩⟩,⟨⟨c⟩⟩].length:Nat):Int):=by lia
  have za:(⟨⟨a⟩⟩:Δ).size=a.length:=rfl;have zb:(⟨⟨b⟩⟩:Δ).size=b.length:=rfl;have zc:(⟨⟨c⟩⟩:Δ).size=c.length:=rfl;have pb:=aBY (x:=⟨⟨b⟩⟩) (by lia);have pc:=aBY (x:=⟨⟨c⟩⟩) (by lia);simp;refine⟨⟨hpp,aJP _,aJP _⟩,⟨hps,pb,pc,bJJ _ _ _ (by lia)⟩,?_⟩;have free:=vM 32 x.data.toList;rw[e]at free;have fa:=free a (by simp);by_cases hS:C4 ⟨⟨b⟩⟩=true/\C4 ⟨⟨c⟩⟩=true/\CS (⟨⟨a⟩⟩,C3 ⟨⟨b⟩⟩,C3 ⟨⟨c⟩⟩,())=true
  ·obtain⟨s1,s2,s3⟩:=hS;obtain⟨n,hn,eb⟩:=aJO s1;obtain⟨m,hm,ec⟩:=aJO s2
   grind [aQS,cm,bDh,Cj,z6,bGB]
  ·have hI:¬Cj (⟨⟨a⟩⟩,q9 ⟨⟨b⟩⟩,q9 ⟨⟨c⟩⟩,())=x:=by
    intro ht;by_cases hv:qZ (⟨⟨a⟩⟩,q9 ⟨⟨b⟩⟩,q9 ⟨⟨c⟩⟩,())=true
    ·obtain⟨h1,h2,h3,h4⟩:=JM hv;obtain⟨n,en⟩:=eG h1;obtain⟨m,em⟩:=eG h3;rw[en,em]at ht hv;have hn:n<=1440:=by lia
     have hm:m<=1440:=by lia
     have hd:=bGB hv hn hm;have hsx:=W5 (k:=32) fa (cl (h:=n/60) (m:=n%60) (by lia) (by lia)) (cl (h:=m/60) (m:=m%60) (by lia) (by lia))
     grind [LQ,z6,aQS,cm]
    ·unfold Cj at ht;rw[<- ht]at hj;simp_all
   have hI':(!aB (Cj (⟨⟨a⟩⟩,q9 ⟨⟨b⟩⟩,q9 ⟨⟨c⟩⟩,()))==aB x)=true:=by
    grind [bC]
   lia
 ·have hl:((bss (dB 32 x.data.toList)).length:Int)≠3:=by
   grind [bss,eV]
  lia
theorem Pi(x:Δ)(k:Int)(hk:0<k):((fK x).length:Int)=k->jU x=true:=λh=>by
 rw[(rT x).2];exact(Rj (λe=>by rw[e]at h;simp at h;omega)).1
theorem aLM(hx:x.size<=1048576):aNU x/\EP x=Gu x/\jf x=Jh x:=by
 have e0:=(rT x).1;have pl:LR x:=(show x.size<4294967281 from by lia);have ev:∀y,L7 y=wF y:=λ_=>rfl;unfold aNU jf EP Jh Gu cT kN;by_cases c:((fK x).length:Int)=4
 ·have h:=Pi x 4 (by lia) c
  grind
 lia
theorem aLN(hx:x.size<=1048576):aNV x/\o5 x=AH x/\rZ x=o6 x:=by
 have e0:=(rT x).1;have pl:LR x:=(show x.size<4294967281 from by lia);have ev:∀y,Ds y=xW y:=λy=>(wy y).symm;unfold aNV rZ o5 o6 AH cT kN;simp[ev];by_cases c:((fK x).length:Int)=3
 ·have h:=Pi x 3 (by lia) c
  lia
 lia
theorem aHv(hx:x.size<=1048576):aNV x/\EQ x=Gv x/\jg x=Ji x:=by
 have e0:=(rT x).1;have pl:LR x:=(show x.size<4294967281 from by lia);have ev:∀y,L8 y=rX y:=λ_=>rfl;unfold aNV jg EQ Ji Gv cT kN;by_cases c:((fK x).length:Int)=3
 ·have h:=Pi x 3 (by lia) c
  grind
 lia
theorem aHw(hx:x.size<=1048576):aNU x/\ES x=Gw x/\jh x=Jj x:=by
 have e0:=(rT x).1;have pl:LR x:=(show x.size<4294967281 from by lia);have ev:∀y,L9 y=q8 y:=λ_=>rfl;unfold aNU jh ES Jj Gw cT kN;by_cases c:((fK x).length:Int)=4
 ·have h:=Pi x 4 (by lia) c
  grind
 lia
theorem zt(hx:x.size<=1048576)(V:Δ×Int×Int×Int×Unit->Bool)(T:Δ×Int×Int×Int×Unit->Δ)(hT:∀y,T y=if V y=true then y.1++aA #[32]++hJ [y.2.1,y.2.2.1,y.2.2.2.1] else aA #[])
  (l:Γ Int) (hl:l=fK (eD x (aA #[32]))) (y:dO) (hy:y=(iV x (aA #[32]),l.getD 0 0,l.getD 1 0,l.getD 2 0,())) :
  aCj x/\(u4 x&&V (yC x,(fR x).getD 0 0,(fR x).getD 1 0,(fR x).getD 2 0,()))=(((l.length:Int)==3)&&(aB (T y)==aB x))/\(u4 x=true->(fR x).length=3/\(yC x,(fR x).getD 0 0,(fR x).getD 1 0,(fR x).getD 2 0,())=y):=by
 have hss:bU x 32=bss (dB 32 x.data.toList):=rfl;have hpp:P88 x 32:=⟨by omega,by omega,by omega⟩;have hsz:x.data.toList.length=x.size:=rfl;have rej:(dB 32 x.data.toList).length≠2->l.length≠3->aCj x/\(u4 x&&V (yC x,(fR x).getD 0 0,(fR x).getD 1 0,(fR x).getD 2 0,()))=(((l.length:Int)==3)&&(aB (T y)==aB x))/\(u4 x=true->(fR x).length=3/\(yC x,(fR x).getD 0 0,(fR x).getD 1 0,(fR x).getD 2 0,())=y):=λh1 h2=>by
  have c:(((bss (dB 32 x.data.toList)).length:Int) != 2)=true:=bne_iff_ne.2 (by unfold bss;rw[eV];omega);have e:u4 x=false:=by unfold u4;rw[hss,c];rfl
  refine⟨?_,?_,?_⟩
  ·unfold aCj;rw[hss,c];exact⟨hpp,trivial⟩
  ·rw[e,beq_false_of_ne (show (l.length:Int)≠3 by omega)];rfl
  ·rw[e];exact λh=>by cases h
 rcases Ot 32 x.data.toList with hn | ⟨p,r,hj,hp⟩
 ·have hc:lC x.data.toList (aA #[32]).data.toList=(x.data.toList,[],false):=VZ 32 hn;have c1:eD x (aA #[32])=aA #[]:=by unfold eD;rw[hc]
  refine rej (by rw[lE 32 hn];simp) ?_;rw[hl,c1];exact US 3 (by decide)
 ·have hc:lC x.data.toList (aA #[32]).data.toList=(p,r,true):=by rw[hj];exact UC 32 r hp
  have c0:iV x (aA #[32])=⟨⟨p⟩⟩:=by unfold iV;rw[hc]
  have c1:eD x (aA #[32])=⟨⟨r⟩⟩:=by unfold eD;rw[hc]
  have hlen:p.length+(r.length+1)=x.size:=by rw[<- hsz,hj];simp
  by_cases hr:(32:UInt8)∈r
  ·refine rej ?_ λh3=>?_
   ·rw[hj,nJ 32 r hp,cH,oV];have:=kV.2 hr;omega
   ·refine cw (x:=⟨⟨r⟩⟩) (k:=32) (by unfold C8;decide) (by decide) (by decide) (λe=>?_) hr;rw[hl,c1,e]at h3;cases h3
  ·have hs2:dB 32 x.data.toList=[p,r]:=by rw[hj];exact PD hp hr
   have e0:bss [p,r]=[⟨⟨p⟩⟩,⟨⟨r⟩⟩]:=rfl;have n0:((([(⟨⟨p⟩⟩:Δ),⟨⟨r⟩⟩].length:Nat):Int) != 2)=false:=rfl;have d0:aD [(⟨⟨p⟩⟩:Δ),⟨⟨r⟩⟩] 0 aC=⟨⟨p⟩⟩:=rfl;have d1:aD [(⟨⟨p⟩⟩:Δ),⟨⟨r⟩⟩] 1 aC=⟨⟨r⟩⟩:=rfl;have pS:LR ⟨⟨r⟩⟩:=(show r.length<4294967281 from by omega);have zr:(⟨⟨r⟩⟩:Δ).size=r.length:=rfl;rw[c1]at hl;rw[c0]at hy;have el:=(rT ⟨⟨r⟩⟩).1;unfold aCj yC fR u4;rw[hss,hs2,e0,n0,d0,d1,el, <- hl];by_cases c:l.length=3
   ·have ci:(l.length:Int)=3:=by omega
    have ok:=Pi ⟨⟨r⟩⟩ 3 (by decide) (by rw[<- hl];exact ci);obtain⟨_,hb⟩:=Rj (x:=⟨⟨r⟩⟩) (λe=>by rw[<- hl]at e;rw[e]at c;cases c);rw[<- hl]at hb;obtain⟨a,b,d,rfl⟩:=W6 c;rw[ok];have hy:y=(⟨⟨p⟩⟩,a,b,d,()):=hy;refine⟨⟨hpp,(ν (by decide)).mpr ⟨(show (1:Int)<2 by decide),pS,(ν (by decide)).mpr ((ν (show ¬(((3:Nat):Int) != 3)=true by decide)).mpr ⟨(show (0:Int)<2 by decide),trivial⟩)⟩⟩,?_,λ_=>⟨rfl,hy.symm⟩⟩;show (true&&V (⟨⟨p⟩⟩,a,b,d,()))=(true&&(aB (T y)==aB x));rw[hT y,hy];by_cases v:V (⟨⟨p⟩⟩,a,b,d,())=true
    ·rw[π v,v];refine(congrArg (true && ·) ((bC _ _).2 (z6 ?_))).symm;show ((⟨⟨p⟩⟩:Δ)++aA #[32]++hJ [a,b,d]).data.toList=_;rw[hb,W4,W4,hj,List.append_assoc];rfl
    ·rw[ν v,bV.2 v];refine(congrArg (true && ·) (bV.2 λh=>?_)).symm;rw[<- (bC _ _).1 h]at hj;have:=congrArg aF hj;simp at this
   ·have ci:((l.length:Int) != 3)=true:=bne_iff_ne.2 (by omega);rw[ci];refine⟨⟨hpp,(ν (by decide)).mpr ⟨(show (1:Int)<2 by decide),pS,?_⟩⟩,?_,?_⟩
    ·cases jU ⟨⟨r⟩⟩ <;> trivial
    ·rw[beq_false_of_ne (show (l.length:Int)≠3 by omega)];cases jU ⟨⟨r⟩⟩ <;> rfl
    ·intro h;cases ho:jU ⟨⟨r⟩⟩ <;> rw[ho]at h <;> cases h
theorem bb1(a b:Bool):(if(!a)=true then false else(if(!b)=true then false else true))=(a&&b):=by lia
theorem bb0{α:Type}{a b:Bool}(z y:α)(h:(a&&b)=true):(if(!a)=true then z else(if(!b)=true then z else y))=y:=by lia
theorem aLO(hx:x.size<=1048576):aNS x/\EN x=yF x/\(yF x=true->NV x=lV x):=by
 obtain⟨p,q,r⟩:=zt hx oX Nd (λy=>by grind [Nd]) _ rfl _ rfl;have es:EN x=(u4 x&&oX (yC x,(fR x).getD 0 0,(fR x).getD 1 0,(fR x).getD 2 0,())):=by
  simp[EN,WW]
 have ei:yF x=_:=bb1 _ _;refine⟨?_,es.trans (q.trans ei.symm),λh=>?_⟩
 ·unfold aNS
  lia
 ·have h2:=h;rw[ei]at h;rw[<- es.trans (q.trans ei.symm),es]at h2;have hb:=(aT _ _ ▸ h2).1;unfold NV lV;rw[<- WW,bb0 _ _ h2,(r hb).2];exact(bb0 _ _ h).symm
theorem aLP(hx:x.size<=1048576):aNS x/\ET x=yG x/\(yG x=true->NX x=lX x):=by
 obtain⟨p,q,r⟩:=zt hx s8 Nf (λy=>by grind [Nf]) _ rfl _ rfl;have es:ET x=(u4 x&&s8 (yC x,(fR x).getD 0 0,(fR x).getD 1 0,(fR x).getD 2 0,())):=by
  simp[ET,WX]
 have ei:yG x=_:=bb1 _ _;refine⟨?_,es.trans (q.trans ei.symm),λh=>?_⟩
 ·unfold aNS
  lia
 ·have h2:=h;rw[ei]at h;rw[<- es.trans (q.trans ei.symm),es]at h2;have hb:=(aT _ _ ▸ h2).1;unfold NX lX;rw[<- WX,bb0 _ _ h2,(r hb).2];exact(bb0 _ _ h).symm
theorem aHx:∀v:Fin 8,jj ((v.val:Nat):Int)=SB ((v.val:Nat):Int):=by decide +kernel
theorem dm(s:Δ):∀(k v:Nat),v+k=8->TU s k (v:Int)=TW s k (v:Int)
 | 0,_,_=>rfl
 | k+1,v,h=>by
  have e:=aHx ⟨v,by lia⟩;unfold TU TW aKL aLm;rw[e,show (v:Int)+1=((v+1:Nat):Int)by omega,dm s k (v+1) (by omega)]
theorem dn(s:Δ):jk s=kc s/\Rt s=SD s:=by
 have h:=dm s 8 0 rfl;exact⟨congrArg Prod.fst h,congrArg Prod.snd h⟩
theorem YS(hx:x.size<=1048576):aKM x/\Gb x=Gp x/\Gd x=Gr x/\Ge x=Gt x/\NZ x=Nh x:=by
 have hsp:aW x (aA #[32])=bss (dB 32 x.data.toList):=zW 32 x;have hss:bU x 32=bss (dB 32 x.data.toList):=rfl;have hpp:P88 x 32:=⟨by lia,by lia,by lia⟩;have e2:=λy=>(Aj y).1;have e3:=λy=>(Aj y).2;have k0:=λy=>(dn y).1;have k1:=λy=>(dn y).2;unfold aKM Gb Gd Ge NZ Gp Gr Gt Nh
 grind
theorem Nw(hx:x.size<=1048576):aKN x/\EU x=wN x/\J7 x=lK x:=by
 obtain⟨p,a,b,c,d⟩:=YS hx;unfold aKN J7 EU lK wN;rw[<- WY]
 lia
def fin(o:Γ Δ)(k:Int):Γ Δ:=if k=0 then(if o=[]\/o=[aA #[]] then [aA #[110,111,110,101]] else o)else [aA #[101,114,114,111,114,32]++TZ k]
def uJ(d:bF)(c:CMD):Option (Γ Δ×bF):=if gP d c=true then some (fin (fM d c) (fU d c),if fU d c=0 then gT d c else d)else none
theorem AR{d y:bF}{o:Γ Δ}{k:Int}(h:fM d c=o/\fU d c=k/\gP d c=b/\gT d c=y):uJ d c=if b=true then some (fin o k,if k=0 then y else d)else none:=by
 grind [uJ]
theorem mI{o:Γ Δ}{k:Int}(h:fM d c=o/\fU d c=k/\gP d c=true/\gT d c=d):uJ d c=some (fin o k,d):=by
 rw[AR h,π rfl,ite_self]
theorem aLQ(o n:Γ Δ):(if(((o.length:Nat):Int)==0)=true then n else(if(((o.length:Nat):Int)==1)=true then(if(aB (o.getD 0 aC)==aB (aA #[]))=true then n else o)else o))=if o=[]\/o=[aA #[]] then n else o:=by
 cases o with
 | nil=>rfl
 | cons a r =>
  rw[ν (by grind)];cases r with
  | nil =>
   rw[π (show (((([a]:Γ Δ).length:Nat):Int)==1)=true from rfl),show [a].getD 0 aC=a from rfl];by_cases c:a=aA #[]
   ·lia
   ·rw[ν (λh=>c ((bC _ _).1 h)),ν (λh=>h.elim (λh=>by lia) (λh=>c (by lia)))]
  | cons b r=>grind
theorem aPk(hv:zC d=true)(x:Δ):(BX x=true->∀a,uJ d (hY x)=some a->SS d x=0/\DI d x=a.1/\dR d x=a.2)/\(BX x=false\/uJ d (hY x)=none->SS d x=8):=by
 unfold dR DI SS uJ;rw[hv,show cX d=d from rfl];cases hr:BX x with
 | false=>exact⟨λh=>(by cases h),λ_=>rfl⟩
 | true =>
  generalize hY x=c;cases hb:gP d c with
  | false=>exact⟨λ_ a h=>(by cases h),λ_=>rfl⟩
  | true =>
   refine⟨λ_ a h=>?_,λh=>?_⟩
   ·rw[π rfl]at h
    injection h with h
    subst h;unfold fin;generalize fM d c=o;by_cases k:fU d c=0
    ·rw[k,π rfl,π rfl, <- aLQ];cases ((o.length:Nat):Int)==0
     ·cases ((o.length:Nat):Int)==1
      ·exact⟨rfl,rfl,rfl⟩
      ·cases (aB (o.getD 0 aC)==aB (aA #[])) <;> exact⟨rfl,rfl,rfl⟩
     ·exact⟨rfl,rfl,rfl⟩
    ·have k':(fU d c != 0)=true:=bne_iff_ne.2 k;rw[k',ν k,ν k];exact⟨rfl,rfl,rfl⟩
   ·rcases h with h | h
    ·cases h
    ·rw[π rfl]at h;cases h
theorem aPl(k:Int):aNG k/\Wu k=TZ k:=by
 have e:cG k 0 11=decide (0<=k/\k<=11):=ia;unfold aNG Wu TZ
 lia
theorem uK(k:Int):NH k/\(k≠0->∀o,tN k=fin o k):=by
 obtain⟨p,e⟩:=aPl k;have hz:=(SW k).2;unfold NH tN fin
 lia
theorem E9(k:Int):tN k=fin [aA #[111,107]] k:=by
 by_cases h:k=0
 ·rw[h];rfl
 ·exact(uK k).2 h _
theorem HG(o:Γ Δ)(k:Int)(hl:o.length<=1048576)(h:(∀s∈o,s≠aA #[])\/o.length=1):Wv o k/\AA o k=fin o k:=by
 refine⟨⟨λ_=>(uK k).1,hl⟩,?_⟩;unfold AA;by_cases hk:k=0
 ·unfold fin;rw[hk,ν (by decide),π rfl, <- aLQ];cases o with
  | nil=>rfl
  | cons a r =>
   have e0:((((a::r).length:Nat):Int)==0)=false:=beq_false_of_ne (by rw[cH];omega);rw[e0];have all:(∀s∈a::r,s≠aA #[])->(a::r).map TS=a::r:=λh=>by
    conv=>rhs;rw[<- List.map_id (a::r)]
    refine pM λs hs=>?_;unfold TS;rw[ν (λq=>h s hs ((bC _ _).1 q))];rfl
   rcases h with h | h
   ·rw[ν (by decide),ν (by decide),all h,show (a::r).getD 0 aC=a from rfl];rw[ν (λq=>h a (aR ..) ((bC _ _).1 q)),ite_self]
   ·obtain rfl:r=[]:=bN (by rw[cH]at h;omega);show [TS a]=if(aB a==aB (aA #[]))=true then [aA #[110,111,110,101]] else [a]
    unfold TS;split <;> rfl
 ·rw[π (by simpa using hk)];exact(uK k).2 hk o
theorem Bd(n k:Int):aCt n k/\N4 n k=fin [dA n] k:=by
 have h:=HG [gV n] k (show 1<=1048576 by lia) (.inr rfl);exact⟨⟨h.1,trivial⟩,h.2⟩
theorem Pj{l:Γ Int}(k:Int)(h:l.length<=64/\∀n∈l,Le n):aCh l k/\NI l k=fin [hJ l] k:=by
 obtain⟨p,e⟩:=aLH h.1 h.2;have q:=HG [GY l] k (show 1<=1048576 by lia) (.inr rfl);unfold aCh NI
 lia
theorem aDf(d:bF)(t:Δ)(n l:Γ Int):uJ d (aA #[115,108,111,119,101,115,116],t,n,l,())=some (fin ([dA (GS d.1 (n.getD 0 0))]) (Mo d.1 (n.getD 0 0)),d):=by
 refine mI ?_;unfold fM fU gP gT tV u6 tQ Ck cU;simp
theorem aDg(d:bF)(t:Δ)(n l:Γ Int):uJ d (aA #[114,101,115,101,114,118,101],t,n,l,())=some (fin ([dA (RU d.2.1 (n.getD 0 0))]) (WP d.2.1 (n.getD 0 0)),d):=by
 refine mI ?_;unfold fM fU gP gT tV u6 tQ Ck cU;simp
theorem aLR(d:bF)(t:Δ)(n l:Γ Int):uJ d (aA #[112,111,119,101,114],t,n,l,())=some (fin ([dA (RY d.2.2.2.2.1 (n.getD 0 0) (n.getD 1 0))]) (WQ d.2.2.2.2.1 (n.getD 0 0) (n.getD 1 0)),d):=by
 refine mI ?_;unfold fM fU gP gT tV u6 tQ Ck cU;simp
theorem aPm(d:bF)(t:Δ)(n l:Γ Int):uJ d (aA #[118,111,116,101],t,n,l,())=some (fin ([dA (GQ l (n.getD 0 0))]) (JH l (n.getD 0 0)),d):=by
 refine mI ?_;unfold fM fU gP gT tV u6 tQ Ck cU;simp
theorem aLS(d:bF)(t:Δ)(n l:Γ Int):uJ d (aA #[119,97,116,101,114],t,n,l,())=some (fin ([dA (RO d.2.2.2.2.2.2.2.1 (n.getD 0 0) (n.getD 1 0) (n.getD 2 0) (n.getD 3 0) (n.getD 4 0))]) (WI d.2.2.2.2.2.2.2.1 (n.getD 0 0) (n.getD 1 0) (n.getD 2 0) (n.getD 3 0) (n.getD 4 0)),d):=by
 refine mI ?_;unfold fM fU gP gT tV u6 tQ Ck cU;simp
theorem aDh(d:bF)(t:Δ)(n l:Γ Int):uJ d (aA #[114,117,110,110,105,110,103],t,n,l,())=some (fin ([hJ (Du d.2.2.2.1 d.2.2.1)]) (Iv d.2.2.2.1 d.2.2.1),d):=by
 refine mI ?_;unfold fM fU gP gT tV u6 E6 Gy cU;simp
theorem aLT(d:bF)(t:Δ)(n l:Γ Int):uJ d (aA #[99,111,118,101,114],t,n,l,())=some (fin ([hJ (E2 d.2.2.2.2.2.2.1 (n.getD 0 0) (n.getD 1 0))]) (Na d.2.2.2.2.2.2.1 (n.getD 0 0) (n.getD 1 0)),d):=by
 refine mI ?_;unfold fM fU gP gT tV u6 E6 Gy cU;simp
theorem aLU(d:bF)(t:Δ)(n l:Γ Int):uJ d (aA #[113,117,101,117,101],t,n,l,())=some (fin ([hJ (Iy l (n.getD 0 0) (n.getD 1 0))]) (RB l (n.getD 0 0) (n.getD 1 0)),d):=by
 refine mI ?_;unfold fM fU gP gT tV u6 E6 Gy cU;simp
theorem aPn(d:bF)(t:Δ)(n l:Γ Int):uJ d (aA #[102,105,108,108],t,n,l,())=some (fin ([hJ (JA d.2.2.2.2.2.2.2.2.2.2.1 d.2.2.2.2.2.2.2.2.2.2.2.1)]) (RG d.2.2.2.2.2.2.2.2.2.2.1 d.2.2.2.2.2.2.2.2.2.2.2.1),d):=by
 refine mI ?_;unfold fM fU gP gT tV u6 E6 Gy cU;simp
theorem aLV(d:bF)(t:Δ)(n l:Γ Int):uJ d (aA #[116,114,105,112,115],t,n,l,())=some (fin (BC d.2.2.2.2.2.2.2.2.1 l) (JB d.2.2.2.2.2.2.2.2.1 l),d):=by
 refine mI ?_;unfold fM fU gP gT tV u6 cU;simp
theorem aZo(d:bF)(t:Δ)(n l:Γ Int):uJ d (aA #[100,117,101],t,n,l,())=some (fin ([o3 (JD d.2.2.2.2.2.2.2.2.2.1 (n.getD 0 0) (n.getD 1 0))]) (RL d.2.2.2.2.2.2.2.2.2.1 (n.getD 0 0) (n.getD 1 0)),d):=by
 refine mI ?_;unfold fM fU gP gT tV u6 cU;simp
theorem aHy(d:bF)(t:Δ)(n l:Γ Int):uJ d (aA #[114,101,112,111,114,116],t,n,l,())=some (fin (BN d.2.2.2.2.2.2.2.2.2.1) (KF d.2.2.2.2.2.2.2.2.2.1),d):=by
 refine mI ?_;unfold fM fU gP gT tV u6 cU;simp
theorem aPo(d:bF)(t:Δ)(n l:Γ Int):uJ d (aA #[115,104,111,119],t,n,l,())=some (fin (AP d) (KG d),d):=by
 refine mI ?_;unfold fM fU gP gT tV u6 cU;simp
theorem aPp(d:bF)(t:Δ)(n l:Γ Int):uJ d (aA #[104,101,108,112],t,n,l,())=some (fin (aKA) (0),d):=by
 refine mI ?_;unfold fM fU gP gT tV u6 cU;simp
theorem aLW(d:bF)(t:Δ)(n l:Γ Int):uJ d (aA #[101,118,101,110,116],t,n,l,())=some (fin [AG (x7 d.2.2.2.2.2.1 (n.getD 0 0))] (tK d.2.2.2.2.2.1 (n.getD 0 0)),if tK d.2.2.2.2.2.1 (n.getD 0 0)=0 then(d.1,d.2.1,d.2.2.1,d.2.2.2.1,d.2.2.2.2.1,x7 d.2.2.2.2.2.1 (n.getD 0 0),d.2.2.2.2.2.2)else d):=by
 by_cases c:(tK d.2.2.2.2.2.1 (n.getD 0 0) != 0)=true
 ·have k:fM d (aA #[101,118,101,110,116],t,n,l,())=[]/\fU d (aA #[101,118,101,110,116],t,n,l,())=tK d.2.2.2.2.2.1 (n.getD 0 0)/\gP d (aA #[101,118,101,110,116],t,n,l,())=true/\gT d (aA #[101,118,101,110,116],t,n,l,())=d:=by
   unfold fM fU gP gT KA KB KC cU;simp_all
  rw[mI k];unfold fin
  lia
 ·have k:fM d (aA #[101,118,101,110,116],t,n,l,())=[AG (x7 d.2.2.2.2.2.1 (n.getD 0 0))]/\fU d (aA #[101,118,101,110,116],t,n,l,())=0/\gP d (aA #[101,118,101,110,116],t,n,l,())=true/\gT d (aA #[101,118,101,110,116],t,n,l,())=(d.1,d.2.1,d.2.2.1,d.2.2.2.1,d.2.2.2.2.1,x7 d.2.2.2.2.2.1 (n.getD 0 0),d.2.2.2.2.2.2):=by
   unfold fM fU gP gT KA KB KC cU;simp_all
  have c:tK d.2.2.2.2.2.1 (n.getD 0 0)=0:=by lia
  rw[AR k,c,π rfl]
theorem aLX(d:bF)(t:Δ)(n l:Γ Int)(hl:d.2.2.2.1.length<=8):uJ d (aA #[108,105,109,105,116],t,n,l,())=some (tN (XT d n),jv d n):=by
 have e:CR [(n.getD 0 0,n.getD 1 0,n.getD 2 0,())]=qV (n.getD 0 0,n.getD 1 0,n.getD 2 0,()):=by
  rw[cf];show (Ow (n.getD 0 0,n.getD 1 0,n.getD 2 0,())&&true&&decide ((1:Int)<=8))=_
  lia
 unfold XT jv;rw[e,E9];by_cases c:(!qV (n.getD 0 0,n.getD 1 0,n.getD 2 0,()))=true
 ·have k:fM d (aA #[108,105,109,105,116],t,n,l,())=[]/\fU d (aA #[108,105,109,105,116],t,n,l,())=2/\gP d (aA #[108,105,109,105,116],t,n,l,())=true/\gT d (aA #[108,105,109,105,116],t,n,l,())=d:=by
   unfold fM fU gP gT KA KB KC cU;simp_all
  rw[mI k,π c,π c]<;>rfl
 ·have k:fM d (aA #[108,105,109,105,116],t,n,l,())=[aA #[111,107]]/\fU d (aA #[108,105,109,105,116],t,n,l,())=EA d.2.2.2.1 (n.getD 0 0,n.getD 1 0,n.getD 2 0,()) 8/\gP d (aA #[108,105,109,105,116],t,n,l,())=true/\gT d (aA #[108,105,109,105,116],t,n,l,())=(d.1,d.2.1,d.2.2.1,Mj d.2.2.2.1 (n.getD 0 0,n.getD 1 0,n.getD 2 0,()) 8,d.2.2.2.2):=by
   unfold fM fU gP gT KA KB KC cU;simp_all
  rw[AR k,ν c,ν c];unfold Mj EA;by_cases q:(d.2.2.2.1.length:Int)=8
  ·lia
  ·have q1:¬decide ((d.2.2.2.1.length:Int)>=8)=true:=by lia
   have q2:¬((d.2.2.2.1.length:Int)==8)=true:=λh=>q (beq_iff_eq.1 h);rw[ν q1,ν q1,ν q2,ν q2]<;>rfl
theorem aPq(hv:oY d.1=true)(t:Δ)(n l:Γ Int):uJ d (aA #[98,101,110,100],t,n,l,())=if yF t=true then some (fin [aA #[111,107]] (pC d.1 (lV t) 12),(pL d.1 (lV t) 12,d.2))else none:=by
 obtain⟨_,e0,e1⟩:=aFc hv (lV t);have k:fM d (aA #[98,101,110,100],t,n,l,())=[aA #[111,107]]/\fU d (aA #[98,101,110,100],t,n,l,())=o7 d.1 (lV t) 12/\gP d (aA #[98,101,110,100],t,n,l,())=yF t/\gT d (aA #[98,101,110,100],t,n,l,())=(wP d.1 (lV t) 12,d.2):=by
  unfold fM fU gP gT yH yI yJ cU
  lia
 rw[AR k];by_cases c:pC d.1 (lV t) 12=0
 ·lia
 ·have q:pL d.1 (lV t) 12=d.1:=ν c
  lia
theorem aHz(hv:oW d.2.2.2.2.2.2.1=true)(t:Δ)(n l:Γ Int):uJ d (aA #[119,111,114,107,101,114],t,n,l,())=if wM t=true then some (fin [aA #[111,107]] (pC d.2.2.2.2.2.2.1 (lJ t) 12),(d.1,d.2.1,d.2.2.1,d.2.2.2.1,d.2.2.2.2.1,d.2.2.2.2.2.1,pL d.2.2.2.2.2.2.1 (lJ t) 12,d.2.2.2.2.2.2.2))else none:=by
 obtain⟨_,e0,e1⟩:=di hv (lJ t);have k:fM d (aA #[119,111,114,107,101,114],t,n,l,())=[aA #[111,107]]/\fU d (aA #[119,111,114,107,101,114],t,n,l,())=o8 d.2.2.2.2.2.2.1 (lJ t) 12/\gP d (aA #[119,111,114,107,101,114],t,n,l,())=wM t/\gT d (aA #[119,111,114,107,101,114],t,n,l,())=(d.1,d.2.1,d.2.2.1,d.2.2.2.1,d.2.2.2.2.1,d.2.2.2.2.2.1,wQ d.2.2.2.2.2.2.1 (lJ t) 12,d.2.2.2.2.2.2.2):=by
  unfold fM fU gP gT yH yI yJ cU;simp
 rw[AR k];by_cases c:pC d.2.2.2.2.2.2.1 (lJ t) 12=0
 ·lia
 ·have q:pL d.2.2.2.2.2.2.1 (lJ t) 12=d.2.2.2.2.2.2.1:=ν c
  lia
theorem aPr(hv:lU d.2.2.2.2.2.2.2.2.1=true)(t:Δ)(n l:Γ Int):uJ d (aA #[102,97,114,101],t,n,l,())=if yG t=true then some (fin [aA #[111,107]] (pC d.2.2.2.2.2.2.2.2.1 (lX t) 8),(d.1,d.2.1,d.2.2.1,d.2.2.2.1,d.2.2.2.2.1,d.2.2.2.2.2.1,d.2.2.2.2.2.2.1,d.2.2.2.2.2.2.2.1,pL d.2.2.2.2.2.2.2.2.1 (lX t) 8,d.2.2.2.2.2.2.2.2.2))else none:=by
 obtain⟨_,e0,e1⟩:=aFd hv (lX t);have k:fM d (aA #[102,97,114,101],t,n,l,())=[aA #[111,107]]/\fU d (aA #[102,97,114,101],t,n,l,())=o9 d.2.2.2.2.2.2.2.2.1 (lX t) 8/\gP d (aA #[102,97,114,101],t,n,l,())=yG t/\gT d (aA #[102,97,114,101],t,n,l,())=(d.1,d.2.1,d.2.2.1,d.2.2.2.1,d.2.2.2.2.1,d.2.2.2.2.2.1,d.2.2.2.2.2.2.1,d.2.2.2.2.2.2.2.1,wR d.2.2.2.2.2.2.2.2.1 (lX t) 8,d.2.2.2.2.2.2.2.2.2):=by
  unfold fM fU gP gT yH yI yJ cU;simp
 rw[AR k];by_cases c:pC d.2.2.2.2.2.2.2.2.1 (lX t) 8=0
 ·lia
 ·have q:pL d.2.2.2.2.2.2.2.2.1 (lX t) 8=d.2.2.2.2.2.2.2.2.1:=ν c
  lia
theorem aH0(hv:qX d.2.2.2.2.2.2.2.2.2.2.1=true)(t:Δ)(n l:Γ Int):uJ d (aA #[104,101,108,112,101,114],t,n,l,())=if wN t=true then some (fin [aA #[111,107]] (pC d.2.2.2.2.2.2.2.2.2.2.1 (lK t) 10),(d.1,d.2.1,d.2.2.1,d.2.2.2.1,d.2.2.2.2.1,d.2.2.2.2.2.1,d.2.2.2.2.2.2.1,d.2.2.2.2.2.2.2.1,d.2.2.2.2.2.2.2.2.1,d.2.2.2.2.2.2.2.2.2.1,pL d.2.2.2.2.2.2.2.2.2.2.1 (lK t) 10,d.2.2.2.2.2.2.2.2.2.2.2))else none:=by
 obtain⟨_,e0,e1⟩:=dj hv (lK t);have k:fM d (aA #[104,101,108,112,101,114],t,n,l,())=[aA #[111,107]]/\fU d (aA #[104,101,108,112,101,114],t,n,l,())=pA d.2.2.2.2.2.2.2.2.2.2.1 (lK t) 10/\gP d (aA #[104,101,108,112,101,114],t,n,l,())=wN t/\gT d (aA #[104,101,108,112,101,114],t,n,l,())=(d.1,d.2.1,d.2.2.1,d.2.2.2.1,d.2.2.2.2.1,d.2.2.2.2.2.1,d.2.2.2.2.2.2.1,d.2.2.2.2.2.2.2.1,d.2.2.2.2.2.2.2.2.1,d.2.2.2.2.2.2.2.2.2.1,wS d.2.2.2.2.2.2.2.2.2.2.1 (lK t) 10,d.2.2.2.2.2.2.2.2.2.2.2):=by
  unfold fM fU gP gT yH yI yJ cU;simp
 rw[AR k];by_cases c:pC d.2.2.2.2.2.2.2.2.2.2.1 (lK t) 10=0
 ·lia
 ·have q:pL d.2.2.2.2.2.2.2.2.2.2.1 (lK t) 10=d.2.2.2.2.2.2.2.2.2.2.1:=ν c
  lia
theorem aPs(hv:qY d.2.2.2.2.2.2.2.2.2.2.2.1=true)(t:Δ)(n l:Γ Int):uJ d (aA #[116,97,115,107],t,n,l,())=if wN t=true then some (fin [aA #[111,107]] (pC d.2.2.2.2.2.2.2.2.2.2.2.1 (lK t) 8),(d.1,d.2.1,d.2.2.1,d.2.2.2.1,d.2.2.2.2.1,d.2.2.2.2.2.1,d.2.2.2.2.2.2.1,d.2.2.2.2.2.2.2.1,d.2.2.2.2.2.2.2.2.1,d.2.2.2.2.2.2.2.2.2.1,d.2.2.2.2.2.2.2.2.2.2.1,pL d.2.2.2.2.2.2.2.2.2.2.2.1 (lK t) 8,d.2.2.2.2.2.2.2.2.2.2.2.2))else none:=by
 obtain⟨_,e0,e1⟩:=aFe hv (lK t);have k:fM d (aA #[116,97,115,107],t,n,l,())=[aA #[111,107]]/\fU d (aA #[116,97,115,107],t,n,l,())=pB d.2.2.2.2.2.2.2.2.2.2.2.1 (lK t) 8/\gP d (aA #[116,97,115,107],t,n,l,())=wN t/\gT d (aA #[116,97,115,107],t,n,l,())=(d.1,d.2.1,d.2.2.1,d.2.2.2.1,d.2.2.2.2.1,d.2.2.2.2.2.1,d.2.2.2.2.2.2.1,d.2.2.2.2.2.2.2.1,d.2.2.2.2.2.2.2.2.1,d.2.2.2.2.2.2.2.2.2.1,d.2.2.2.2.2.2.2.2.2.2.1,wT d.2.2.2.2.2.2.2.2.2.2.2.1 (lK t) 8,d.2.2.2.2.2.2.2.2.2.2.2.2):=by
  unfold fM fU gP gT yH yI yJ cU;simp
 rw[AR k];by_cases c:pC d.2.2.2.2.2.2.2.2.2.2.2.1 (lK t) 8=0
 ·lia
 ·have q:pL d.2.2.2.2.2.2.2.2.2.2.2.1 (lK t) 8=d.2.2.2.2.2.2.2.2.2.2.2.1:=ν c
  lia
theorem aPt(hl:d.2.2.1.length<=48)(t:Δ)(n l:Γ Int):uJ d (aA #[104,111,117,114],t,n,l,())=if AH t=true then some (if(d.2.2.1.length:Int)=48 then fin [aA #[111,107]] 5 else fin [aA #[111,107]] 0,if(d.2.2.1.length:Int)=48 then d else(d.1,d.2.1,d.2.2.1++[o6 t],d.2.2.2))else none:=by
 have k:fM d (aA #[104,111,117,114],t,n,l,())=[aA #[111,107]]/\fU d (aA #[104,111,117,114],t,n,l,())=EA d.2.2.1 (o6 t) 48/\gP d (aA #[104,111,117,114],t,n,l,())=AH t/\gT d (aA #[104,111,117,114],t,n,l,())=(d.1,d.2.1,Mj d.2.2.1 (o6 t) 48,d.2.2.2):=by
  unfold fM fU gP gT yH yI yJ cU;simp
 rw[AR k];unfold Mj EA;by_cases q:(d.2.2.1.length:Int)=48
 ·lia
 ·have q1:¬decide ((d.2.2.1.length:Int)>=48)=true:=by lia
  rw[ν q1,ν q1,ν q,ν q]<;>rfl
theorem aPu(d:bF)(t:Δ)(n l:Γ Int):uJ d (aA #[116,101,115,116],t,n,l,())=if C6 t=true then some (fin [aA #[111,107]] (EC d.2.2.2.2.2.2.2.2.2.1 (rB t)),if EC d.2.2.2.2.2.2.2.2.2.1 (rB t)=0 then(d.1,d.2.1,d.2.2.1,d.2.2.2.1,d.2.2.2.2.1,d.2.2.2.2.2.1,d.2.2.2.2.2.2.1,d.2.2.2.2.2.2.2.1,d.2.2.2.2.2.2.2.2.1,JK d.2.2.2.2.2.2.2.2.2.1 (rB t),d.2.2.2.2.2.2.2.2.2.2)else d)else none:=by
 have k:fM d (aA #[116,101,115,116],t,n,l,())=[aA #[111,107]]/\fU d (aA #[116,101,115,116],t,n,l,())=EC d.2.2.2.2.2.2.2.2.2.1 (rB t)/\gP d (aA #[116,101,115,116],t,n,l,())=C6 t/\gT d (aA #[116,101,115,116],t,n,l,())=(d.1,d.2.1,d.2.2.1,d.2.2.2.1,d.2.2.2.2.1,d.2.2.2.2.2.1,d.2.2.2.2.2.2.1,d.2.2.2.2.2.2.2.1,d.2.2.2.2.2.2.2.2.1,JK d.2.2.2.2.2.2.2.2.2.1 (rB t),d.2.2.2.2.2.2.2.2.2.2):=by
  unfold fM fU gP gT yH yI yJ cU;simp
 exact AR k
theorem aPv(d:bF)(t:Δ)(n l:Γ Int):uJ d (aA #[114,111,112,101],t,n,l,())=if Gu t=true then some ([aA #[111,107]],(d.1,Jh t,d.2.2))else none:=by
 have k:fM d (aA #[114,111,112,101],t,n,l,())=[aA #[111,107]]/\fU d (aA #[114,111,112,101],t,n,l,())=0/\gP d (aA #[114,111,112,101],t,n,l,())=Gu t/\gT d (aA #[114,111,112,101],t,n,l,())=(d.1,Jh t,d.2.2):=by
  unfold fM fU gP gT yH yI yJ cU;simp
 exact AR k
theorem aLY(d:bF)(t:Δ)(n l:Γ Int):uJ d (aA #[109,111,116,111,114],t,n,l,())=if Gv t=true then some ([aA #[111,107]],(d.1,d.2.1,d.2.2.1,d.2.2.2.1,Ji t,d.2.2.2.2.2))else none:=by
 have k:fM d (aA #[109,111,116,111,114],t,n,l,())=[aA #[111,107]]/\fU d (aA #[109,111,116,111,114],t,n,l,())=0/\gP d (aA #[109,111,116,111,114],t,n,l,())=Gv t/\gT d (aA #[109,111,116,111,114],t,n,l,())=(d.1,d.2.1,d.2.2.1,d.2.2.2.1,Ji t,d.2.2.2.2.2):=by
  unfold fM fU gP gT yH yI yJ cU;simp
 exact AR k
theorem aLZ(d:bF)(t:Δ)(n l:Γ Int):uJ d (aA #[98,97,115,105,110],t,n,l,())=if Gw t=true then some ([aA #[111,107]],(d.1,d.2.1,d.2.2.1,d.2.2.2.1,d.2.2.2.2.1,d.2.2.2.2.2.1,d.2.2.2.2.2.2.1,Jj t,d.2.2.2.2.2.2.2.2))else none:=by
 have k:fM d (aA #[98,97,115,105,110],t,n,l,())=[aA #[111,107]]/\fU d (aA #[98,97,115,105,110],t,n,l,())=0/\gP d (aA #[98,97,115,105,110],t,n,l,())=Gw t/\gT d (aA #[98,97,115,105,110],t,n,l,())=(d.1,d.2.1,d.2.2.1,d.2.2.2.1,d.2.2.2.2.1,d.2.2.2.2.2.1,d.2.2.2.2.2.2.1,Jj t,d.2.2.2.2.2.2.2.2):=by
  unfold fM fU gP gT yH yI yJ cU;simp
 exact AR k
noncomputable section
def ZF:gC:=D tg [.po iT,.v (.sl .str)] [.sl .str,.bool] [] [xq,bEN,aRp,bEP,bER,aE4,bEV,bEY,bFb,xz,bFk,aKx,bFr,bFu,bFv] false [12,15,17,20,25,28,31]
mutual
def bGC:Nat->bF->Γ Δ->Γ aS->Γ (Option jD)->Prop
 | 0,_,_,_,_=>False
 | n+1,x0,x1,ds,us=>Nx n 1 ([]) x1 x0 ds us
def Nx:Nat->Int->Γ Int->Γ Δ->bF->Γ aS->Γ (Option jD)->Prop
 | 0,_,_,_,_,_,_=>False
 | n+1,v7,h1,x1,x0,ds,us=>if decide (v7<(x1.length:Int))then 0<=v7/\v7<(x1.length:Int)/\if !pW (aD x1 (aE v7) aC)then ds=[aI (.sl .str) [],aI .bool false]/\us=[some (iX iT [x0])] else(aF h1+1)*8<=140737488355328/\aX .i64 (v7+1)/\Nx n (v7+1) (h1++[jF (aD x1 (aE v7) aC)]) x1 x0 ds us else 0<(x1.length:Int)/\if aB (aD x1 0 aC)==aB (aA #[115,108,111,119,101,115,116])then(if(h1.length:Int)==1 then 0<(h1.length:Int)/\aCt (XN x0.1 (aD h1 0 0)) (XO x0.1 (aD h1 0 0))/\ds=[aI (.sl .str) (N4 (XN x0.1 (aD h1 0 0)) (XO x0.1 (aD h1 0 0))),aI .bool true]/\us=[some (iX iT [x0])] else UW n x1 x0 h1 ds us)else UW n x1 x0 h1 ds us
def UW:Nat->Γ Δ->bF->Γ Int->Γ aS->Γ (Option jD)->Prop
 | 0,_,_,_,_,_=>False
 | n+1,x1,x0,h1,ds,us=>0<(x1.length:Int)/\if aB (aD x1 0 aC)==aB (aA #[114,101,115,101,114,118,101])then(if(h1.length:Int)==1 then 0<(h1.length:Int)/\aOo x0.2.1 (aD h1 0 0)/\aCt (XR x0.2.1 (aD h1 0 0)) (XS x0.2.1 (aD h1 0 0))/\ds=[aI (.sl .str) (N4 (XR x0.2.1 (aD h1 0 0)) (XS x0.2.1 (aD h1 0 0))),aI .bool true]/\us=[some (iX iT [x0])] else UX n x1 x0 h1 ds us)else UX n x1 x0 h1 ds us
def UX:Nat->Γ Δ->bF->Γ Int->Γ aS->Γ (Option jD)->Prop
 | 0,_,_,_,_,_=>False
 | n+1,x1,x0,h1,ds,us=>0<(x1.length:Int)/\if aB (aD x1 0 aC)==aB (aA #[108,105,109,105,116])then(if(h1.length:Int)==3 then bEQ x0 h1/\NH (XT x0 h1)/\ds=[aI (.sl .str) (tN (XT x0 h1)),aI .bool true]/\us=[some (iX iT [(jv x0 h1)])] else UY n x1 x0 h1 ds us)else UY n x1 x0 h1 ds us
def UY:Nat->Γ Δ->bF->Γ Int->Γ aS->Γ (Option jD)->Prop
 | 0,_,_,_,_,_=>False
 | n+1,x1,x0,h1,ds,us=>0<(x1.length:Int)/\if aB (aD x1 0 aC)==aB (aA #[112,111,119,101,114])then(if(h1.length:Int)==2 then 0<(h1.length:Int)/\1<(h1.length:Int)/\aOq x0.2.2.2.2.1 (aD h1 0 0) (aD h1 1 0)/\aCt (XX x0.2.2.2.2.1 (aD h1 0 0) (aD h1 1 0)) (XY x0.2.2.2.2.1 (aD h1 0 0) (aD h1 1 0))/\ds=[aI (.sl .str) (N4 (XX x0.2.2.2.2.1 (aD h1 0 0) (aD h1 1 0)) (XY x0.2.2.2.2.1 (aD h1 0 0) (aD h1 1 0))),aI .bool true]/\us=[some (iX iT [x0])] else Pk n x1 x0 h1 ds us)else Pk n x1 x0 h1 ds us
def Pk:Nat->Γ Δ->bF->Γ Int->Γ aS->Γ (Option jD)->Prop
 | 0,_,_,_,_,_=>False
 | n+1,x1,x0,h1,ds,us=>0<(x1.length:Int)/\if aB (aD x1 0 aC)==aB (aA #[101,118,101,110,116])then(if(h1.length:Int)==1 then 0<(h1.length:Int)/\aOs x0.2.2.2.2.2.1 (aD h1 0 0)/\if Jc x0.2.2.2.2.2.1 (aD h1 0 0)==0 then aC2 (E0 x0.2.2.2.2.2.1 (aD h1 0 0))/\Wv [Gk (E0 x0.2.2.2.2.2.1 (aD h1 0 0))] (Jc x0.2.2.2.2.2.1 (aD h1 0 0))/\ds=[aI (.sl .str) (AA [Gk (E0 x0.2.2.2.2.2.1 (aD h1 0 0))] (Jc x0.2.2.2.2.2.1 (aD h1 0 0))),aI .bool true]/\us=[some (iX iT [(x0.1,x0.2.1,x0.2.2.1,x0.2.2.2.1,x0.2.2.2.2.1,(E0 x0.2.2.2.2.2.1 (aD h1 0 0)),x0.2.2.2.2.2.2.1,x0.2.2.2.2.2.2.2.1,x0.2.2.2.2.2.2.2.2.1,x0.2.2.2.2.2.2.2.2.2.1,x0.2.2.2.2.2.2.2.2.2.2.1,x0.2.2.2.2.2.2.2.2.2.2.2.1,())])] else aC2 (E0 x0.2.2.2.2.2.1 (aD h1 0 0))/\Wv [Gk (E0 x0.2.2.2.2.2.1 (aD h1 0 0))] (Jc x0.2.2.2.2.2.1 (aD h1 0 0))/\ds=[aI (.sl .str) (AA [Gk (E0 x0.2.2.2.2.2.1 (aD h1 0 0))] (Jc x0.2.2.2.2.2.1 (aD h1 0 0))),aI .bool true]/\us=[some (iX iT [x0])] else UZ n x1 x0 h1 ds us)else UZ n x1 x0 h1 ds us
def UZ:Nat->Γ Δ->bF->Γ Int->Γ aS->Γ (Option jD)->Prop
 | 0,_,_,_,_,_=>False
 | n+1,x1,x0,h1,ds,us=>0<(x1.length:Int)/\if aB (aD x1 0 aC)==aB (aA #[99,111,118,101,114])then(if(h1.length:Int)==2 then 0<(h1.length:Int)/\1<(h1.length:Int)/\bFj x0.2.2.2.2.2.2.1 (aD h1 0 0) (aD h1 1 0)/\aCh (X5 x0.2.2.2.2.2.2.1 (aD h1 0 0) (aD h1 1 0)) (X4 x0.2.2.2.2.2.2.1 (aD h1 0 0) (aD h1 1 0))/\ds=[aI (.sl .str) (NI (X5 x0.2.2.2.2.2.2.1 (aD h1 0 0) (aD h1 1 0)) (X4 x0.2.2.2.2.2.2.1 (aD h1 0 0) (aD h1 1 0))),aI .bool true]/\us=[some (iX iT [x0])] else U0 n x1 x0 h1 ds us)else U0 n x1 x0 h1 ds us
def U0:Nat->Γ Δ->bF->Γ Int->Γ aS->Γ (Option jD)->Prop
 | 0,_,_,_,_,_=>False
 | n+1,x1,x0,h1,ds,us=>0<(x1.length:Int)/\if aB (aD x1 0 aC)==aB (aA #[119,97,116,101,114])then(if(h1.length:Int)==5 then 0<(h1.length:Int)/\1<(h1.length:Int)/\2<(h1.length:Int)/\3<(h1.length:Int)/\4<(h1.length:Int)/\aO0 x0.2.2.2.2.2.2.2.1 (aD h1 0 0) (aD h1 1 0) (aD h1 2 0) (aD h1 3 0) (aD h1 4 0)/\aCt (X7 x0.2.2.2.2.2.2.2.1 (aD h1 0 0) (aD h1 1 0) (aD h1 2 0) (aD h1 3 0) (aD h1 4 0)) (X8 x0.2.2.2.2.2.2.2.1 (aD h1 0 0) (aD h1 1 0) (aD h1 2 0) (aD h1 3 0) (aD h1 4 0))/\ds=[aI (.sl .str) (N4 (X7 x0.2.2.2.2.2.2.2.1 (aD h1 0 0) (aD h1 1 0) (aD h1 2 0) (aD h1 3 0) (aD h1 4 0)) (X8 x0.2.2.2.2.2.2.2.1 (aD h1 0 0) (aD h1 1 0) (aD h1 2 0) (aD h1 3 0) (aD h1 4 0))),aI .bool true]/\us=[some (iX iT [x0])] else U1 n x1 x0 h1 ds us)else U1 n x1 x0 h1 ds us
def U1:Nat->Γ Δ->bF->Γ Int->Γ aS->Γ (Option jD)->Prop
 | 0,_,_,_,_,_=>False
 | n+1,x1,x0,h1,ds,us=>0<(x1.length:Int)/\if aB (aD x1 0 aC)==aB (aA #[100,117,101])then(if(h1.length:Int)==2 then 0<(h1.length:Int)/\1<(h1.length:Int)/\aO3 x0.2.2.2.2.2.2.2.2.2.1 (aD h1 0 0) (aD h1 1 0)/\aO4 (SA x0.2.2.2.2.2.2.2.2.2.1 (aD h1 0 0) (aD h1 1 0))/\Wv [Xa (SA x0.2.2.2.2.2.2.2.2.2.1 (aD h1 0 0) (aD h1 1 0))] (X9 x0.2.2.2.2.2.2.2.2.2.1 (aD h1 0 0) (aD h1 1 0))/\ds=[aI (.sl .str) (AA [Xa (SA x0.2.2.2.2.2.2.2.2.2.1 (aD h1 0 0) (aD h1 1 0))] (X9 x0.2.2.2.2.2.2.2.2.2.1 (aD h1 0 0) (aD h1 1 0))),aI .bool true]/\us=[some (iX iT [x0])] else ds=[aI (.sl .str) [],aI .bool false]/\us=[some (iX iT [x0])])else ds=[aI (.sl .str) [],aI .bool false]/\us=[some (iX iT [x0])]
end
def aZp(ds:Γ aS)(us:Γ (Option jD))(K:fG)(q:Nat->Value):∀n,(∀ {x0 x1},bGC n x0 x1 ds us->St ZF (x0,x1,()) ds us K q)/\(∀ {v7 h1 x1 x0},Nx n v7 h1 x1 x0 ds us->Cu ZF 3 ([eP 0 0 0 iT,eL 1 .str x1,eW 6 1,eI 7 v7],[TD x0 2 3 4 5 6 7 8 9,cL (.int .i64) h1,cL eC x0.1,cL cZ x0.2.2.1,cL cZ x0.2.2.2.1,cL c8 x0.2.2.2.2.2.2.1,cL eC x0.2.2.2.2.2.2.2.2.1,cL cZ x0.2.2.2.2.2.2.2.2.2.1,cL c8 x0.2.2.2.2.2.2.2.2.2.2.1,cL c8 x0.2.2.2.2.2.2.2.2.2.2.2.1]) ds us K q)/\(∀ {x1 x0 h1},UW n x1 x0 h1 ds us->Cu ZF 12 ([eP 0 0 0 iT,eL 1 .str x1,eW 6 1],[TD x0 2 3 4 5 6 7 8 9,cL (.int .i64) h1,cL eC x0.1,cL cZ x0.2.2.1,cL cZ x0.2.2.2.1,cL c8 x0.2.2.2.2.2.2.1,cL eC x0.2.2.2.2.2.2.2.2.1,cL cZ x0.2.2.2.2.2.2.2.2.2.1,cL c8 x0.2.2.2.2.2.2.2.2.2.2.1,cL c8 x0.2.2.2.2.2.2.2.2.2.2.2.1]) ds us K q)/\(∀ {x1 x0 h1},UX n x1 x0 h1 ds us->Cu ZF 15 ([eP 0 0 0 iT,eL 1 .str x1,eW 6 1],[TD x0 2 3 4 5 6 7 8 9,cL (.int .i64) h1,cL eC x0.1,cL cZ x0.2.2.1,cL cZ x0.2.2.2.1,cL c8 x0.2.2.2.2.2.2.1,cL eC x0.2.2.2.2.2.2.2.2.1,cL cZ x0.2.2.2.2.2.2.2.2.2.1,cL c8 x0.2.2.2.2.2.2.2.2.2.2.1,cL c8 x0.2.2.2.2.2.2.2.2.2.2.2.1]) ds us K q)/\(∀ {x1 x0 h1},UY n x1 x0 h1 ds us->Cu ZF 17 ([eP 0 0 0 iT,eL 1 .str x1,eW 6 1],[TD x0 2 3 4 5 6 7 8 9,cL (.int .i64) h1,cL eC x0.1,cL cZ x0.2.2.1,cL cZ x0.2.2.2.1,cL c8 x0.2.2.2.2.2.2.1,cL eC x0.2.2.2.2.2.2.2.2.1,cL cZ x0.2.2.2.2.2.2.2.2.2.1,cL c8 x0.2.2.2.2.2.2.2.2.2.2.1,cL c8 x0.2.2.2.2.2.2.2.2.2.2.2.1]) ds us K q)/\(∀ {x1 x0 h1},Pk n x1 x0 h1 ds us->Cu ZF 20 ([eP 0 0 0 iT,eL 1 .str x1,eW 6 1],[TD x0 2 3 4 5 6 7 8 9,cL (.int .i64) h1,cL eC x0.1,cL cZ x0.2.2.1,cL cZ x0.2.2.2.1,cL c8 x0.2.2.2.2.2.2.1,cL eC x0.2.2.2.2.2.2.2.2.1,cL cZ x0.2.2.2.2.2.2.2.2.2.1,cL c8 x0.2.2.2.2.2.2.2.2.2.2.1,cL c8 x0.2.2.2.2.2.2.2.2.2.2.2.1]) ds us K q)/\(∀ {x1 x0 h1},UZ n x1 x0 h1 ds us->Cu ZF 25 ([eP 0 0 0 iT,eL 1 .str x1,eW 6 1],[TD x0 2 3 4 5 6 7 8 9,cL (.int .i64) h1,cL eC x0.1,cL cZ x0.2.2.1,cL cZ x0.2.2.2.1,cL c8 x0.2.2.2.2.2.2.1,cL eC x0.2.2.2.2.2.2.2.2.1,cL cZ x0.2.2.2.2.2.2.2.2.2.1,cL c8 x0.2.2.2.2.2.2.2.2.2.2.1,cL c8 x0.2.2.2.2.2.2.2.2.2.2.2.1]) ds us K q)/\(∀ {x1 x0 h1},U0 n x1 x0 h1 ds us->Cu ZF 28 ([eP 0 0 0 iT,eL 1 .str x1,eW 6 1],[TD x0 2 3 4 5 6 7 8 9,cL (.int .i64) h1,cL eC x0.1,cL cZ x0.2.2.1,cL cZ x0.2.2.2.1,cL c8 x0.2.2.2.2.2.2.1,cL eC x0.2.2.2.2.2.2.2.2.1,cL cZ x0.2.2.2.2.2.2.2.2.2.1,cL c8 x0.2.2.2.2.2.2.2.2.2.2.1,cL c8 x0.2.2.2.2.2.2.2.2.2.2.2.1]) ds us K q)/\(∀ {x1 x0 h1},U1 n x1 x0 h1 ds us->Cu ZF 31 ([eP 0 0 0 iT,eL 1 .str x1,eW 6 1],[TD x0 2 3 4 5 6 7 8 9,cL (.int .i64) h1,cL eC x0.1,cL cZ x0.2.2.1,cL cZ x0.2.2.2.1,cL c8 x0.2.2.2.2.2.2.1,cL eC x0.2.2.2.2.2.2.2.2.1,cL cZ x0.2.2.2.2.2.2.2.2.2.1,cL c8 x0.2.2.2.2.2.2.2.2.2.2.1,cL c8 x0.2.2.2.2.2.2.2.2.2.2.2.1]) ds us K q):=nI ⟨aH,aH,aH,aH,aH,aH,aH,aH,aH⟩ λn ⟨i,i3,i12,i15,i17,i20,i25,i28,i31⟩=>⟨bX i3,
  bD (cP<|bH<|bD Et<|aL<|aL<|bX i3)<|pq 0<|aL<|bD (bD (pq 0<|aL<|bH<|aL Et)<|bX i12)<|dK<|bX i12,
  pq 0<|aL<|bD (bD (pq 0<|aL<|aL<|aL Et)<|bX i15)<|dK<|bX i15,
  pq 0<|aL<|bD (bD (aL<|aL Et)<|bX i17)<|dK<|bX i17,
  pq 0<|aL<|bD (bD (pq 0<|aL<|pq 1<|aL<|aL<|aL Et)<|bX i20)<|dK<|bX i20,
  pq 0<|aL<|bD (bD (pq 0<|aL<|aL<|bD (aL<|aL Et)<|aL<|aL Et)<|bX i25)<|dK<|bX i25,
  pq 0<|aL<|bD (bD (pq 0<|aL<|pq 1<|aL<|aL<|aL Et)<|bX i28)<|dK<|bX i28,
  pq 0<|aL<|bD (bD (pq 0<|aL<|pq 1<|aL<|pq 2<|aL<|pq 3<|aL<|pq 4<|aL<|aL<|aL Et)<|bX i31)<|dK<|bX i31,
  pq 0<|aL<|bD (bD (pq 0<|aL<|pq 1<|aL<|aL<|aL<|aL Et) Et)<|dK Et⟩
def Co(x1:Γ Δ):Nat->Nat->Γ Int->Option (Γ Int)
 | 0,_,n=>some n
 | k+1,i,n=>if gK (x1.getD i aC)=true then Co x1 k (i+1) (n++[gG (x1.getD i aC)])else none
def dW(d:aEG)(w:Δ)(n:Γ Int):Γ (Δ×Nat)->Option (Γ Δ×aEG)
 | []=>none
 | (v,c)::r=>if w=v/\n.length=c then uJ d (v,aA #[],n,[],())else dW d w n r
def tW:Γ (Δ×Nat):=[(aA #[115,108,111,119,101,115,116],1),(aA #[114,101,115,101,114,118,101],1),(aA #[108,105,109,105,116],3),(aA #[112,111,119,101,114],2),(aA #[101,118,101,110,116],1),(aA #[99,111,118,101,114],2),(aA #[119,97,116,101,114],5),(aA #[100,117,101],2)]
def Ea(d:aEG)(x1:Γ Δ):Option (Γ Δ×aEG):=(Co x1 (x1.length-1) 1 []).bind λn=>dW d (x1.getD 0 aC) n tW
def dq(d:aEG)(r:Option (Γ Δ×aEG)):aEG:=(r.map Prod.snd).getD d
def dt(r:Option (Γ Δ×aEG)):Γ Δ:=(r.map Prod.fst).getD []
def aDi(x0:aEG)(x1:Γ Δ):aEG:=dq x0 (Ea x0 x1)
def aDj(x0:aEG)(x1:Γ Δ):Γ Δ:=dt (Ea x0 x1)
def aDk(x0:aEG)(x1:Γ Δ):Bool:=(Ea x0 x1).isSome
def aPw(x0:aEG)(x1:Γ Δ):Prop:=Vd x0/\1<=x1.length/\x1.length<=1048576
def FW(r:Option (Γ Δ×aEG)):Γ aS:=[aI (.sl .str) (dt r),aI .bool r.isSome]
def FX(d:aEG)(r:Option (Γ Δ×aEG)):Γ (Option jD):=[some ⟨iT,[dq d r]⟩]
theorem BO{d y:aEG}{r:Option (Γ Δ×aEG)}{o:Γ Δ}(h:r=some (o,y)):FW r=[aI (.sl .str) o,aI .bool true]/\FX d r=[some ⟨iT,[y]⟩]:=by rw[h];exact⟨rfl,rfl⟩
theorem aZq(x:b6):aC2 x/\Gk x=AG x:=by
 by_cases h:iF x=true
 ·exact aL2 h
 ·have h:=Hb h;have e1:He x=false:=(UG x).symm.trans h;unfold aC2 Gk AG
  lia
section
variable {d:aEG} (hd:Vd d) (x1:Γ Δ) (h1:1<=x1.length) (n:Γ Int) (m:Nat)
include hd h1
theorem aRJ:U1 (m+1) x1 d n (FW (dW d (x1.getD 0 aC) n [(aA #[100,117,101],2)])) (FX d (dW d (x1.getD 0 aC) n [(aA #[100,117,101],2)])):=by
 have l0:(0:Int)<(x1.length:Int):=by lia
 refine⟨l0,?_⟩;rw[dW];by_cases q:x1.getD 0 aC=aA #[100,117,101]/\n.length=2
 ·obtain⟨p,e0,e1⟩:=aLF hd.2.2.2.2.2.2.2.2.2.1 (n.getD 0 0) (n.getD 1 0);obtain⟨q,e2⟩:=aLG (JD d.2.2.2.2.2.2.2.2.2.1 (n.getD 0 0) (n.getD 1 0));have z:=HG [o3 (JD d.2.2.2.2.2.2.2.2.2.1 (n.getD 0 0) (n.getD 1 0))] (RL d.2.2.2.2.2.2.2.2.2.1 (n.getD 0 0) (n.getD 1 0)) (show 1<=1048576 by lia) (.inr rfl)
  grind [BO,aZo]
 ·rw[ν q];by_cases q1:x1.getD 0 aC=aA #[100,117,101]
  ·rw[π ((bC _ _).2 q1),ν (λh=>q ⟨q1,by lia⟩)];exact⟨rfl,rfl⟩
  ·rw[ν (λh=>q1 ((bC _ _).1 h))];exact⟨rfl,rfl⟩
theorem aRK:U0 (m+2) x1 d n (FW (dW d (x1.getD 0 aC) n [(aA #[119,97,116,101,114],5),(aA #[100,117,101],2)])) (FX d (dW d (x1.getD 0 aC) n [(aA #[119,97,116,101,114],5),(aA #[100,117,101],2)])):=by
 have l0:(0:Int)<(x1.length:Int):=by lia
 refine⟨l0,?_⟩;rw[dW];by_cases q:x1.getD 0 aC=aA #[119,97,116,101,114]/\n.length=5
 ·have q1:=q.1;rw[π q,π ((bC _ _).2 q1),π (beq_iff_eq.2 (by lia))];obtain⟨p,e0,e1⟩:=aHs hd.2.2.2.2.2.2.2.1 (n.getD 0 0) (n.getD 1 0) (n.getD 2 0) (n.getD 3 0) (n.getD 4 0);refine⟨by lia,by lia,by lia,by lia,by lia,p,(Bd _ _).1,?_⟩;exact BO ((aLS d _ n []).trans (by rw[(Bd _ _).2,e0,e1]))
 ·by_cases q1:x1.getD 0 aC=aA #[119,97,116,101,114]
  ·grind [aRJ]
  ·rw[ν (λh=>q1 ((bC _ _).1 h))]
   grind [aRJ]
theorem aRL:UZ (m+3) x1 d n (FW (dW d (x1.getD 0 aC) n [(aA #[99,111,118,101,114],2),(aA #[119,97,116,101,114],5),(aA #[100,117,101],2)])) (FX d (dW d (x1.getD 0 aC) n [(aA #[99,111,118,101,114],2),(aA #[119,97,116,101,114],5),(aA #[100,117,101],2)])):=by
 have l0:(0:Int)<(x1.length:Int):=by lia
 refine⟨l0,?_⟩;rw[dW];by_cases q:x1.getD 0 aC=aA #[99,111,118,101,114]/\n.length=2
 ·have q1:=q.1;rw[π q,π ((bC _ _).2 q1),π (beq_iff_eq.2 (by lia))];refine⟨by lia,by lia,show aF _<=1000 by have:=cx hd.2.2.2.2.2.2.1;lia,(Pj _ (aLI (by have:=cx hd.2.2.2.2.2.2.1;lia) _ _)).1,?_⟩;exact BO ((aLT d _ n []).trans (congrArg (λo=>some (o,d)) (Pj _ (aLI (by have:=cx hd.2.2.2.2.2.2.1;lia) _ _)).2.symm))
 ·by_cases q1:x1.getD 0 aC=aA #[99,111,118,101,114]
  ·grind [aRK]
  ·rw[ν (λh=>q1 ((bC _ _).1 h))]
   grind [aRK]
theorem aRM:Pk (m+4) x1 d n (FW (dW d (x1.getD 0 aC) n [(aA #[101,118,101,110,116],1),(aA #[99,111,118,101,114],2),(aA #[119,97,116,101,114],5),(aA #[100,117,101],2)])) (FX d (dW d (x1.getD 0 aC) n [(aA #[101,118,101,110,116],1),(aA #[99,111,118,101,114],2),(aA #[119,97,116,101,114],5),(aA #[100,117,101],2)])):=by
 rw[Pk];rw[dW];by_cases q:x1.getD 0 aC=aA #[101,118,101,110,116]/\n.length=1
 ·obtain⟨p,e0,e1⟩:=aHq hd.2.2.2.2.2.1 (n.getD 0 0);obtain⟨q,e2⟩:=aZq (x7 d.2.2.2.2.2.1 (n.getD 0 0));have a:=aLW d (aA #[]) n [];have z:=HG [AG (x7 d.2.2.2.2.2.1 (n.getD 0 0))] (tK d.2.2.2.2.2.1 (n.getD 0 0)) (show 1<=1048576 by lia) (.inr rfl);by_cases c:tK d.2.2.2.2.2.1 (n.getD 0 0)=0
  ·grind [BO]
  ·grind [BO]
 ·by_cases q1:x1.getD 0 aC=aA #[101,118,101,110,116]
  ·grind [aRL]
  ·rw[ν (λh=>q1 ((bC _ _).1 h))]
   grind [aRL]
theorem aRN:UY (m+5) x1 d n (FW (dW d (x1.getD 0 aC) n [(aA #[112,111,119,101,114],2),(aA #[101,118,101,110,116],1),(aA #[99,111,118,101,114],2),(aA #[119,97,116,101,114],5),(aA #[100,117,101],2)])) (FX d (dW d (x1.getD 0 aC) n [(aA #[112,111,119,101,114],2),(aA #[101,118,101,110,116],1),(aA #[99,111,118,101,114],2),(aA #[119,97,116,101,114],5),(aA #[100,117,101],2)])):=by
 have l0:(0:Int)<(x1.length:Int):=by lia
 refine⟨l0,?_⟩;rw[dW];by_cases q:x1.getD 0 aC=aA #[112,111,119,101,114]/\n.length=2
 ·have q1:=q.1;rw[π q,π ((bC _ _).2 q1),π (beq_iff_eq.2 (by lia))];obtain⟨p,e0,e1⟩:=aZg hd.2.2.2.2.1 (n.getD 0 0) (n.getD 1 0);refine⟨by lia,by lia,p,(Bd _ _).1,?_⟩;exact BO ((aLR d _ n []).trans (by rw[(Bd _ _).2,e0,e1]))
 ·by_cases q1:x1.getD 0 aC=aA #[112,111,119,101,114]
  ·grind [aRM]
  ·rw[ν (λh=>q1 ((bC _ _).1 h))]
   grind [aRM]
theorem aRO:UX (m+6) x1 d n (FW (dW d (x1.getD 0 aC) n [(aA #[108,105,109,105,116],3),(aA #[112,111,119,101,114],2),(aA #[101,118,101,110,116],1),(aA #[99,111,118,101,114],2),(aA #[119,97,116,101,114],5),(aA #[100,117,101],2)])) (FX d (dW d (x1.getD 0 aC) n [(aA #[108,105,109,105,116],3),(aA #[112,111,119,101,114],2),(aA #[101,118,101,110,116],1),(aA #[99,111,118,101,114],2),(aA #[119,97,116,101,114],5),(aA #[100,117,101],2)])):=by
 have l0:(0:Int)<(x1.length:Int):=by lia
 refine⟨l0,?_⟩;rw[dW];by_cases q:x1.getD 0 aC=aA #[108,105,109,105,116]/\n.length=3
 ·have q1:=q.1;rw[π q,π ((bC _ _).2 q1),π (beq_iff_eq.2 (by lia))];refine⟨⟨by lia,by lia,by lia,Fc λ_=>Fc λ_=>⟨by have:=(tM hd.2.2.2.1).1;lia,by have:=(tM hd.2.2.2.1).1;grind,trivial⟩⟩,(uK _).1,?_⟩;exact BO (aLX d _ n [] (tM hd.2.2.2.1).1)
 ·by_cases q1:x1.getD 0 aC=aA #[108,105,109,105,116]
  ·grind [aRN]
  ·rw[ν (λh=>q1 ((bC _ _).1 h))]
   grind [aRN]
theorem aRP:UW (m+7) x1 d n (FW (dW d (x1.getD 0 aC) n [(aA #[114,101,115,101,114,118,101],1),(aA #[108,105,109,105,116],3),(aA #[112,111,119,101,114],2),(aA #[101,118,101,110,116],1),(aA #[99,111,118,101,114],2),(aA #[119,97,116,101,114],5),(aA #[100,117,101],2)])) (FX d (dW d (x1.getD 0 aC) n [(aA #[114,101,115,101,114,118,101],1),(aA #[108,105,109,105,116],3),(aA #[112,111,119,101,114],2),(aA #[101,118,101,110,116],1),(aA #[99,111,118,101,114],2),(aA #[119,97,116,101,114],5),(aA #[100,117,101],2)])):=by
 have l0:(0:Int)<(x1.length:Int):=by lia
 refine⟨l0,?_⟩;rw[dW];by_cases q:x1.getD 0 aC=aA #[114,101,115,101,114,118,101]/\n.length=1
 ·have q1:=q.1;rw[π q,π ((bC _ _).2 q1),π (beq_iff_eq.2 (by lia))];obtain⟨p,e0,e1⟩:=aZf hd.2.1 (n.getD 0 0);refine⟨by lia,p,(Bd _ _).1,?_⟩;exact BO ((aDg d _ n []).trans (by rw[(Bd _ _).2,e0,e1]))
 ·by_cases q1:x1.getD 0 aC=aA #[114,101,115,101,114,118,101]
  ·grind [aRO]
  ·rw[ν (λh=>q1 ((bC _ _).1 h))]
   grind [aRO]
theorem bJK(v7:Int)(hv:¬v7<(x1.length:Int)):Nx (m+8) v7 n x1 d (FW (dW d (x1.getD 0 aC) n [(aA #[115,108,111,119,101,115,116],1),(aA #[114,101,115,101,114,118,101],1),(aA #[108,105,109,105,116],3),(aA #[112,111,119,101,114],2),(aA #[101,118,101,110,116],1),(aA #[99,111,118,101,114],2),(aA #[119,97,116,101,114],5),(aA #[100,117,101],2)])) (FX d (dW d (x1.getD 0 aC) n [(aA #[115,108,111,119,101,115,116],1),(aA #[114,101,115,101,114,118,101],1),(aA #[108,105,109,105,116],3),(aA #[112,111,119,101,114],2),(aA #[101,118,101,110,116],1),(aA #[99,111,118,101,114],2),(aA #[119,97,116,101,114],5),(aA #[100,117,101],2)])):=by
 have l0:(0:Int)<(x1.length:Int):=by lia
 rw[Nx,ν (by lia)];refine⟨l0,?_⟩;rw[dW];by_cases q:x1.getD 0 aC=aA #[115,108,111,119,101,115,116]/\n.length=1
 ·have q1:=q.1;rw[π q,π ((bC _ _).2 q1),π (beq_iff_eq.2 (by lia))];refine⟨by lia,(Bd _ _).1,?_⟩;exact BO ((aDf d _ n []).trans (congrArg (λo=>some (o,d)) (Bd _ _).2.symm))
 ·by_cases q1:x1.getD 0 aC=aA #[115,108,111,119,101,115,116]
  ·grind [aRP]
  ·rw[ν (λh=>q1 ((bC _ _).1 h))]
   grind [aRP]
end
theorem aZr{d:aEG}(hd:Vd d)(x1:Γ Δ)(h1:1<=x1.length)(hl:x1.length<=1048576):∀(k i:Nat) (n:Γ Int),i+k=x1.length->n.length<=i->Nx (k+8) (i:Int) n x1 d (FW ((Co x1 k i n).bind λn=>dW d (x1.getD 0 aC) n tW)) (FX d ((Co x1 k i n).bind λn=>dW d (x1.getD 0 aC) n tW)):=by
 intro k
 induction k with
 | zero =>
  intro i n hi hn;exact bJK hd x1 h1 n 0 _ (by lia)
 | succ k ih =>
  intro i n hi hn;have e3:(i:Int)+1=((i+1:Nat):Int):=by lia
  obtain⟨e0,e1⟩:=Aj (x1.getD i aC);rw[Nx,π (by lia),aK,Co];refine⟨by lia,by lia,?_⟩;by_cases c:gK (x1.getD i aC)=true
  ·grind [aJ]
  ·rw[ν c,π (by lia)];exact⟨rfl,rfl⟩
def bGD:KK:=mM ZF (DO tg) (λ⟨x0,x1,_⟩=>aPw x0 x1) (λ⟨x0,x1,_⟩=>[some ⟨iT,[aDi x0 x1]⟩]) (λ⟨x0,x1,_⟩=>[aI (.sl .str) (aDj x0 x1),aI .bool (aDk x0 x1)]) (λ⟨x0,x1,_⟩ h hwf K q =>
 (aZp _ _ K q ((x1.length-1+9))).1 (by rw[bGC];exact aZr h.1 x1 h.2.1 h.2.2 (x1.length-1) 1 [] (by have:=h.2.1;omega) (aY _)))
end
theorem aZs(x:Δ):(fK x).length<=64:=by
 rw[<- (rT x).1];show ((NB x).getD []).length<=64;unfold NB;split
 ·simp
 ·split
  ·simp
  ·rw[iy]
   grind
theorem aPx{x0:Γ F4}{x1:Γ Int}(h:FH x0 x1)(hne:x0≠[]\/x1.length=0):∀(k:Nat) (s:Γ Int×Γ Int),k<=x1.length->vG x1 k s->(∀j,k<=j->j<x1.length->tF x0 x1 j (s.2.getD j 0).toNat=true)->∀j,j<x1.length->tF x0 x1 j ((tG x0 x1 k s).2.getD j 0).toNat=true:=by
 intro k
 induction k with
 | zero=>exact λs hk hi ho j hj=>ho j (aY _) hj
 | succ k ih =>
  intro s hk hi ho;have hx:x0≠[]:=hne.resolve_right (by lia);have l0:=hi.l1;have l1:=hi.l2;have hq:=gv h hx k (by lia) (x1.length-k) (k+1) s (by lia) (by lia) hi (λhh=>absurd rfl hh);have ei:=XI x0 x1 k (f169 x0 x1 s.1 k) (x1.length-k) (k+1) s (by lia) (by lia) (by lia) (λj _=>rfl);have hf:=Oz h hx (show k<x1.length by lia);obtain⟨e,e2,_,_,e5,_⟩:=(jq (f:=f169 x0 x1 s.1 k) hf (x1.length-k) (k+1) (s.1.getD k 0,s.2.getD k 0) (by lia) (.inl rfl) (.inl (by lia))).ex;refine ih _ (by lia) hq (λj hj hj2=>?_);rw[ei];rw[tH _ _ _ _ (by lia)];by_cases c:k=j
  ·simp_all
  grind
theorem aDl(l:Γ F4)(t:Γ Int):∀s∈BC l t,s≠aA #[]:=by
 unfold BC;split
 ·rename_i c;have q:lU l=true/\jB t=true/\¬(l.length=0/\0<t.length):=by
   unfold B8 lG at c
   lia
  have hg:=(Rm l t).2 (by grind [lG]);have hne:l≠[]\/t.length=0:=by
   grind
  have h0:vG t t.length (aP (t.length+1) 0,aP (t.length+1) 0):=by
   refine⟨by simp,by simp,λj h1 h2=>?_,λj h1 h2=>by lia⟩
   grind
  have ok:=aPx hg hne t.length _ (aU _) h0 (λj h1 h2=>by lia);have key:∀(k a:Nat),∀s∈wC l t (wB l t).2 k a,s≠aA #[]:=by
   intro k
   induction k with
   | zero=>exact λa s hs=>by cases hs
   | succ k ih =>
    intro a s hs;unfold wC at hs;split at hs
    ·rcases bA.1 hs with rfl | hs
     ·rcases aEM l (w8 t a ((wB l t).2.getD a 0).toNat)with ⟨_,b⟩ | ⟨b1,b2,_,b4⟩
      ·grind [wB]
      ·rw[b4];have hm:zF l (j9 l (w8 t a ((wB l t).2.getD a 0).toNat))∈l:=cF l _ _ (by lia);have hn:=(iz (NE q.1 _ hm)).1;intro hz;rw[hz]at hn;exact absurd hn (by decide)
     grind
    grind
  grind
 simp
noncomputable section
def d91:gC:=D aAK [.po iT,.v (.sl .str)] [.sl .str,.bool] [] [Wj,xq,bEz,aRp,bE4,xz,bEA,bEH,aKx,bGD] false [8,14]
mutual
def R91:Nat->bF->Γ Δ->Γ aS->Γ (Option jD)->Prop
 | 0,_,_,_,_=>False
 | n+1,x0,x1,ds,us=>0<(x1.length:Int)/\if aB (aD x1 0 aC)==aB (aA #[118,111,116,101])then(if(x1.length:Int)==3 then 1<(x1.length:Int)/\LR (aD x1 1 aC)/\2<(x1.length:Int)/\if !jU (aD x1 1 aC)then ds=[aI (.sl .str) [],aI .bool false]/\us=[some (iX iT [x0])] else if !pW (aD x1 2 aC)then ds=[aI (.sl .str) [],aI .bool false]/\us=[some (iX iT [x0])] else aCt (Gg (b5 (aD x1 1 aC)) (jF (aD x1 2 aC))) (Gh (b5 (aD x1 1 aC)) (jF (aD x1 2 aC)))/\ds=[aI (.sl .str) (N4 (Gg (b5 (aD x1 1 aC)) (jF (aD x1 2 aC))) (Gh (b5 (aD x1 1 aC)) (jF (aD x1 2 aC)))),aI .bool true]/\us=[some (iX iT [x0])] else zu n x1 x0 ds us)else zu n x1 x0 ds us
def zu:Nat->Γ Δ->bF->Γ aS->Γ (Option jD)->Prop
 | 0,_,_,_,_=>False
 | n+1,x1,x0,ds,us=>0<(x1.length:Int)/\if aB (aD x1 0 aC)==aB (aA #[116,114,105,112,115])then(if(x1.length:Int)==2 then 1<(x1.length:Int)/\LR (aD x1 1 aC)/\if !jU (aD x1 1 aC)then ds=[aI (.sl .str) [],aI .bool false]/\us=[some (iX iT [x0])] else bE3 x0.2.2.2.2.2.2.2.2.1 (b5 (aD x1 1 aC))/\Wv (XG x0.2.2.2.2.2.2.2.2.1 (b5 (aD x1 1 aC))) (XH x0.2.2.2.2.2.2.2.2.1 (b5 (aD x1 1 aC)))/\ds=[aI (.sl .str) (AA (XG x0.2.2.2.2.2.2.2.2.1 (b5 (aD x1 1 aC))) (XH x0.2.2.2.2.2.2.2.2.1 (b5 (aD x1 1 aC)))),aI .bool true]/\us=[some (iX iT [x0])] else kp n x1 x0 ds us)else kp n x1 x0 ds us
def kp:Nat->Γ Δ->bF->Γ aS->Γ (Option jD)->Prop
 | 0,_,_,_,_=>False
 | n+1,x1,x0,ds,us=>0<(x1.length:Int)/\if aB (aD x1 0 aC)==aB (aA #[113,117,101,117,101])then(if(x1.length:Int)==4 then 1<(x1.length:Int)/\ik (aD x1 1 aC)/\2<(x1.length:Int)/\3<(x1.length:Int)/\if !jr (aD x1 1 aC)then ds=[aI (.sl .str) [],aI .bool false]/\us=[some (iX iT [x0])] else if !pW (aD x1 2 aC)then ds=[aI (.sl .str) [],aI .bool false]/\us=[some (iX iT [x0])] else if !pW (aD x1 3 aC)then ds=[aI (.sl .str) [],aI .bool false]/\us=[some (iX iT [x0])] else aOn (Jb (aD x1 1 aC)) (jF (aD x1 2 aC)) (jF (aD x1 3 aC))/\aCh (XJ (Jb (aD x1 1 aC)) (jF (aD x1 2 aC)) (jF (aD x1 3 aC))) (XK (Jb (aD x1 1 aC)) (jF (aD x1 2 aC)) (jF (aD x1 3 aC)))/\ds=[aI (.sl .str) (NI (XJ (Jb (aD x1 1 aC)) (jF (aD x1 2 aC)) (jF (aD x1 3 aC))) (XK (Jb (aD x1 1 aC)) (jF (aD x1 2 aC)) (jF (aD x1 3 aC)))),aI .bool true]/\us=[some (iX iT [x0])] else aPw x0 x1/\ds=[aI (.sl .str) (aDj x0 x1),aI .bool (aDk x0 x1)]/\us=[some (iX iT [(aDi x0 x1)])])else aPw x0 x1/\ds=[aI (.sl .str) (aDj x0 x1),aI .bool (aDk x0 x1)]/\us=[some (iX iT [(aDi x0 x1)])]
end
def bGE(ds:Γ aS)(us:Γ (Option jD))(K:fG)(q:Nat->Value):∀n,(∀ {x0 x1},R91 n x0 x1 ds us->St d91 (x0,x1,()) ds us K q)/\(∀ {x1 x0},zu n x1 x0 ds us->Cu d91 8 ([eP 0 0 0 iT,eL 1 .str x1],[TD x0 1 2 3 4 5 6 7 8,cL eC x0.1,cL cZ x0.2.2.1,cL cZ x0.2.2.2.1,cL c8 x0.2.2.2.2.2.2.1,cL eC x0.2.2.2.2.2.2.2.2.1,cL cZ x0.2.2.2.2.2.2.2.2.2.1,cL c8 x0.2.2.2.2.2.2.2.2.2.2.1,cL c8 x0.2.2.2.2.2.2.2.2.2.2.2.1]) ds us K q)/\(∀ {x1 x0},kp n x1 x0 ds us->Cu d91 14 ([eP 0 0 0 iT,eL 1 .str x1],[TD x0 1 2 3 4 5 6 7 8,cL eC x0.1,cL cZ x0.2.2.1,cL cZ x0.2.2.2.1,cL c8 x0.2.2.2.2.2.2.1,cL eC x0.2.2.2.2.2.2.2.2.1,cL cZ x0.2.2.2.2.2.2.2.2.2.1,cL c8 x0.2.2.2.2.2.2.2.2.2.2.1,cL c8 x0.2.2.2.2.2.2.2.2.2.2.2.1]) ds us K q):=nI ⟨aH,aH,aH⟩ λn ⟨i,i8,i14⟩=>⟨pq 0<|aL<|bD (bD (pq 1<|aL<|aL<|pq 2<|aL<|bH<|bD (jM Et)<|bD Et<|bH<|aL Et)<|bX i8)<|dK<|bX i8,
  pq 0<|aL<|bD (bD (pq 1<|aL<|aL<|bD Et<|aL<|aL Et)<|bX i14)<|dK<|bX i14,
  pq 0<|aL<|bD (bD (pq 1<|aL<|aL<|pq 2<|aL<|bH<|pq 3<|aL<|bH<|bD (jM<|jM Et)<|bD (jM Et)<|bD Et<|aL<|aL Et)<|aL Et)<|dK<|aL Et⟩
abbrev aH1:=Option (Γ Δ×aEG)
abbrev lA(x1:Γ Δ)(i:Nat):Δ:=x1.getD i aC
abbrev Pl(x1:Γ Δ)(i:Nat):Int:=gG (lA x1 i)
abbrev aMa(x1:Γ Δ)(i:Nat):Bool:=gK (lA x1 i)
def aDm(d:aEG)(x1:Γ Δ):aH1:=if o4 (lA x1 1)=true then(if aMa x1 2=true then uJ d (aA #[118,111,116,101],aA #[],[Pl x1 2],fK (lA x1 1),())else none)else none
def kq(d:aEG)(x1:Γ Δ):aH1:=if o4 (lA x1 1)=true then uJ d (aA #[116,114,105,112,115],aA #[],[],fK (lA x1 1),())else none
def kr(d:aEG)(x1:Γ Δ):aH1:=if rC (lA x1 1)=true then(if aMa x1 2=true then(if aMa x1 3=true then uJ d (aA #[113,117,101,117,101],aA #[],[Pl x1 2,Pl x1 3],r9 (lA x1 1),())else none)else none)else none
def Lg(d:aEG)(x1:Γ Δ):aH1:=if lA x1 0=aA #[113,117,101,117,101]/\x1.length=4 then kr d x1 else Ea d x1
def ZG(d:aEG)(x1:Γ Δ):aH1:=if lA x1 0=aA #[116,114,105,112,115]/\x1.length=2 then kq d x1 else Lg d x1
def xC(d:aEG)(x1:Γ Δ):aH1:=if lA x1 0=aA #[118,111,116,101]/\x1.length=3 then aDm d x1 else ZG d x1
def aRQ(x0:aEG)(x1:Γ Δ):aEG:=dq x0 (xC x0 x1)
def aRR(x0:aEG)(x1:Γ Δ):Γ Δ:=dt (xC x0 x1)
def aRS(x0:aEG)(x1:Γ Δ):Bool:=(xC x0 x1).isSome
def P91(x0:aEG)(x1:Γ Δ):Prop:=Vd x0/\(1<=x1.length/\x1.length<=1048576)/\∀w∈x1,w.size<=1048576
variable {x1:Γ Δ}
theorem aZt{d:aEG}(h:P91 d x1)(i:Nat):(lA x1 i).size<=1048576:=by
 by_cases c:i<x1.length
 ·exact h.2.2 _ (cF x1 i aC c)
 simp_all
theorem aRT{d:aEG}(h:P91 d x1)(m:Nat):kp (m+1) x1 d (FW (Lg d x1)) (FX d (Lg d x1)):=by
 have hl:=h.2.1;have l0:(0:Int)<(x1.length:Int):=by lia
 have z1:(x1.getD 1 aC).size<=1048576:=aZt h 1;have rest:aPw d x1:=⟨h.1,hl.1,hl.2⟩;unfold Lg;refine⟨l0,?_⟩;by_cases q:lA x1 0=aA #[113,117,101,117,101]/\x1.length=4
 ·rw[π q,π ((bC _ _).2 q.1),π (beq_iff_eq.2 (by lia))];obtain⟨e0,e1⟩:=Aj (x1.getD 2 aC);obtain⟨e2,e3⟩:=Aj (x1.getD 3 aC);refine⟨by lia,z1,by lia,by lia,?_⟩;rw[e1,e3];unfold kr;have g0:Jb (x1.getD 1 aC)=r9 (x1.getD 1 aC):=rfl;have g1:jr (x1.getD 1 aC)=rC (x1.getD 1 aC):=rfl;rw[g1];have a:=aLU d (aA #[]) [Pl x1 2,Pl x1 3] (r9 (lA x1 1));by_cases c1:rC (lA x1 1)=true
  ·rw[π c1,ν (show ¬(!rC (lA x1 1))=true by lia)];by_cases c2:gK (lA x1 2)=true
   ·rw[π c2,ν (show ¬(!gK (lA x1 2))=true by lia)];by_cases c3:gK (lA x1 3)=true
    ·obtain⟨p,f0,f1⟩:=aHt (r9 (lA x1 1)) (Pl x1 2) (Pl x1 3);have z:=Pj (RB (r9 (lA x1 1)) (Pl x1 2) (Pl x1 3)) (aLK (r9 (lA x1 1)) (Pl x1 2) (Pl x1 3))
     grind [BO]
    ·rw[ν c3,π (show (!gK (lA x1 3))=true by lia)];exact⟨rfl,rfl⟩
   ·rw[ν c2,π (show (!gK (lA x1 2))=true by lia)];exact⟨rfl,rfl⟩
  ·rw[ν c1,π (show (!rC (lA x1 1))=true by lia)];exact⟨rfl,rfl⟩
 ·rw[ν q];by_cases q1:lA x1 0=aA #[113,117,101,117,101]
  ·rw[π ((bC _ _).2 q1),ν (λh=>q ⟨q1,by lia⟩)];exact⟨rest,rfl,rfl⟩
  ·rw[ν (λh=>q1 ((bC _ _).1 h))];exact⟨rest,rfl,rfl⟩
theorem bGF{d:aEG}(h:P91 d x1)(m:Nat):zu (m+2) x1 d (FW (ZG d x1)) (FX d (ZG d x1)):=by
 have hl:=h.2.1;have l0:(0:Int)<(x1.length:Int):=by lia
 have z1:(x1.getD 1 aC).size<=1048576:=aZt h 1;obtain⟨r0,r1⟩:=rT (x1.getD 1 aC);rw[zu,r0,r1];unfold ZG;refine⟨l0,?_⟩;by_cases q:lA x1 0=aA #[116,114,105,112,115]/\x1.length=2
 ·rw[π q,π ((bC _ _).2 q.1),π (beq_iff_eq.2 (by lia))];refine⟨by lia,show (x1.getD 1 aC).size<4294967281 by lia,?_⟩;unfold kq;have a:=aLV d (aA #[]) [] (fK (lA x1 1));by_cases c1:o4 (lA x1 1)=true
  ·rw[π c1,ν (show ¬(!o4 (lA x1 1))=true by lia)];have z:=HG (BC d.2.2.2.2.2.2.2.2.1 (fK (lA x1 1))) (JB d.2.2.2.2.2.2.2.2.1 (fK (lA x1 1))) (by have:=(de d.2.2.2.2.2.2.2.2.1 (fK (lA x1 1))).1;lia) (.inl (aDl _ _));exact⟨show (fK (x1.getD 1 aC)).length<=1000000 by grind [aZs],z.1,BO (a.trans (congrArg (λo=>some (o,d)) z.2.symm))⟩
  ·rw[ν c1,π (show (!o4 (lA x1 1))=true by lia)];exact⟨rfl,rfl⟩
 ·by_cases q1:lA x1 0=aA #[116,114,105,112,115]
  ·grind [aRT]
  ·rw[ν (λh=>q1 ((bC _ _).1 h))]
   grind [aRT]
theorem bGG{d:aEG}(h:P91 d x1)(m:Nat):R91 (m+3) d x1 (FW (xC d x1)) (FX d (xC d x1)):=by
 have hl:=h.2.1;have l0:(0:Int)<(x1.length:Int):=by omega
 have z1:(x1.getD 1 aC).size<=1048576:=aZt h 1;obtain⟨r0,r1⟩:=rT (x1.getD 1 aC);obtain⟨e0,e1⟩:=Aj (x1.getD 2 aC);rw[R91,r0,r1,e0,e1];unfold xC;refine⟨l0,?_⟩;by_cases q:lA x1 0=aA #[118,111,116,101]/\x1.length=3
 ·rw[π q,π ((bC _ _).2 q.1),π (beq_iff_eq.2 (by have:=q.2;omega))];have q2:=q.2;refine⟨by omega,show (x1.getD 1 aC).size<4294967281 by omega,by omega,?_⟩;unfold aDm;have a:=aPm d (aA #[]) [Pl x1 2] (fK (lA x1 1));by_cases c1:o4 (lA x1 1)=true
  ·rw[π c1,ν (show ¬(!o4 (lA x1 1))=true by rw[c1];decide)];by_cases c2:gK (lA x1 2)=true
   ·rw[π c2,ν (show ¬(!gK (lA x1 2))=true by rw[c2];decide)];have z:=Bd (GQ (fK (lA x1 1)) (Pl x1 2)) (JH (fK (lA x1 1)) (Pl x1 2));exact⟨z.1,BO (a.trans (congrArg (λo=>some (o,d)) z.2.symm))⟩
   ·rw[ν c2,π (show (!gK (lA x1 2))=true by rw[Hb c2]<;>rfl)];exact⟨rfl,rfl⟩
  ·rw[ν c1,π (show (!o4 (lA x1 1))=true by rw[Hb c1]<;>rfl)];exact⟨rfl,rfl⟩
 ·rw[ν q];by_cases q1:lA x1 0=aA #[118,111,116,101]
  ·rw[π ((bC _ _).2 q1),ν (λh=>q ⟨q1,by have:=beq_iff_eq.1 h;omega⟩)];exact bGF h m
  ·rw[ν (λh=>q1 ((bC _ _).1 h))];exact bGF h m
def bJM:KK:=mM d91 (DO aAK) (λ⟨x0,x1,_⟩=>P91 x0 x1) (λ⟨x0,x1,_⟩=>[some ⟨iT,[aRQ x0 x1]⟩]) (λ⟨x0,x1,_⟩=>[aI (.sl .str) (aRR x0 x1),aI .bool (aRS x0 x1)]) (λ⟨x0,x1,_⟩ h hwf K q =>
 (bGE _ _ K q 3).1 (bGG h 0))
def P24(x0:bF)(x1:Δ):Prop:=if decide ((↑(aG x1):Int)>400)then True else P88 x1 32/\if(↑(aF (bU x1 32)):Int)==1 then P89 x0 x1/\True else 0<(↑(aF (bU x1 32)):Int)/\0<(↑(aF (bU x1 32)):Int)/\aX .i64 ((↑(aG (aD (bU x1 32) 0 aC)):Int)+1)/\0<=(↑(aG (aD (bU x1 32) 0 aC)):Int)+1/\(↑(aG (aD (bU x1 32) 0 aC)):Int)+1<=(↑(aG x1):Int)/\P90 x0 (aD (bU x1 32) 0 aC) (aO x1 (aE ((↑(aG (aD (bU x1 32) 0 aC)):Int)+1)) (aE (↑(aG x1):Int)))/\if zE x0 (aD (bU x1 32) 0 aC) (aO x1 (aE ((↑(aG (aD (bU x1 32) 0 aC)):Int)+1)) (aE (↑(aG x1):Int)))then True else P91 (yD x0 (aD (bU x1 32) 0 aC) (aO x1 (aE ((↑(aG (aD (bU x1 32) 0 aC)):Int)+1)) (aE (↑(aG x1):Int)))) (bU x1 32)/\True
def zv(x0:bF)(x1:Δ):Γ Δ:=if decide ((↑(aG x1):Int)>400)then [] else if(↑(aF (bU x1 32)):Int)==1 then PO x0 x1 else if zE x0 (aD (bU x1 32) 0 aC) (aO x1 (aE ((↑(aG (aD (bU x1 32) 0 aC)):Int)+1)) (aE (↑(aG x1):Int)))then D7 x0 (aD (bU x1 32) 0 aC) (aO x1 (aE ((↑(aG (aD (bU x1 32) 0 aC)):Int)+1)) (aE (↑(aG x1):Int)))else aRR (yD x0 (aD (bU x1 32) 0 aC) (aO x1 (aE ((↑(aG (aD (bU x1 32) 0 aC)):Int)+1)) (aE (↑(aG x1):Int)))) (bU x1 32)
def T3(x0:bF)(x1:Δ):Bool:=if decide ((↑(aG x1):Int)>400)then false else if(↑(aF (bU x1 32)):Int)==1 then PP x0 x1 else if zE x0 (aD (bU x1 32) 0 aC) (aO x1 (aE ((↑(aG (aD (bU x1 32) 0 aC)):Int)+1)) (aE (↑(aG x1):Int)))then true else aRS (yD x0 (aD (bU x1 32) 0 aC) (aO x1 (aE ((↑(aG (aD (bU x1 32) 0 aC)):Int)+1)) (aE (↑(aG x1):Int)))) (bU x1 32)
def zw(x0:bF)(x1:Δ):bF:=if decide ((↑(aG x1):Int)>400)then x0 else if(↑(aF (bU x1 32)):Int)==1 then x0 else if zE x0 (aD (bU x1 32) 0 aC) (aO x1 (aE ((↑(aG (aD (bU x1 32) 0 aC)):Int)+1)) (aE (↑(aG x1):Int)))then yD x0 (aD (bU x1 32) 0 aC) (aO x1 (aE ((↑(aG (aD (bU x1 32) 0 aC)):Int)+1)) (aE (↑(aG x1):Int)))else aRQ (yD x0 (aD (bU x1 32) 0 aC) (aO x1 (aE ((↑(aG (aD (bU x1 32) 0 aC)):Int)+1)) (aE (↑(aG x1):Int)))) (bU x1 32)
def bJN:KK:=mV Tryz.func24 [.po iT,.v (.str)] [.sl .str,.bool] [aB9,bJ0,bJ1,bJM] P24 (λx=>[some ⟨.cons (.sl eC) YA1,[zw x.1 x.2.1]⟩]) (zv,T3,()) λ_=>sF pr<|aL<|sF (aL pr)<|pq 0<|aL<|pq 0<|aL<|aL<|cP<|aL<|sF pr<|aL pr
def d5:gC:=D aDu [.v iT,.v (.str)] [.cons (.sl eC) YA1,.sl .str,.int .i64] [.frz,.own,.own] [bB7,bJq,bJN] false []
def P5(x0:bF)(x1:Δ):Prop:=if !Ir x0 then True else P23 x0/\P24 (TF x0) x1/\True
def aMb(x0:bF)(x1:Δ):bF:=if !Ir x0 then([],(0,0,0,0,()),[],[],(0,0,0,()),(0,0,0,()),[],(0,0,0,0,()),[],[],[],[],())else if !T3 (TF x0) x1 then([],(0,0,0,0,()),[],[],(0,0,0,()),(0,0,0,()),[],(0,0,0,0,()),[],[],[],[],())else zw (TF x0) x1
def aMc(x0:bF)(x1:Δ):Γ Δ:=if !Ir x0 then [] else if !T3 (TF x0) x1 then [] else zv (TF x0) x1
def aMd(x0:bF)(x1:Δ):Int:=if !Ir x0 then 1 else if !T3 (TF x0) x1 then 8 else 0
def kx5:KK:=mA d5 (DO aDu) P5 (aMb,aMc,aMd,()) λ_=>bH<|Yz pr<|aL<|aL<|pe3 pr pr
def d9:gC:=D0 aDv [.v (.sl .str),.v (.sl .str)] [.bool] []
def bJO(ds:Γ aS)(K:fG)(q:Nat->Value):∀n,(∀ {x0 x1},RE0 (λx y=>aB x==aB y) aC n x0 x1 ds->St d9 (x0,x1,()) ds [] K q)/\(∀ {v5 x0 x1},RE (λx y=>aB x==aB y) aC n v5 x0 x1 ds->Cu d9 4 ([eL 0 .str x0,eL 1 .str x1,eI 5 v5],[]) ds [] K q):=nI ⟨aH,aH⟩ λn ⟨i,i4⟩=>⟨bD cM<|bX i4,
  bD (cP<|cP<|bD cM<|aL<|bX i4) cM⟩
def aPy(x0 x1:Γ (Δ)):Bool:=decide (x0=x1)
def kx9:KK:=mL d9 (DO aDv) nP (aPy,()) (λ⟨x0,x1,_⟩ h hwf K q=>(bJO _ K q _).1 (gj bC hwf.1.1))
def d63:gC:=D0 aAL [.v (.sl eC),.v (.int .i64)] [.int .i64] [Tj]
def bGI(ds:Γ aS)(K:fG)(q:Nat->Value):∀n,(∀ {x0 x1},RH0 (aC,(0:Int),(0:Int),(0:Int),()) (hA iZ) n x0 x1 ds->St d63 (x0,x1,()) ds [] K q)/\(∀ {v5 x0 x1},RH (aC,(0:Int),(0:Int),(0:Int),()) (hA iZ) n v5 x0 x1 ds->Cu d63 2 ([eL 0 eC x0,eI 1 x1,eI 5 v5],[]) ds [] K q):=nI ⟨aH,aH⟩ λn ⟨i,i2⟩=>⟨bX i2,
  bD (cP<|bH<|bD cM<|aL<|cP<|bD cM<|aL<|cP<|bD cM<|aL<|cP<|bD cM<|aL<|aL<|bX i2) cM⟩
def rQ(x0:Γ dO)(x1:Int):Int:=gM 4 x0 x1
def P63(x0:Γ dO)(x1:Int):Prop:=PH (hA iZ) x0 x1
def bJR:KK:=mL d63 (DO aAL) P63 (rQ,()) (λ⟨x0,x1,_⟩ h hwf K q=>(bGI _ K q _).1 (gm h hwf.1.1))
def d64:gC:=D0 aAM [.v (.sl cZ),.v (.int .i64)] [.int .i64] []
def bGJ(ds:Γ aS)(K:fG)(q:Nat->Value):∀n,(∀ {x0 x1},RH0 ((0:Int),(0:Int),(0:Int),()) hC n x0 x1 ds->St d64 (x0,x1,()) ds [] K q)/\(∀ {v5 x0 x1},RH ((0:Int),(0:Int),(0:Int),()) hC n v5 x0 x1 ds->Cu d64 2 ([eL 0 cZ x0,eI 1 x1,eI 5 v5],[]) ds [] K q):=nI ⟨aH,aH⟩ λn ⟨i,i2⟩=>⟨bX i2,
  bD (cP<|bD cM<|aL<|cP<|bD cM<|aL<|cP<|bD cM<|aL<|aL<|bX i2) cM⟩
def uU(x0:Γ b6)(x1:Int):Int:=gM 3 x0 x1
def P64(x0:Γ b6)(x1:Int):Prop:=PH hC x0 x1
def bJU:KK:=mL d64 (DO aAM) P64 (uU,()) (λ⟨x0,x1,_⟩ h hwf K q=>(bGJ _ K q _).1 (gm h hwf.1.1))
def d65:gC:=D0 aAN [.v (.sl cZ),.v (.int .i64)] [.int .i64] []
def bGK(ds:Γ aS)(K:fG)(q:Nat->Value):∀n,(∀ {x0 x1},RH0 ((0:Int),(0:Int),(0:Int),()) hC n x0 x1 ds->St d65 (x0,x1,()) ds [] K q)/\(∀ {v5 x0 x1},RH ((0:Int),(0:Int),(0:Int),()) hC n v5 x0 x1 ds->Cu d65 2 ([eL 0 cZ x0,eI 1 x1,eI 5 v5],[]) ds [] K q):=nI ⟨aH,aH⟩ λn ⟨i,i2⟩=>⟨bX i2,
  bD (cP<|bD cM<|aL<|cP<|bD cM<|aL<|cP<|bD cM<|aL<|aL<|bX i2) cM⟩
def yK(x0:Γ b6)(x1:Int):Int:=gM 3 x0 x1
def P65(x0:Γ b6)(x1:Int):Prop:=PH hC x0 x1
def bJX:KK:=mL d65 (DO aAN) P65 (yK,()) (λ⟨x0,x1,_⟩ h hwf K q=>(bGK _ K q _).1 (gm h hwf.1.1))
def d66:gC:=D0 aAO [.v (.sl c8),.v (.int .i64)] [.int .i64] [Tj]
def bGL(ds:Γ aS)(K:fG)(q:Nat->Value):∀n,(∀ {x0 x1},RH0 (aC,(0:Int),(0:Int),()) (hB iZ) n x0 x1 ds->St d66 (x0,x1,()) ds [] K q)/\(∀ {v5 x0 x1},RH (aC,(0:Int),(0:Int),()) (hB iZ) n v5 x0 x1 ds->Cu d66 2 ([eL 0 c8 x0,eI 1 x1,eI 5 v5],[]) ds [] K q):=nI ⟨aH,aH⟩ λn ⟨i,i2⟩=>⟨bX i2,
  bD (cP<|bH<|bD cM<|aL<|cP<|bD cM<|aL<|cP<|bD cM<|aL<|aL<|bX i2) cM⟩
def BY(x0:Γ bP)(x1:Int):Int:=gM 3 x0 x1
def P66(x0:Γ bP)(x1:Int):Prop:=PH (hB iZ) x0 x1
def bKa:KK:=mL d66 (DO aAO) P66 (BY,()) (λ⟨x0,x1,_⟩ h hwf K q=>(bGL _ K q _).1 (gm h hwf.1.1))
def d67:gC:=D0 aAP [.v (.sl eC),.v (.int .i64)] [.int .i64] [Tj]
def bGM(ds:Γ aS)(K:fG)(q:Nat->Value):∀n,(∀ {x0 x1},RH0 (aC,(0:Int),(0:Int),(0:Int),()) (hA iZ) n x0 x1 ds->St d67 (x0,x1,()) ds [] K q)/\(∀ {v5 x0 x1},RH (aC,(0:Int),(0:Int),(0:Int),()) (hA iZ) n v5 x0 x1 ds->Cu d67 2 ([eL 0 eC x0,eI 1 x1,eI 5 v5],[]) ds [] K q):=nI ⟨aH,aH⟩ λn ⟨i,i2⟩=>⟨bX i2,
  bD (cP<|bH<|bD cM<|aL<|cP<|bD cM<|aL<|cP<|bD cM<|aL<|cP<|bD cM<|aL<|aL<|bX i2) cM⟩
def FY(x0:Γ dO)(x1:Int):Int:=gM 4 x0 x1
def P67(x0:Γ dO)(x1:Int):Prop:=PH (hA iZ) x0 x1
def bKd:KK:=mL d67 (DO aAP) P67 (FY,()) (λ⟨x0,x1,_⟩ h hwf K q=>(bGM _ K q _).1 (gm h hwf.1.1))
def d68:gC:=D0 aAQ [.v (.sl cZ),.v (.int .i64)] [.int .i64] []
def bGN(ds:Γ aS)(K:fG)(q:Nat->Value):∀n,(∀ {x0 x1},RH0 ((0:Int),(0:Int),(0:Int),()) hC n x0 x1 ds->St d68 (x0,x1,()) ds [] K q)/\(∀ {v5 x0 x1},RH ((0:Int),(0:Int),(0:Int),()) hC n v5 x0 x1 ds->Cu d68 2 ([eL 0 cZ x0,eI 1 x1,eI 5 v5],[]) ds [] K q):=nI ⟨aH,aH⟩ λn ⟨i,i2⟩=>⟨bX i2,
  bD (cP<|bD cM<|aL<|cP<|bD cM<|aL<|cP<|bD cM<|aL<|aL<|bX i2) cM⟩
def Lh(x0:Γ b6)(x1:Int):Int:=gM 3 x0 x1
def P68(x0:Γ b6)(x1:Int):Prop:=PH hC x0 x1
def bKg:KK:=mL d68 (DO aAQ) P68 (Lh,()) (λ⟨x0,x1,_⟩ h hwf K q=>(bGN _ K q _).1 (gm h hwf.1.1))
def d69:gC:=D0 aAR [.v (.sl c8),.v (.int .i64)] [.int .i64] [Tj]
def bGO(ds:Γ aS)(K:fG)(q:Nat->Value):∀n,(∀ {x0 x1},RH0 (aC,(0:Int),(0:Int),()) (hB iZ) n x0 x1 ds->St d69 (x0,x1,()) ds [] K q)/\(∀ {v5 x0 x1},RH (aC,(0:Int),(0:Int),()) (hB iZ) n v5 x0 x1 ds->Cu d69 2 ([eL 0 c8 x0,eI 1 x1,eI 5 v5],[]) ds [] K q):=nI ⟨aH,aH⟩ λn ⟨i,i2⟩=>⟨bX i2,
  bD (cP<|bH<|bD cM<|aL<|cP<|bD cM<|aL<|cP<|bD cM<|aL<|aL<|bX i2) cM⟩
def YU(x0:Γ bP)(x1:Int):Int:=gM 3 x0 x1
def P69(x0:Γ bP)(x1:Int):Prop:=PH (hB iZ) x0 x1
def bKj:KK:=mL d69 (DO aAR) P69 (YU,()) (λ⟨x0,x1,_⟩ h hwf K q=>(bGO _ K q _).1 (gm h hwf.1.1))
def d70:gC:=D0 aAS [.v (.sl c8),.v (.int .i64)] [.int .i64] [Tj]
def bGP(ds:Γ aS)(K:fG)(q:Nat->Value):∀n,(∀ {x0 x1},RH0 (aC,(0:Int),(0:Int),()) (hB iZ) n x0 x1 ds->St d70 (x0,x1,()) ds [] K q)/\(∀ {v5 x0 x1},RH (aC,(0:Int),(0:Int),()) (hB iZ) n v5 x0 x1 ds->Cu d70 2 ([eL 0 c8 x0,eI 1 x1,eI 5 v5],[]) ds [] K q):=nI ⟨aH,aH⟩ λn ⟨i,i2⟩=>⟨bX i2,
  bD (cP<|bH<|bD cM<|aL<|cP<|bD cM<|aL<|cP<|bD cM<|aL<|aL<|bX i2) cM⟩
def aFs(x0:Γ bP)(x1:Int):Int:=gM 3 x0 x1
def P70(x0:Γ bP)(x1:Int):Prop:=PH (hB iZ) x0 x1
def bKm:KK:=mL d70 (DO aAS) P70 (aFs,()) (λ⟨x0,x1,_⟩ h hwf K q=>(bGP _ K q _).1 (gm h hwf.1.1))
def P12(x0:bF)(x1:Int):Prop:=((P63 x0.1 x1)/\(if decide (rQ x0.1 x1<0)=true then True else((P64 x0.2.2.1 (rQ x0.1 x1))/\(if decide (uU x0.2.2.1 (rQ x0.1 x1)<0)=true then True else((P65 x0.2.2.2.1 (uU x0.2.2.1 (rQ x0.1 x1)))/\(if decide (yK x0.2.2.2.1 (uU x0.2.2.1 (rQ x0.1 x1))<0)=true then True else((P66 x0.2.2.2.2.2.2.1 (yK x0.2.2.2.1 (uU x0.2.2.1 (rQ x0.1 x1))))/\(if decide (BY x0.2.2.2.2.2.2.1 (yK x0.2.2.2.1 (uU x0.2.2.1 (rQ x0.1 x1)))<0)=true then True else((P67 x0.2.2.2.2.2.2.2.2.1 (BY x0.2.2.2.2.2.2.1 (yK x0.2.2.2.1 (uU x0.2.2.1 (rQ x0.1 x1)))))/\(if decide (FY x0.2.2.2.2.2.2.2.2.1 (BY x0.2.2.2.2.2.2.1 (yK x0.2.2.2.1 (uU x0.2.2.1 (rQ x0.1 x1))))<0)=true then True else((P68 x0.2.2.2.2.2.2.2.2.2.1 (FY x0.2.2.2.2.2.2.2.2.1 (BY x0.2.2.2.2.2.2.1 (yK x0.2.2.2.1 (uU x0.2.2.1 (rQ x0.1 x1))))))/\(if decide (Lh x0.2.2.2.2.2.2.2.2.2.1 (FY x0.2.2.2.2.2.2.2.2.1 (BY x0.2.2.2.2.2.2.1 (yK x0.2.2.2.1 (uU x0.2.2.1 (rQ x0.1 x1)))))<0)=true then True else((P69 x0.2.2.2.2.2.2.2.2.2.2.1 (Lh x0.2.2.2.2.2.2.2.2.2.1 (FY x0.2.2.2.2.2.2.2.2.1 (BY x0.2.2.2.2.2.2.1 (yK x0.2.2.2.1 (uU x0.2.2.1 (rQ x0.1 x1)))))))/\(if decide (YU x0.2.2.2.2.2.2.2.2.2.2.1 (Lh x0.2.2.2.2.2.2.2.2.2.1 (FY x0.2.2.2.2.2.2.2.2.1 (BY x0.2.2.2.2.2.2.1 (yK x0.2.2.2.1 (uU x0.2.2.1 (rQ x0.1 x1))))))<0)=true then True else((P70 x0.2.2.2.2.2.2.2.2.2.2.2.1 (YU x0.2.2.2.2.2.2.2.2.2.2.1 (Lh x0.2.2.2.2.2.2.2.2.2.1 (FY x0.2.2.2.2.2.2.2.2.1 (BY x0.2.2.2.2.2.2.1 (yK x0.2.2.2.1 (uU x0.2.2.1 (rQ x0.1 x1))))))))/\True)))))))))))))))
def KL(x0:bF)(x1:Int):Int:=if decide (rQ x0.1 x1<0)then -1 else if decide (uU x0.2.2.1 (rQ x0.1 x1)<0)then -1 else if decide (yK x0.2.2.2.1 (uU x0.2.2.1 (rQ x0.1 x1))<0)then -1 else if decide (BY x0.2.2.2.2.2.2.1 (yK x0.2.2.2.1 (uU x0.2.2.1 (rQ x0.1 x1)))<0)then -1 else if decide (FY x0.2.2.2.2.2.2.2.2.1 (BY x0.2.2.2.2.2.2.1 (yK x0.2.2.2.1 (uU x0.2.2.1 (rQ x0.1 x1))))<0)then -1 else if decide (Lh x0.2.2.2.2.2.2.2.2.2.1 (FY x0.2.2.2.2.2.2.2.2.1 (BY x0.2.2.2.2.2.2.1 (yK x0.2.2.2.1 (uU x0.2.2.1 (rQ x0.1 x1)))))<0)then -1 else if decide (YU x0.2.2.2.2.2.2.2.2.2.2.1 (Lh x0.2.2.2.2.2.2.2.2.2.1 (FY x0.2.2.2.2.2.2.2.2.1 (BY x0.2.2.2.2.2.2.1 (yK x0.2.2.2.1 (uU x0.2.2.1 (rQ x0.1 x1))))))<0)then -1 else if decide (aFs x0.2.2.2.2.2.2.2.2.2.2.2.1 (YU x0.2.2.2.2.2.2.2.2.2.2.1 (Lh x0.2.2.2.2.2.2.2.2.2.1 (FY x0.2.2.2.2.2.2.2.2.1 (BY x0.2.2.2.2.2.2.1 (yK x0.2.2.2.1 (uU x0.2.2.1 (rQ x0.1 x1)))))))<0)then -1 else aFs x0.2.2.2.2.2.2.2.2.2.2.2.1 (YU x0.2.2.2.2.2.2.2.2.2.2.1 (Lh x0.2.2.2.2.2.2.2.2.2.1 (FY x0.2.2.2.2.2.2.2.2.1 (BY x0.2.2.2.2.2.2.1 (yK x0.2.2.2.1 (uU x0.2.2.1 (rQ x0.1 x1)))))))
def bKn:KK:=mB Tryz.func12 [.v iT,.v (.int .i64)] [.int .i64] [bJR,bJU,bJX,bKa,bKd,bKg,bKj,bKm] P12 (KL,()) λ_=>aL<|lT pr<|aL<|lT pr<|aL<|lT pr<|aL<|lT pr<|aL<|lT pr<|aL<|lT pr<|aL<|lT pr<|aL<|dS pr pr
def d3:gC:=D0 H7 [.v iT,.v (.str)] [.bool] [kx4,kx6,kx5,kx7,kx8,kx9,bIv,bHU,bKn,bHW]
def P3(x0:bF)(x1:Δ):Prop:=if decide ((↑(aG x1):Int)>1048576)then True else P4 x0 1048576/\if decide (aIR x0 1048576<0)then True else P6 x0/\P5 (cX x0) x1/\P6 x0/\P7 (cX x0) x1/\if !aB6 (dR (cX x0) x1) (aMb (cX x0) x1)then True else if !aPy (DI (cX x0) x1) (aMc (cX x0) x1)then True else if SS (cX x0) x1 != aMd (cX x0) x1 then True else P6 x0/\if !aB6 (cX x0) (cX x0)then True else P10 (cX x0) 1/\aF (dU (cX x0) 1).1=aF (cX x0).1/\aF (dU (cX x0) 1).2.2.1=aF (cX x0).2.2.1/\aF (dU (cX x0) 1).2.2.2.1=aF (cX x0).2.2.2.1/\aF (dU (cX x0) 1).2.2.2.2.2.2.1=aF (cX x0).2.2.2.2.2.2.1/\aF (dU (cX x0) 1).2.2.2.2.2.2.2.2.1=aF (cX x0).2.2.2.2.2.2.2.2.1/\aF (dU (cX x0) 1).2.2.2.2.2.2.2.2.2.1=aF (cX x0).2.2.2.2.2.2.2.2.2.1/\aF (dU (cX x0) 1).2.2.2.2.2.2.2.2.2.2.1=aF (cX x0).2.2.2.2.2.2.2.2.2.2.1/\aF (dU (cX x0) 1).2.2.2.2.2.2.2.2.2.2.2.1=aF (cX x0).2.2.2.2.2.2.2.2.2.2.2.1/\if decide (w6 (cX x0) 1<0)then True else P10 (dR (cX x0) x1) 1/\aF (dU (dR (cX x0) x1) 1).1=aF (dR (cX x0) x1).1/\aF (dU (dR (cX x0) x1) 1).2.2.1=aF (dR (cX x0) x1).2.2.1/\aF (dU (dR (cX x0) x1) 1).2.2.2.1=aF (dR (cX x0) x1).2.2.2.1/\aF (dU (dR (cX x0) x1) 1).2.2.2.2.2.2.1=aF (dR (cX x0) x1).2.2.2.2.2.2.1/\aF (dU (dR (cX x0) x1) 1).2.2.2.2.2.2.2.2.1=aF (dR (cX x0) x1).2.2.2.2.2.2.2.2.1/\aF (dU (dR (cX x0) x1) 1).2.2.2.2.2.2.2.2.2.1=aF (dR (cX x0) x1).2.2.2.2.2.2.2.2.2.1/\aF (dU (dR (cX x0) x1) 1).2.2.2.2.2.2.2.2.2.2.1=aF (dR (cX x0) x1).2.2.2.2.2.2.2.2.2.2.1/\aF (dU (dR (cX x0) x1) 1).2.2.2.2.2.2.2.2.2.2.2.1=aF (dR (cX x0) x1).2.2.2.2.2.2.2.2.2.2.2.1/\P11 (DI (cX x0) x1) (w6 (dR (cX x0) x1) 1)/\aF (Ii (DI (cX x0) x1) (w6 (dR (cX x0) x1) 1))=aF (DI (cX x0) x1)/\P12 ((dU (dR (cX x0) x1) 1).1,(dR (cX x0) x1).2.1,(dU (dR (cX x0) x1) 1).2.2.1,(dU (dR (cX x0) x1) 1).2.2.2.1,(dR (cX x0) x1).2.2.2.2.1,(dR (cX x0) x1).2.2.2.2.2.1,(dU (dR (cX x0) x1) 1).2.2.2.2.2.2.1,(dR (cX x0) x1).2.2.2.2.2.2.2.1,(dU (dR (cX x0) x1) 1).2.2.2.2.2.2.2.2) 1/\if decide (KL ((dU (dR (cX x0) x1) 1).1,(dR (cX x0) x1).2.1,(dU (dR (cX x0) x1) 1).2.2.1,(dU (dR (cX x0) x1) 1).2.2.2.1,(dR (cX x0) x1).2.2.2.2.1,(dR (cX x0) x1).2.2.2.2.2.1,(dU (dR (cX x0) x1) 1).2.2.2.2.2.2.1,(dR (cX x0) x1).2.2.2.2.2.2.2.1,(dU (dR (cX x0) x1) 1).2.2.2.2.2.2.2.2) 1<0)then True else P13 (Ii (DI (cX x0) x1) (w6 (dR (cX x0) x1) 1)) (KL ((dU (dR (cX x0) x1) 1).1,(dR (cX x0) x1).2.1,(dU (dR (cX x0) x1) 1).2.2.1,(dU (dR (cX x0) x1) 1).2.2.2.1,(dR (cX x0) x1).2.2.2.2.1,(dR (cX x0) x1).2.2.2.2.2.1,(dU (dR (cX x0) x1) 1).2.2.2.2.2.2.1,(dR (cX x0) x1).2.2.2.2.2.2.2.1,(dU (dR (cX x0) x1) 1).2.2.2.2.2.2.2.2) 1)/\if decide (be (Ii (DI (cX x0) x1) (w6 (dR (cX x0) x1) 1)) (KL ((dU (dR (cX x0) x1) 1).1,(dR (cX x0) x1).2.1,(dU (dR (cX x0) x1) 1).2.2.1,(dU (dR (cX x0) x1) 1).2.2.2.1,(dR (cX x0) x1).2.2.2.2.1,(dR (cX x0) x1).2.2.2.2.2.1,(dU (dR (cX x0) x1) 1).2.2.2.2.2.2.1,(dR (cX x0) x1).2.2.2.2.2.2.2.1,(dU (dR (cX x0) x1) 1).2.2.2.2.2.2.2.2) 1)<0)then True else if be (Ii (DI (cX x0) x1) (w6 (dR (cX x0) x1) 1)) (KL ((dU (dR (cX x0) x1) 1).1,(dR (cX x0) x1).2.1,(dU (dR (cX x0) x1) 1).2.2.1,(dU (dR (cX x0) x1) 1).2.2.2.1,(dR (cX x0) x1).2.2.2.2.1,(dR (cX x0) x1).2.2.2.2.2.1,(dU (dR (cX x0) x1) 1).2.2.2.2.2.2.1,(dR (cX x0) x1).2.2.2.2.2.2.2.1,(dU (dR (cX x0) x1) 1).2.2.2.2.2.2.2.2) 1) != bc (DI (cX x0) x1) (w6 (dR (cX x0) x1) 1)then True else P6 x0/\P7 (cX x0) x1/\P12 ((dU (dR (cX x0) x1) 1).1,(dR (cX x0) x1).2.1,(dU (dR (cX x0) x1) 1).2.2.1,(dU (dR (cX x0) x1) 1).2.2.2.1,(dR (cX x0) x1).2.2.2.2.1,(dR (cX x0) x1).2.2.2.2.2.1,(dU (dR (cX x0) x1) 1).2.2.2.2.2.2.1,(dR (cX x0) x1).2.2.2.2.2.2.2.1,(dU (dR (cX x0) x1) 1).2.2.2.2.2.2.2.2) 1/\P13 (Ii (DI (cX x0) x1) (w6 (dR (cX x0) x1) 1)) (KL ((dU (dR (cX x0) x1) 1).1,(dR (cX x0) x1).2.1,(dU (dR (cX x0) x1) 1).2.2.1,(dU (dR (cX x0) x1) 1).2.2.2.1,(dR (cX x0) x1).2.2.2.2.1,(dR (cX x0) x1).2.2.2.2.2.1,(dU (dR (cX x0) x1) 1).2.2.2.2.2.2.1,(dR (cX x0) x1).2.2.2.2.2.2.2.1,(dU (dR (cX x0) x1) 1).2.2.2.2.2.2.2.2) 1)/\True
def aPz(x0:bF)(x1:Δ):Bool:=if decide ((↑(aG x1):Int)>1048576)then true else if decide (aIR x0 1048576<0)then true else if !aB6 (dR (cX x0) x1) (aMb (cX x0) x1)then false else if !aPy (DI (cX x0) x1) (aMc (cX x0) x1)then false else if SS (cX x0) x1 != aMd (cX x0) x1 then false else if !aB6 (cX x0) (cX x0)then false else if decide (w6 (cX x0) 1<0)then false else if decide (KL ((dU (dR (cX x0) x1) 1).1,(dR (cX x0) x1).2.1,(dU (dR (cX x0) x1) 1).2.2.1,(dU (dR (cX x0) x1) 1).2.2.2.1,(dR (cX x0) x1).2.2.2.2.1,(dR (cX x0) x1).2.2.2.2.2.1,(dU (dR (cX x0) x1) 1).2.2.2.2.2.2.1,(dR (cX x0) x1).2.2.2.2.2.2.2.1,(dU (dR (cX x0) x1) 1).2.2.2.2.2.2.2.2) 1<0)then false else if decide (be (Ii (DI (cX x0) x1) (w6 (dR (cX x0) x1) 1)) (KL ((dU (dR (cX x0) x1) 1).1,(dR (cX x0) x1).2.1,(dU (dR (cX x0) x1) 1).2.2.1,(dU (dR (cX x0) x1) 1).2.2.2.1,(dR (cX x0) x1).2.2.2.2.1,(dR (cX x0) x1).2.2.2.2.2.1,(dU (dR (cX x0) x1) 1).2.2.2.2.2.2.1,(dR (cX x0) x1).2.2.2.2.2.2.2.1,(dU (dR (cX x0) x1) 1).2.2.2.2.2.2.2.2) 1)<0)then false else if be (Ii (DI (cX x0) x1) (w6 (dR (cX x0) x1) 1)) (KL ((dU (dR (cX x0) x1) 1).1,(dR (cX x0) x1).2.1,(dU (dR (cX x0) x1) 1).2.2.1,(dU (dR (cX x0) x1) 1).2.2.2.1,(dR (cX x0) x1).2.2.2.2.1,(dR (cX x0) x1).2.2.2.2.2.1,(dU (dR (cX x0) x1) 1).2.2.2.2.2.2.1,(dR (cX x0) x1).2.2.2.2.2.2.2.1,(dU (dR (cX x0) x1) 1).2.2.2.2.2.2.2.2) 1) != bc (DI (cX x0) x1) (w6 (dR (cX x0) x1) 1)then false else true
def kx3:KK:=mA d3 (DO H7) P3 (aPz,()) λ_=>lT pr<|aL<|lT pr<|aL<|aL<|aL<|aL<|bH<|ba (λb2=>jM<|jM pr) λb2=>bH<|ba (λb3=>jM pr) λb3=>ba (λb4=>pr) λb4=>aL<|bH<|lT pr<|UE<|UE<|UE<|lT (jM<|jM<|jM pr)<|bH<|pkF b2<|bH<|pkF b3<|pkF b4<|UE<|UE<|UE<|cP<|aL<|ba (λb7=>pr) λb7=>aL<|ba (λb8=>pr) λb8=>ba (λb9=>pr) λb9=>aL<|aL<|bH<|pkF b2<|bH<|pkF b3<|pkF b4<|aL<|pkF b7<|aL<|pkF b8<|pkF b9 pr
end
def TX(d:bF)(w r:Δ)(a:Option (Γ Δ×bF)):Prop:=P90 d w r/\zE d w r=a.isSome/\(a.isSome=true->D7 d w r=dt a)/\yD d w r=dq d a
variable {d:bF} {r:Δ}
theorem aP0(hd:Vd d)(hr:r.size<=1048576):TX d (aA #[98,101,110,100]) r (uJ d (aA #[98,101,110,100],r,[],[],())):=by
 obtain⟨p,e1,e0⟩:=(aLO hr);have q:=(UT d.1).1 hd.1;rw[aPq hd.1];unfold TX P90 D7 zE yD;simp (decide:=true) only[bC];by_cases c:yF r=true
 ·have h:¬(!EN r)=true:=by lia
  rw[π c,e0 c];exact⟨⟨p,(ν h).mpr ⟨⟨q.1.2,by lia⟩,(uK _).1,trivial⟩⟩,ν h,λ_=>(ν h).trans (E9 _),ν h⟩
 ·have h:(!EN r)=true:=by lia
  rw[ν c];exact⟨⟨p,(π h).mpr trivial⟩,π h,λk=>(by grind),π h⟩
theorem aH2(hd:Vd d)(hr:r.size<=1048576):TX d (aA #[119,111,114,107,101,114]) r (uJ d (aA #[119,111,114,107,101,114],r,[],[],())):=by
 obtain⟨p,e1,e0⟩:=(show aKG r/\ER r=wM r/\(wM r=true->J4 r=lJ r)from⟨(SX r hr).1,(SX r hr).2.2.2.symm,λ_=>(SX r hr).2.2.1.symm⟩);have q:=(LG d.2.2.2.2.2.2.1).1 hd.2.2.2.2.2.2.1;rw[aHz hd.2.2.2.2.2.2.1];unfold TX P90 D7 zE yD;simp (decide:=true) only[bC];by_cases c:wM r=true
 ·have h:¬(!ER r)=true:=by lia
  rw[π c,e0 c];exact⟨⟨p,(ν h).mpr ⟨⟨q.1.2,by lia⟩,(uK _).1,trivial⟩⟩,ν h,λ_=>(ν h).trans (E9 _),ν h⟩
 ·have h:(!ER r)=true:=by lia
  rw[ν c];exact⟨⟨p,(π h).mpr trivial⟩,π h,λk=>(by grind),π h⟩
theorem aP1(hd:Vd d)(hr:r.size<=1048576):TX d (aA #[102,97,114,101]) r (uJ d (aA #[102,97,114,101],r,[],[],())):=by
 obtain⟨p,e1,e0⟩:=(aLP hr);have q:=(UU d.2.2.2.2.2.2.2.2.1).1 hd.2.2.2.2.2.2.2.2.1;rw[aPr hd.2.2.2.2.2.2.2.2.1];unfold TX P90 D7 zE yD aCs N0 N1 N2;simp (decide:=true) only[bC];by_cases c:yG r=true
 ·have h:¬(!ET r)=true:=by lia
  rw[π c,e0 c];exact⟨⟨⟨p,(ν h).mpr ⟨⟨q.1.2,by lia⟩,(uK _).1,trivial⟩⟩,trivial⟩,ν h,λ_=>(ν h).trans (E9 _),ν h⟩
 ·have h:(!ET r)=true:=by lia
  rw[ν c];exact⟨⟨⟨p,(π h).mpr trivial⟩,trivial⟩,π h,λk=>(by grind),π h⟩
theorem aH3(hd:Vd d)(hr:r.size<=1048576):TX d (aA #[104,101,108,112,101,114]) r (uJ d (aA #[104,101,108,112,101,114],r,[],[],())):=by
 obtain⟨p,e1,e0⟩:=(show aKN r/\EU r=wN r/\(wN r=true->J7 r=lK r)from⟨(Nw hr).1,(Nw hr).2.1,λ_=>(Nw hr).2.2⟩);have q:=(LH d.2.2.2.2.2.2.2.2.2.2.1).1 hd.2.2.2.2.2.2.2.2.2.2.1;rw[aH0 hd.2.2.2.2.2.2.2.2.2.2.1];unfold TX P90 D7 zE yD aCs N0 N1 N2;simp (decide:=true) only[bC];by_cases c:wN r=true
 ·have h:¬(!EU r)=true:=by lia
  rw[π c,e0 c];exact⟨⟨⟨p,(ν h).mpr ⟨⟨q.1.2,by lia⟩,(uK _).1,trivial⟩⟩,trivial⟩,ν h,λ_=>(ν h).trans (E9 _),ν h⟩
 ·have h:(!EU r)=true:=by lia
  rw[ν c];exact⟨⟨⟨p,(π h).mpr trivial⟩,trivial⟩,π h,λk=>(by grind),π h⟩
theorem aP2(hd:Vd d)(hr:r.size<=1048576):TX d (aA #[116,97,115,107]) r (uJ d (aA #[116,97,115,107],r,[],[],())):=by
 obtain⟨p,e1,e0⟩:=(show aKN r/\EU r=wN r/\(wN r=true->J7 r=lK r)from⟨(Nw hr).1,(Nw hr).2.1,λ_=>(Nw hr).2.2⟩);have q:=(UV d.2.2.2.2.2.2.2.2.2.2.2.1).1 hd.2.2.2.2.2.2.2.2.2.2.2;rw[aPs hd.2.2.2.2.2.2.2.2.2.2.2];unfold TX P90 D7 zE yD aCs N0 N1 N2;simp (decide:=true) only[bC];by_cases c:wN r=true
 ·have h:¬(!EU r)=true:=by lia
  rw[π c,e0 c];exact⟨⟨⟨p,(ν h).mpr ⟨⟨q.1.2,by lia⟩,(uK _).1,trivial⟩⟩,trivial⟩,ν h,λ_=>(ν h).trans (E9 _),ν h⟩
 ·have h:(!EU r)=true:=by lia
  rw[ν c];exact⟨⟨⟨p,(π h).mpr trivial⟩,trivial⟩,π h,λk=>(by grind),π h⟩
theorem aP3(hd:Vd d)(hr:r.size<=1048576):TX d (aA #[114,111,112,101]) r (uJ d (aA #[114,111,112,101],r,[],[],())):=by
 obtain⟨p,e1,e0⟩:=aLM hr;rw[aPv];unfold TX P90 D7 zE yD;simp (decide:=true) only[bC];by_cases c:Gu r=true
 ·have h:EP r=true:=e1.trans c;rw[π c,e0];exact⟨⟨p,trivial⟩,(π h).trans h,λ_=>π h,π h⟩
 ·have h:¬EP r=true:=by lia
  rw[ν c];exact⟨⟨p,trivial⟩,(ν h).trans (bV.2 h),λk=>(by grind),ν h⟩
theorem aMe(hd:Vd d)(hr:r.size<=1048576):TX d (aA #[109,111,116,111,114]) r (uJ d (aA #[109,111,116,111,114],r,[],[],())):=by
 obtain⟨p,e1,e0⟩:=aHv hr;rw[aLY];unfold TX P90 D7 zE yD;simp (decide:=true) only[bC];by_cases c:Gv r=true
 ·have h:EQ r=true:=e1.trans c;rw[π c,e0];exact⟨⟨p,trivial⟩,(π h).trans h,λ_=>π h,π h⟩
 ·have h:¬EQ r=true:=by lia
  rw[ν c];exact⟨⟨p,trivial⟩,(ν h).trans (bV.2 h),λk=>(by grind),ν h⟩
theorem aMf(hd:Vd d)(hr:r.size<=1048576):TX d (aA #[98,97,115,105,110]) r (uJ d (aA #[98,97,115,105,110],r,[],[],())):=by
 obtain⟨p,e1,e0⟩:=aHw hr;rw[aLZ];unfold TX P90 D7 zE yD;simp (decide:=true) only[bC];by_cases c:Gw r=true
 ·have h:ES r=true:=e1.trans c;rw[π c,e0];exact⟨⟨p,trivial⟩,(π h).trans h,λ_=>π h,π h⟩
 ·have h:¬ES r=true:=by lia
  rw[ν c];exact⟨⟨p,trivial⟩,(ν h).trans (bV.2 h),λk=>(by grind),ν h⟩
theorem aP4(hd:Vd d)(hr:r.size<=1048576):TX d (aA #[104,111,117,114]) r (uJ d (aA #[104,111,117,114],r,[],[],())):=by
 obtain⟨p,e1,e0⟩:=aLN hr;have hl:=(w9 hd.2.2.1).1;rw[aPt hl];unfold TX P90 D7 zE yD;simp (decide:=true) only[bC];by_cases c:AH r=true
 ·have h:¬(!o5 r)=true:=by lia
  rw[π c,e0];by_cases q:(d.2.2.1.length:Int)=48
  ·have k:((d.2.2.1.length:Int)==48)=true:=beq_iff_eq.2 q;rw[π q,π q];exact⟨⟨p,(ν h).mpr ((π k).mpr ⟨(uK _).1,trivial⟩)⟩,(ν h).trans (π k),λ_=>(ν h).trans ((π k).trans (E9 _)),(ν h).trans (π k)⟩
  ·have k:¬((d.2.2.1.length:Int)==48)=true:=λh=>q (beq_iff_eq.1 h);rw[ν q,ν q];exact⟨⟨p,(ν h).mpr ((ν k).mpr ⟨by lia,by grind,(uK _).1,trivial⟩)⟩,(ν h).trans (ν k),λ_=>(ν h).trans ((ν k).trans (E9 _)),(ν h).trans (ν k)⟩
 ·have h:(!o5 r)=true:=by lia
  rw[ν c];exact⟨⟨p,(π h).mpr trivial⟩,π h,λk=>(by grind),π h⟩
theorem aP5(hd:Vd d)(hr:r.size<=1048576):TX d (aA #[116,101,115,116]) r (uJ d (aA #[116,101,115,116],r,[],[],())):=by
 obtain⟨p,_,e0,e1⟩:=aPj r hr;obtain⟨p2,f0,f1⟩:=aXN hd.2.2.2.2.2.2.2.2.2.1 (rB r);rw[aPu];unfold TX P90 D7 zE yD aCs N0 N1 N2;simp (decide:=true) only[bC];by_cases c:C6 r=true
 ·have h:¬(!Cg r)=true:=by lia
  rw[π c, <- e0];by_cases q:EC d.2.2.2.2.2.2.2.2.2.1 (rB r)=0
  ·have k:(AD d.2.2.2.2.2.2.2.2.2.1 (rB r)==0)=true:=beq_iff_eq.2 (f1.trans q);rw[π q, <- f0, <- f1];exact⟨⟨⟨p,(ν h).mpr ⟨p2,(π k).mpr ⟨(uK _).1,trivial⟩⟩⟩,trivial⟩,(ν h).trans (π k),λ_=>(ν h).trans ((π k).trans (E9 _)),(ν h).trans (π k)⟩
  ·have k:¬(AD d.2.2.2.2.2.2.2.2.2.1 (rB r)==0)=true:=λh=>q (f1.symm.trans (beq_iff_eq.1 h));rw[ν q, <- f1];exact⟨⟨⟨p,(ν h).mpr ⟨p2,(ν k).mpr ⟨(uK _).1,trivial⟩⟩⟩,trivial⟩,(ν h).trans (ν k),λ_=>(ν h).trans ((ν k).trans (E9 _)),(ν h).trans (ν k)⟩
 ·have h:(!Cg r)=true:=by lia
  rw[ν c];exact⟨⟨⟨p,(π h).mpr trivial⟩,trivial⟩,π h,λk=>(by grind),π h⟩
end Go.Proofs.YtbaoaedmbhpolaaGreatDoor
set_option maxRecDepth 100000
namespace Go.Proofs.YtbaoaedmbhpolaaGreatDoor
open Go Go.Am Go.Proofs
def aMg{l:Γ UInt8}{b:UInt8}(hb:b∈l)(h:b≠32):fO l 32≠[]:=λe=>by
 have e:=List.reverse_eq_nil_iff.1 e;have key:∀l:Γ UInt8,l.dropWhile (· == 32)=[]->∀b∈l,b=32:=λl=>by
  induction l with
  | nil=>simp
  | cons a r ih =>
   intro hd b hb;by_cases q:(a==32)=true
   ·rw[List.dropWhile_cons]at hd
    grind
   simp_all
 exact h (key _ e b (List.mem_reverse.2 hb))
def aFt(h:Γ Int){c:Δ}(r:Γ Δ){b:UInt8}(hb:b∈c.data.toList)(h32:b≠32):vR h (c::r)≠aA #[]:=λe=>by
 have e:=congrArg (λx=>x.data.toList) e;refine aMg ?_ h32 (show fO (uC ((tU h 0 (c::r)).map λx=>x.data.toList) [32,32]) 32=[] from e);rw[tU,dY,pD,YP];simp[hb]
def aP6(xs:Γ b6):∀s∈BN xs,s≠aA #[]:=by
 intro s hs;unfold BN at hs;split at hs
 ·rename_i hv;rw[FL]at hv;obtain⟨hl,ho⟩:=zn hv;unfold E7 at hs;split at hs
  ·grind
  ·unfold HC at hs;split at hs
   ·grind
   ·obtain⟨r,hr,rfl⟩:=cW.1 hs;rcases bA.1 hr with rfl | hr
    ·exact aFt _ _ (b:=100) (by simp) (by lia)
    ·obtain⟨x,hx,rfl⟩:=cW.1 hr;obtain⟨a,b,c,e1,e2,p1,p2,ha,hb,hc⟩:=SV (YR (ho x hx)).1;obtain⟨y,hy⟩:=List.exists_mem_of_length_pos (l:=(dT a b c).data.toList) (show 0<(dT a b c).size by simp[aPh]);have hz:=(aFm (a:=a) hb (show c<=31 by lia)).1;unfold Dc;rw[e1];refine aFt _ _ hy (λq=>?_);have:=hz (y.toNat:Int) (by unfold cD;grind);simp_all
 grind
def aZu(d:bF):∀s∈AP d,s≠aA #[]:=by
 intro s hs;unfold AP at hs;split at hs
 ·unfold SR P8 at hs;simp at hs;have k:∀(w:Δ) (n:Int),P9 w n≠aA #[]:=λw n e=>by
   have:=congrArg aG e;unfold P9 at this;rw[dH,dH]at this;have z:(aA #[32]).size=1:=rfl;have z2:(aA #[]).size=0:=rfl
   lia
  grind
 grind
theorem aP7(d:bF):(AP d).length<=9:=by
 unfold AP;split
 ·exact aU _
 simp
theorem aMh(x:bF):NT x=AP x/\NU x=KG x:=by
 have e:P9=yd:=rfl;have e1:SR=Tl:=rfl;have e2:P8 x=Tm x:=rfl;unfold AP KG NT NU;rw[W0]
 lia
abbrev NMS:Γ Δ:=[aA #[98,97,115,105,110],aA #[98,101,110,100],aA #[99,111,118,101,114],aA #[100,117,101],aA #[101,118,101,110,116],aA #[102,97,114,101],aA #[102,105,108,108],aA #[104,101,108,112],aA #[104,101,108,112,101,114],aA #[104,111,117,114],aA #[108,105,109,105,116],aA #[109,111,116,111,114],aA #[112,111,119,101,114],aA #[113,117,101,117,101],aA #[114,101,112,111,114,116],aA #[114,101,115,101,114,118,101],aA #[114,111,112,101],aA #[114,117,110,110,105,110,103],aA #[115,104,111,119],aA #[115,108,111,119,101,115,116],aA #[116,97,115,107],aA #[116,101,115,116],aA #[116,114,105,112,115],aA #[118,111,116,101],aA #[119,97,116,101,114],aA #[119,111,114,107,101,114]]
abbrev OTS:Γ Δ:=[aA #[118,111,116,101],aA #[116,114,105,112,115],aA #[113,117,101,117,101]]
abbrev TBL:Γ Δ:=[aA #[118,111,116,101],aA #[116,114,105,112,115],aA #[113,117,101,117,101],aA #[115,108,111,119,101,115,116],aA #[114,101,115,101,114,118,101],aA #[108,105,109,105,116],aA #[112,111,119,101,114],aA #[101,118,101,110,116],aA #[99,111,118,101,114],aA #[119,97,116,101,114],aA #[100,117,101]]
abbrev TXW:Γ Δ:=[aA #[98,101,110,100],aA #[114,111,112,101],aA #[104,111,117,114],aA #[109,111,116,111,114],aA #[119,111,114,107,101,114],aA #[98,97,115,105,110],aA #[102,97,114,101],aA #[116,101,115,116],aA #[104,101,108,112,101,114],aA #[116,97,115,107]]
abbrev ALW:Γ Δ:=[aA #[114,117,110,110,105,110,103],aA #[102,105,108,108],aA #[114,101,112,111,114,116],aA #[115,104,111,119],aA #[104,101,108,112]]
theorem SY(w:Δ):KH aKA w=true↔w∈NMS:=by
 show decide (Nu aKA w>=0)=true↔_;rw[aYX,Fa];exact⟨λ⟨y,hy,h⟩=>(bC _ _).1 h ▸ hy,λh=>⟨w,h,(bC _ _).2 rfl⟩⟩
def Eb(d:bF)(x:Δ):Option (Γ Δ×bF):=if BX x=true then uJ d (hY x)else none
def rc(d:bF)(p:CMD×Bool):Option (Γ Δ×bF):=if p.2=true then uJ d p.1 else none
variable {d:bF} {x:Δ}
theorem aZx(h:400<x.size):Eb d x=none:=by
 unfold Eb BX Pa;rw[π h];rfl
theorem bGT(h:¬400<x.size)(hn:(gD x).getD 0 aC ∉ NMS):Eb d x=none:=by
 unfold Eb BX Pa;rw[ν h,π (bV.2 λq=>hn ((SY _).1 q))];rfl
def bGU{x w:Δ}(h:¬400<x.size)(hw:(gD x).getD 0 aC=w)(hn:w∈NMS)(hk:cU w=aA #[116]):Eb d x=if EG x (aA #[32])=true then uJ d (w,eD x (aA #[32]),[],[],())else none:=by
 have hk:An x=aA #[116]:=by grind [An]
 have nf:¬KH aKA w=false:=λq=>Sh (((SY _).2 hn).symm.trans q);unfold Eb BX hY Pa
 lia
theorem YV{x w k:Δ}(h:¬400<x.size)(hw:(gD x).getD 0 aC=w)(hn:w∈NMS)(hk:cU w=k)(h1:k≠aA #[116]):An x=k/\Eb d x=if(gD x).length=k.size+1 then rc d (yx x (LU x k.size 0 [] []))else none:=by
 have hk:An x=k:=by grind [An]
 have nf:¬KH aKA w=false:=λq=>Sh (((SY _).2 hn).symm.trans q);refine⟨hk,?_⟩;unfold Eb BX hY Pa;rw[hw,hk,ν h,ν nf,ν h1];by_cases c:(gD x).length=k.size+1
 ·rw[π c,π c]<;>rfl
 ·rw[ν c,ν c]<;>rfl
theorem aMi(x1:Γ Δ):∀(k i:Nat) (n r:Γ Int),Co x1 k i n=some r->r.length=n.length+k:=by
 intro k
 induction k with
 | zero=>intro i n r h;cases h;rfl
 | succ k ih =>
  grind [Co]
theorem bGV{c:Nat}(hj:∀j,j<c->Cl x j=110):∀(k i:Nat) (n l:Γ Int),i+k=c->LU x k i n l=(Co (gD x) k (1+i) n).map (λr=>(r,l)):=by
 intro k
 induction k with
 | zero=>intro i n l _;rfl
 | succ k ih =>
  intro i n l hi;rw[LU,Co]
  grind
theorem aZy{x w:Δ}(hw:(gD x).getD 0 aC=w)(o:Option (Γ Int)):rc d (yx x (o.map λr=>(r,[])))=o.bind λn=>uJ d (w,aA #[],n,[],()):=by
 subst hw;cases o with
 | none=>rfl
 | some n=>rfl
theorem sk{w v:Δ}{l:Γ Δ}{k n:Nat}(h:w ∉ l)(hv:v∈l):¬(w=v/\n=k):=λq=>h (q.1 ▸ hv)
def T4{x w k:Δ}{c:Nat}(h:¬400<x.size)(hw:(gD x).getD 0 aC=w)(hn:w∈NMS)(hk:cU w=k)(h1:k≠aA #[116])(hs:k.size=c)(hj:∀j,j<c->((k.data.toList.getD j 0).toNat:Int)=110)
  (hp:∀n,dW d w n tW=if n.length=c then uJ d (w,aA #[],n,[],())else none) (ho:w ∉ OTS) (hl:1<=(gD x).length):Eb d x=xC d (gD x):=by
 obtain⟨e,r⟩:=YV (d:=d) h hw hn hk h1;have hj:∀j,j<c->Cl x j=110:=λj q=>by grind [Cl]
 rw[r,hs,bGV hj c 0 [] [] (cO _),aZy hw];unfold xC ZG Lg Ea lA;rw[hw,ν (sk (v:=aA #[118,111,116,101]) ho (by simp)),ν (sk (v:=aA #[116,114,105,112,115]) ho (by simp)),ν (sk (v:=aA #[113,117,101,117,101]) ho (by simp))];by_cases q:(gD x).length=c+1
 ·rw[π q,show (gD x).length-1=c by lia];cases z:Co (gD x) c 1 [] with
  | none=>rfl
  | some n =>
   have:=aMi _ _ _ _ _ z
   grind
 ·rw[ν q];cases z:Co (gD x) ((gD x).length-1) 1 [] with
  | none=>rfl
  | some n =>
   have:=aMi _ _ _ _ _ z
   grind
theorem aMj{x1:Γ Δ}(h:x1.getD 0 aC ∉ TBL):xC d x1=none:=by
 unfold xC ZG Lg Ea lA;rw[ν (sk (v:=aA #[118,111,116,101]) h (by simp)),ν (sk (v:=aA #[116,114,105,112,115]) h (by simp)),ν (sk (v:=aA #[113,117,101,117,101]) h (by simp))];cases Co x1 (x1.length-1) 1 [] with
 | none=>rfl
 | some n =>
  unfold tW;simp[dW];simp_all
theorem aDn(d:bF)(n:Γ Int):dW d (aA #[115,108,111,119,101,115,116]) n tW=if n.length=1 then uJ d (aA #[115,108,111,119,101,115,116],aA #[],n,[],())else none:=by
 simp[tW,dW]
theorem aDo(d:bF)(n:Γ Int):dW d (aA #[114,101,115,101,114,118,101]) n tW=if n.length=1 then uJ d (aA #[114,101,115,101,114,118,101],aA #[],n,[],())else none:=by
 simp[tW,dW]
theorem aMk(d:bF)(n:Γ Int):dW d (aA #[108,105,109,105,116]) n tW=if n.length=3 then uJ d (aA #[108,105,109,105,116],aA #[],n,[],())else none:=by
 simp[tW,dW]
theorem aMl(d:bF)(n:Γ Int):dW d (aA #[112,111,119,101,114]) n tW=if n.length=2 then uJ d (aA #[112,111,119,101,114],aA #[],n,[],())else none:=by
 simp[tW,dW]
theorem aMm(d:bF)(n:Γ Int):dW d (aA #[101,118,101,110,116]) n tW=if n.length=1 then uJ d (aA #[101,118,101,110,116],aA #[],n,[],())else none:=by
 simp[tW,dW]
theorem aMn(d:bF)(n:Γ Int):dW d (aA #[99,111,118,101,114]) n tW=if n.length=2 then uJ d (aA #[99,111,118,101,114],aA #[],n,[],())else none:=by
 simp[tW,dW]
theorem aMo(d:bF)(n:Γ Int):dW d (aA #[119,97,116,101,114]) n tW=if n.length=5 then uJ d (aA #[119,97,116,101,114],aA #[],n,[],())else none:=by
 simp[tW,dW]
theorem aZz(d:bF)(n:Γ Int):dW d (aA #[100,117,101]) n tW=if n.length=2 then uJ d (aA #[100,117,101],aA #[],n,[],())else none:=by
 simp[tW,dW]
theorem kt{x w:Δ}(hw:(gD x).getD 0 aC=w)(n l:Γ Int):rc d (yx x (some (n,l)))=uJ d (w,aA #[],n,l,()):=by subst hw;rfl
theorem aZ0(h:¬400<x.size)(hw:(gD x).getD 0 aC=aA #[118,111,116,101])(hl:1<=(gD x).length):Eb d x=xC d (gD x):=by
 obtain⟨e,r⟩:=YV (d:=d) (k:=aA #[108,110]) h hw (by simp) (by simp[cU]) (by lia);have k0:Cl x 0=108:=by unfold Cl;simp_all
 have k1:Cl x 1=110:=by unfold Cl;simp_all
 have s:(aA #[108,110]:Δ).size=2:=rfl;rw[r,s];unfold xC ZG Lg;by_cases q:(gD x).length=2+1
 ·rw[π q,π ⟨hw,q⟩];unfold aDm;simp (decide:=true) only[LU,k0,k1,if_true,if_false];by_cases c0:o4 (lA (gD x) 1)=true
  rotate_left
  ·rw[ν c0,ν c0];rfl
  rw[π c0,π c0];by_cases c1:gK (lA (gD x) 2)=true
  rotate_left
  ·rw[ν c1,ν c1];rfl
  grind [kt]
 ·rw[ν q,ν (λh=>q h.2),ν (λq=>by lia),ν (λq=>by lia)];unfold Ea;cases Co (gD x) ((gD x).length-1) 1 [] with
  | none=>rfl
  | some n =>
   rw[hw];rfl
theorem aP8(h:¬400<x.size)(hw:(gD x).getD 0 aC=aA #[116,114,105,112,115])(hl:1<=(gD x).length):Eb d x=xC d (gD x):=by
 obtain⟨e,r⟩:=YV (d:=d) (k:=aA #[108]) h hw (by simp) (by simp[cU]) (by lia);have k0:Cl x 0=108:=by unfold Cl;simp_all
 have s:(aA #[108]:Δ).size=1:=rfl;rw[r,s];unfold xC ZG Lg;by_cases q:(gD x).length=1+1
 ·rw[π q,ν (λq=>by lia),π ⟨hw,q⟩];unfold kq;simp (decide:=true) only[LU,k0];by_cases c0:o4 (lA (gD x) 1)=true
  rotate_left
  ·rw[ν c0,ν c0];rfl
  grind [kt]
 ·rw[ν q,ν (λq=>by lia),ν (λh=>q h.2),ν (λq=>by lia)];unfold Ea;cases Co (gD x) ((gD x).length-1) 1 [] with
  | none=>rfl
  | some n =>
   rw[hw];rfl
theorem aP9(h:¬400<x.size)(hw:(gD x).getD 0 aC=aA #[113,117,101,117,101])(hl:1<=(gD x).length):Eb d x=xC d (gD x):=by
 obtain⟨e,r⟩:=YV (d:=d) (k:=aA #[97,110,110]) h hw (by simp) (by simp[cU,decide,bC,if_true,if_false]) (by lia);have k0:Cl x 0=97:=by unfold Cl;simp_all
 have k1:Cl x 1=110:=by unfold Cl;simp_all
 have k2:Cl x 2=110:=by grind [Cl]
 have s:(aA #[97,110,110]:Δ).size=3:=rfl;rw[r,s];unfold xC ZG Lg;by_cases q:(gD x).length=3+1
 ·rw[π q,ν (λq=>by lia),ν (λq=>by lia),π ⟨hw,q⟩];unfold kr;simp (decide:=true) only[LU,k0,k1,k2,if_true,if_false,List.nil_append];by_cases c0:rC (lA (gD x) 1)=true
  rotate_left
  ·rw[ν c0,ν c0];rfl
  rw[π c0,π c0];by_cases c1:gK (lA (gD x) 2)=true
  rotate_left
  ·rw[ν c1,ν c1];rfl
  rw[π c1,π c1];by_cases c2:gK (lA (gD x) 3)=true
  rotate_left
  ·rw[ν c2,ν c2];rfl
  grind [kt]
 ·rw[ν q,ν (λq=>by lia),ν (λq=>by lia),ν (λh=>q h.2)];unfold Ea;cases Co (gD x) ((gD x).length-1) 1 [] with
  | none=>rfl
  | some n =>
   rw[hw];rfl
def AL(d:bF)(x:Δ)(a:Option (Γ Δ×bF)):Prop:=P89 d x/\PP d x=a.isSome/\(a.isSome=true->PO d x=dt a)/\dq d a=d
theorem aDp(hd:Vd d):AL d (aA #[114,117,110,110,105,110,103]) (uJ d (aA #[114,117,110,110,105,110,103],aA #[],[],[],())):=by
 have z:=Pj (Iv d.2.2.2.1 d.2.2.1) (aZn (x0:=d.2.2.2.1) (x1:=d.2.2.1));rw[aDh];unfold AL P89 PO PP;simp (decide:=true) only[bC];exact⟨⟨z.1,trivial⟩,rfl,λ_=>z.2,rfl⟩
theorem aPA(hd:Vd d):AL d (aA #[102,105,108,108]) (uJ d (aA #[102,105,108,108],aA #[],[],[],())):=by
 have z:=Pj (RG d.2.2.2.2.2.2.2.2.2.2.1 d.2.2.2.2.2.2.2.2.2.2.2.1) (aLJ (x0:=d.2.2.2.2.2.2.2.2.2.2.1) (x1:=d.2.2.2.2.2.2.2.2.2.2.2.1) (by have:=xx hd.2.2.2.2.2.2.2.2.2.2.1;lia) (by have:=xy hd.2.2.2.2.2.2.2.2.2.2.2;lia));rw[aPn];unfold AL P89 PO PP;simp (decide:=true) only[bC];exact⟨⟨z.1,trivial⟩,rfl,λ_=>z.2,rfl⟩
theorem aH4(hd:Vd d):AL d (aA #[114,101,112,111,114,116]) (uJ d (aA #[114,101,112,111,114,116],aA #[],[],[],())):=by
 have z:=HG (BN d.2.2.2.2.2.2.2.2.2.1) (KF d.2.2.2.2.2.2.2.2.2.1) (by have:=(Ao d.2.2.2.2.2.2.2.2.2.1).2.2.2.2;rw[(Ao d.2.2.2.2.2.2.2.2.2.1).2.2.1];lia) (.inl (aP6 _));rw[aHy];unfold AL P89 PO PP;simp (decide:=true) only[bC];rw[(Ao d.2.2.2.2.2.2.2.2.2.1).2.2.1,(Ao d.2.2.2.2.2.2.2.2.2.1).2.2.2.1]at *;exact⟨⟨(Ao d.2.2.2.2.2.2.2.2.2.1).2.1,z.1,trivial⟩,rfl,λ_=>z.2,rfl⟩
theorem aPB(hd:Vd d):AL d (aA #[115,104,111,119]) (uJ d (aA #[115,104,111,119],aA #[],[],[],())):=by
 have z:=HG (AP d) (KG d) (by grind [aP7]) (.inl (aZu d));rw[aPo];unfold AL P89 PO PP;simp (decide:=true) only[bC];rw[(aMh d).1,(aMh d).2];exact⟨⟨z.1,trivial⟩,rfl,λ_=>z.2,rfl⟩
theorem aPC(hd:Vd d):AL d (aA #[104,101,108,112]) (uJ d (aA #[104,101,108,112],aA #[],[],[],())):=by
 rw[aPp];unfold AL P89 PO PP;simp (decide:=true) only[bC];exact⟨trivial,rfl,λ_=>rfl,rfl⟩
theorem aPD(h:x ∉ ALW):AL d x none:=by
 simp at h;obtain⟨h1,h2,h3,h4,h5⟩:=h;unfold AL P89 PO PP;simp only[bC,h1,h2,h3,h4,h5];exact⟨trivial,rfl,λk=>(by rfl),rfl⟩
theorem aPE{w r:Δ}(h:w ∉ TXW):TX d w r none:=by
 simp at h;obtain⟨h1,h2,h3,h4,h5,h6,h7,h8,h9,h10⟩:=h;unfold TX P90 D7 zE yD aCs N0 N1 N2;simp only[bC,h1,h2,h3,h4,h5,h6,h7,h8,h9,h10];exact⟨⟨trivial,trivial⟩,rfl,λk=>(by rfl),rfl⟩
theorem aZ1(hd:Vd d){w r:Δ}(hr:r.size<=1048576)(h:w∈TXW):TX d w r (uJ d (w,r,[],[],())):=by
 simp at h;rcases h with rfl | rfl | rfl | rfl | rfl | rfl | rfl | rfl | rfl | rfl
 ·grind [aP0]
 ·grind [aP3]
 ·grind [aP4]
 ·grind [aMe]
 all_goals grind [aH2,aMf,aP1,aP5,aH3,aP2]
theorem aMp{x w:Δ}(h:¬400<x.size)(hw:(gD x).getD 0 aC=w)(ht:w∈TXW):Eb d x=if EG x (aA #[32])=true then uJ d (w,eD x (aA #[32]),[],[],())else none:=by
 simp at ht;rcases ht with rfl | rfl | rfl | rfl | rfl | rfl | rfl | rfl | rfl | rfl <;> exact bGU h hw (by simp) (by simp[cU])
theorem aFu{x w:Δ}(h:¬400<x.size)(hw:(gD x).getD 0 aC=w)(ht:w∈ALW):Eb d x=if(gD x).length=1 then uJ d (w,aA #[],[],[],())else none:=by
 have key:cU w=aA #[]/\w∈NMS:=by
  simp at ht;rcases ht with rfl | rfl | rfl | rfl | rfl <;> exact⟨by simp[cU],by simp⟩
 rw[(YV (d:=d) h hw key.2 key.1 (by lia)).2];by_cases c:(gD x).length=1
 ·rw[π c,π (show (gD x).length=(aA #[]).size+1 from c)];exact kt hw [] []
 ·rw[ν c,ν (show ¬(gD x).length=(aA #[]).size+1 from c)]
theorem aFv(h:¬400<x.size)(hl:1<=(gD x).length)(ht:(gD x).getD 0 aC∈TBL):Eb d x=xC d (gD x):=by
 simp at ht;rcases ht with ht | ht | ht | ht | ht | ht | ht | ht | ht | ht | ht
 ·grind [aZ0]
 ·grind [aP8]
 ·grind [aP9]
 ·exact T4 (k:=aA #[110]) (c:=1) h ht (by simp) (by simp[cU,decide,bC,if_true]) (by lia) rfl (by simp) (aDn d) (by simp) hl
 ·exact T4 (k:=aA #[110]) (c:=1) h ht (by simp) (by simp[cU,decide,if_false]) (by lia) rfl (by simp) (aDo d) (by simp) hl
 ·exact T4 (k:=aA #[110,110,110]) (c:=3) h ht (by simp) (by simp[cU,bC,if_true]) (by lia) rfl (by decide) (aMk d) (by simp) hl
 ·exact T4 (k:=aA #[110,110]) (c:=2) h ht (by simp) (by simp[cU,decide,bC,if_true,if_false]) (by lia) rfl (by decide) (aMl d) (by simp) hl
 ·exact T4 (k:=aA #[110]) (c:=1) h ht (by simp) (by simp[cU,decide,bC,if_true,if_false]) (by lia) rfl (by simp) (aMm d) (by simp) hl
 ·exact T4 (k:=aA #[110,110]) (c:=2) h ht (by simp) (by simp[cU,decide,bC,if_false]) (by lia) rfl (by decide) (aMn d) (by simp) hl
 ·exact T4 (k:=aA #[110,110,110,110,110]) (c:=5) h ht (by simp) (by simp[cU,decide,bC,if_true,if_false]) (by lia) rfl (by decide) (aMo d) (by simp) hl
 ·exact T4 (k:=aA #[110,110]) (c:=2) h ht (by simp) (by simp[cU,decide,bC,if_true,if_false]) (by lia) rfl (by decide) (aZz d) (by simp) hl
theorem bGW{x1:Γ Δ}(h:x1.length=1):xC d x1=none:=by
 unfold xC ZG Lg Ea;rw[h,ν (λq=>absurd q.2 (by lia)),ν (λq=>absurd q.2 (by lia)),ν (λq=>absurd q.2 (by lia))];show dW d (x1.getD 0 aC) [] tW=none;simp[tW,dW]
theorem zx{w:Δ}(h:w∈NMS):w∈TXW\/w∈ALW\/w∈TBL:=by
 simp at h;simp;lia
theorem bGX{w:Δ}(h:w∈TXW):w ∉ TBL:=by
 simp at h;rcases h with rfl | rfl | rfl | rfl | rfl | rfl | rfl | rfl | rfl | rfl <;> simp (decide:=true)
def aZ2(hd:Vd d)(h:¬400<x.size)(hw:gD x=[x])(hc:EG x (aA #[32])=false):AL d x (Eb d x):=by
 have h0:(gD x).getD 0 aC=x:=by grind
 have hl:(gD x).length=1:=by grind
 by_cases c:x∈ALW
 ·rw[aFu h h0 c]
  all_goals grind [aDp,aPA,aH4,aPB,aPC]
 ·have e:Eb d x=none:=by
   by_cases t:x∈TXW
   ·rw[aMp h h0 t,hc];rfl
   ·all_goals grind [aFv,bGW,bGT,zx]
  grind [aPD]
theorem aPF(x:Δ):bU x 32=gD x:=(zW 32 x).symm
def DOP(d:bF)(x:Δ)(a:Option (Γ Δ×bF)):Prop:=P24 d x/\T3 d x=a.isSome/\(a.isSome=true->zv d x=dt a)/\zw d x=dq d a
def aZ3(hd:Vd d)(hx:x.size<=1048576):DOP d x (Eb d x):=by
 unfold DOP P24 zv T3 zw;by_cases h:400<x.size
 ·have hq:decide ((x.size:Int)>400)=true:=decide_eq_true (by lia);rw[aZx h];exact⟨(π hq).mpr trivial,π hq,λk=>(by grind),π hq⟩
 have hq:¬decide ((x.size:Int)>400)=true:=by lia
 have p6:P88 x 32:=⟨by lia,by lia,by lia⟩;rw[aPF];obtain⟨⟨l⟩⟩:=x;by_cases hs:(32:UInt8)∈l
 ·obtain⟨p,q,rfl,hp⟩:=List.eq_append_cons_of_mem hs;have hcut:lC (aA ⟨p++32::q⟩).data.toList (aA #[32]).data.toList=(p,q,true):=UC 32 q hp;have hc1:eD ⟨⟨p++32::q⟩⟩ (aA #[32])=⟨⟨q⟩⟩:=by grind [eD]
  have hc2:EG ⟨⟨p++32::q⟩⟩ (aA #[32])=true:=by grind [EG]
  have hz:(aA ⟨p++32::q⟩).size=p.length+(q.length+1):=by show (p++32::q).length=_;simp
  have hzp:(aA ⟨p⟩).size=p.length:=rfl;have hr:(aA ⟨q⟩).size<=1048576:=by show q.length<=_;lia
  have hw:gD ⟨⟨p++32::q⟩⟩=⟨⟨p⟩⟩::bss (dB 32 q):=by
   rw[<- aPF];show bss (dB 32 (p++32::q))=_;rw[nJ 32 q hp];rfl
  have e0:(gD ⟨⟨p++32::q⟩⟩).getD 0 aC=⟨⟨p⟩⟩:=by grind
  have hparts:∀y∈gD ⟨⟨p++32::q⟩⟩,y.size<=1048576:=λy hy=>by
   have:=sX (aA #[32]) 0 _ _ _ hy
   lia
  have hlen:(gD ⟨⟨p++32::q⟩⟩).length<=1048576:=by
   rw[<- aPF];show (bss (dB 32 (p++32::q))).length<=_;have hb:(bss (dB 32 (p++32::q))).length=(dB 32 (p++32::q)).length:=eV ..
   grind [List.count_le_length,oV,bS,cH]
  have h2:2<=(gD ⟨⟨p++32::q⟩⟩).length:=by
   grind [cH,bss,dB,eV,oV]
  have hex:aO ⟨⟨p++32::q⟩⟩ (aE (((aA ⟨p⟩).size:Int)+1)) (aE ((aA ⟨p++32::q⟩).size:Int))=⟨⟨q⟩⟩:=by
   have e1:aE (((aA ⟨p⟩).size:Int)+1)=p.length+1:=by lia
   have e2:aE ((aA ⟨p++32::q⟩).size:Int)=p.length+(q.length+1):=by lia
   rw[e1,e2,Lib.extract_mk];have e3:(p++32::q).drop (p.length+1)=q:=by
    simp
   rw[e3,List.take_of_length_le (by lia)]
  have hn1:¬(((gD ⟨⟨p++32::q⟩⟩).length:Int)==1)=true:=by lia
  generalize hW:gD ⟨⟨p++32::q⟩⟩=W at *;rw[e0,hex];obtain⟨a,ha,h1,h3⟩:∃a,TX d ⟨⟨p⟩⟩ ⟨⟨q⟩⟩ a/\(a.isSome=true->Eb d ⟨⟨p++32::q⟩⟩=a)/\(a=none->Eb d ⟨⟨p++32::q⟩⟩=xC d W):=by
   have e0':(gD ⟨⟨p++32::q⟩⟩).getD 0 aC=⟨⟨p⟩⟩:=by lia
   by_cases t:(⟨⟨p⟩⟩:Δ)∈TXW
   ·have r:=aMp (d:=d) h e0' t;rw[π hc2,hc1]at r
    grind [aZ1,aMj,bGX]
   ·refine⟨none,aPE t,λk=>(by grind),λ_=>?_⟩;by_cases b:(⟨⟨p⟩⟩:Δ)∈TBL
    ·grind [aFv]
    ·rw[aMj (by lia)];by_cases c:(⟨⟨p⟩⟩:Δ)∈ALW
     ·rw[aFu h e0' c,ν (by lia)]
     grind [bGT,zx]
  obtain⟨a1,a2,a3,a4⟩:=ha;have b1:aX .i64 (((aA ⟨p⟩).size:Int)+1):=by grind [aJ]
  have b2:(0:Int)<=((aA ⟨p⟩).size:Int)+1:=by lia
  have b3:((aA ⟨p⟩).size:Int)+1<=((aA ⟨p++32::q⟩).size:Int):=by lia
  have b0:(0:Int)<(W.length:Int):=by lia
  cases a with
  | some v =>
   grind
  | none =>
   have g:¬zE d ⟨⟨p⟩⟩ ⟨⟨q⟩⟩=true:=by grind
   have a4:yD d ⟨⟨p⟩⟩ ⟨⟨q⟩⟩=d:=a4;rw[h3 rfl,a4];exact⟨(ν hq).mpr ⟨p6,(ν hn1).mpr ⟨b0,b0,b1,b2,b3,a1,(ν g).mpr ⟨⟨hd,⟨by lia,hlen⟩,hparts⟩,trivial⟩⟩⟩,(ν hq).trans ((ν hn1).trans (ν g)),λ_=>(ν hq).trans ((ν hn1).trans (ν g)),(ν hq).trans ((ν hn1).trans (ν g))⟩
 ·have hcut:lC (aA ⟨l⟩).data.toList (aA #[32]).data.toList=(l,[],false):=VZ 32 hs;have hc2:EG ⟨⟨l⟩⟩ (aA #[32])=false:=by grind [EG]
  have hw:gD ⟨⟨l⟩⟩=[⟨⟨l⟩⟩]:=by
   rw[<- aPF];show bss (dB 32 l)=_;rw[lE 32 hs];rfl
  have h1:(((gD ⟨⟨l⟩⟩).length:Int)==1)=true:=by grind
  obtain⟨a1,a2,a3,a4⟩:=aZ2 hd h hw hc2
  lia
theorem YW:SS d x≠0->dR d x=([],(0,0,0,0,()),[],[],(0,0,0,()),(0,0,0,()),[],(0,0,0,0,()),[],[],[],[],())/\DI d x=[]:=by
 let Q:bF->Γ Δ->Int->Prop:=λa b c=>c≠0->a=([],(0,0,0,0,()),[],[],(0,0,0,()),(0,0,0,()),[],(0,0,0,0,()),[],[],[],[],())/\b=[]
 show Q _ _ _;refine FU (λ_ _=>⟨rfl,rfl⟩) λ_=>FU (λ_ _=>⟨rfl,rfl⟩) λ_=>FU (λ_ _=>⟨rfl,rfl⟩) λ_=>FU (λ_ h=>absurd rfl h) λ_=>?_;intro h;exfalso;revert h;simp
theorem l0:P39 ([],(0,0,0,0,()),[],[],(0,0,0,()),(0,0,0,()),[],(0,0,0,0,()),[],[],[],[],()):=⟨aY _,aY _,aY _,aY _,aY _,aY _,aY _,aY _,trivial⟩
def aZ4(hv:zC d=true)(hx:x.size<=1048576):P39 (dR d x):=by
 obtain⟨_,_,k⟩:=aFq hv hx;rcases k with k | ⟨_,k,_⟩
 ·rw[(YW (by rw[k];decide)).1];exact l0
 ·exact Ph k
def bGY(hv:zC d=true)(hx:x.size<=1048576):P24 d x/\(T3 d x=false/\SS d x=8\/T3 d x=true/\SS d x=0/\DI d x=zv d x/\dR d x=zw d x):=by
 obtain⟨a,b,c,e⟩:=aZ3 ((aCX d).1 hv) hx;obtain⟨s,n⟩:=aPk hv x;refine⟨a,?_⟩;rw[e];unfold Eb at *;cases hr:BX x with
 | false =>
  rw[hr]at b;exact .inl ⟨b,n (.inl hr)⟩
 | true =>
  rw[π hr]at b c;rw[π rfl];cases ha:uJ d (hY x)with
  | none =>
   rw[ha]at b;exact .inl ⟨b,n (.inr ha)⟩
  | some o =>
   rw[ha]at b c;have:=s hr o ha;exact .inr ⟨b,this.1,by rw[c rfl];exact this.2.1,this.2.2⟩
theorem zy{n s:Nat}(h:n<=1048576)(hs:s<=40:=by decide):(0+n)*s<=140737488355328:=by
 have:=yO h hs;rw[cO];omega
theorem aPG(h:P39 d):P23 d:=by
 obtain⟨a,b,c,d,e,f,g,i,_⟩:=h;exact⟨zy a,zy b,zy c,zy d,zy e,zy f,zy g,zy i,trivial⟩
def aMq(d:bF)(hx:x.size<=1048576):P7 d x/\P5 d x/\aMb d x=dR d x/\aMc d x=DI d x/\aMd d x=SS d x/\P39 (dR d x)/\(DI d x).length<=1048576:=by
 have e:TF d=d:=rfl;unfold P5 aMb aMc aMd;rw[e, <- W0];cases hv:zC d with
 | false =>
  have h2:SS d x=1:=by
   unfold SS;rw[hv];rfl
  have hz:=YW (d:=d) (x:=x) (by rw[h2];decide);rw[hz.1,hz.2,h2];refine⟨?_,trivial,rfl,rfl,rfl,l0,aY _⟩;unfold P7;rw[hv];trivial
 | true =>
  obtain⟨p,f,_⟩:=aFq hv hx;obtain⟨a,b⟩:=bGY hv hx;have o:=aPG (Ph ((aCX d).1 hv));refine⟨p,⟨o,a,trivial⟩,?_⟩;rcases b with ⟨b,c⟩ | ⟨b,c,b1,b0⟩
  ·have hz:=YW (d:=d) (x:=x) (by rw[c];decide);rw[b,hz.1,hz.2,c];exact⟨rfl,rfl,rfl,l0,aY _⟩
  ·have:=aZ4 hv hx;have:=f.1;rw[b,c,b1,b0]at *;exact⟨rfl,rfl,rfl,by assumption,by omega⟩
theorem szN{p P2 B:Prop}{a g2 l:Int}{n:Nat}(hi:l<=1048576)(h:p/\(¬a<0->a<=l-n))(k:0<=a->a<=1048576->P2/\(¬g2<0->B)):(p/\if decide (a<0)=true then True else P2)/\(¬(if decide (a<0)=true then -1 else g2)<0->n<=1048576/\B):=by
 by_cases c:a<0
 ·rw[π (decide_eq_true c),π (decide_eq_true c)];exact⟨⟨h.1,trivial⟩,λq=>absurd (by decide) q⟩
 ·have d:=h.2 c;have e:=k (by omega) (by omega);rw[ν (by simpa using c),ν (by simpa using c)];exact⟨⟨h.1,e.1⟩,λq=>⟨by omega,e.2 q⟩⟩
theorem szE{p:Prop}{a l:Int}{n:Nat}(hi:l<=1048576)(h:p/\(¬a<0->a<=l-n)):(p/\True)/\(¬(if decide (a<0)=true then -1 else a)<0->n<=1048576/\True):=by
 refine⟨⟨h.1,trivial⟩,λq=>⟨?_,trivial⟩⟩;by_cases c:a<0
 ·rw[π (decide_eq_true c)]at q;exact absurd (by decide) q
 ·have d:=h.2 c;omega
theorem sz1{α:Type}{p:α->Int->Prop}{g:α->Int->Int}{q:α->Prop}(hz:gk p g q){x:Γ α}{l:Int}(h0:0<=l)(hi:l<=1048576)(hw:∀y∈x,q y):0<=l/\(¬szF g x l<0->szF g x l<=l-x.length):=⟨h0,aSo hz h0 (by omega) hw⟩
theorem szC{α:Type}{x:Γ α}{l:Int}(h0:0<=l)(hi:l<=1048576)(hm:x.length<=maxLen):(aX .i64 (l-x.length)/\True)/\(¬(if decide (l-(x.length:Int)<0)=true then -1 else l-(x.length:Int))<0->(if decide (l-(x.length:Int)<0)=true then -1 else l-(x.length:Int))<=l-x.length):=by
 have hm:x.length<=9223372036854775807:=hm;refine⟨⟨by rw[aJ];omega,trivial⟩,λh=>?_⟩;split at h
 ·exact absurd (by decide) h
 ·rename_i c;rw[ν c];exact Int.le_refl _
abbrev LS(x:bF):Prop:=P39 x
theorem aPH(x:bF)(hw:Wf iT x):P4 x 1048576/\(¬aIR x 1048576<0->LS x) :=
 szN (by decide) (sz1 bAD (by decide) (by decide) hw.1.2) λa b=>szN b (szC a b hw.2.2.1.1) λa b=>szN b (szC a b hw.2.2.2.1.1) λa b=>szN b (sz1 bAG a b hw.2.2.2.2.2.2.1.2) λa b=>szN b (sz1 bAJ a b hw.2.2.2.2.2.2.2.2.1.2) λa b=>szN b (szC a b hw.2.2.2.2.2.2.2.2.2.1.1) λa b=>szN b (sz1 bAM a b hw.2.2.2.2.2.2.2.2.2.2.1.2) λa b=>szE b (sz1 bAP a b hw.2.2.2.2.2.2.2.2.2.2.2.1.2)
theorem zz{n:Nat}{c:Nat}(h:n<=1048576)(hc:c<=40:=by decide):(c:Int)*(n:Int)<=281474976710656:=by
 have:=yO hc h;have e:(c:Int)*(n:Int)=((c*n:Nat):Int):=by simp
 rw[e];omega
theorem aPI{x:bF}(h:LS x):P6 x:=by
 obtain⟨a,b,c,d,e,f,g,i,_⟩:=h;exact⟨zz (c:=40) a,zz (c:=24) b,zz (c:=24) c,zz (c:=32) d,zz (c:=40) e,zz (c:=24) f,zz (c:=32) g,zz (c:=32) i,trivial⟩
theorem hdN{p P2:Prop}{a g2 b:Int}(h:p)(h0:0<=a)(k:P2/\g2=b):(p/\if decide (a<0)=true then True else P2)/\(if decide (a<0)=true then -1 else g2)=b:=by
 rw[ν (by simp;omega),ν (by simp;omega)];exact⟨⟨h,k.1⟩,k.2⟩
theorem hdE{p:Prop}{a:Int}(h:p)(h0:0<=a):(p/\True)/\(if decide (a<0)=true then -1 else a)=a:=by
 rw[ν (by simp;omega)];exact⟨⟨h,trivial⟩,rfl⟩
theorem du{x:bF}(h:LS x):P10 x 1/\0<=w6 x 1/\w6 x 1<=40000000/\P12 (dU x 1) 1/\KL (dU x 1) 1=w6 x 1:=by
 obtain⟨l0,l1,l2,l3,l4,l5,l6,l7,_⟩:=h;have a0:=(show MK P54 sG aDP P63 rQ from mkA (t:=iZ)) (show (0:Int)<=1 by decide) (by decide) l0;have a1:=(show MK P55 vE aDQ P64 uU from aSp) a0.2.2.1 (by omega) l1;have a2:=(show MK P56 zA aDR P65 yK from aSp) a1.2.2.1 (by omega) l2;have a3:=(show MK P57 CO aDS P66 BY from mkB (t:=iZ)) a2.2.2.1 (by omega) l3;have a4:=(show MK P58 Hc aDT P67 FY from mkA (t:=iZ)) a3.2.2.1 (by omega) l4;have a5:=(show MK P59 Ou aDU P68 Lh from aSp) a4.2.2.1 (by omega) l5;have a6:=(show MK P60 bf aDV P69 YU from mkB (t:=iZ)) a5.2.2.1 (by omega) l6;have a7:=(show MK P61 aIP aDW P70 aFs from mkB (t:=iZ)) a6.2.2.1 (by omega) l7;refine⟨⟨a0.1,a0.2.1,a1.1,a1.2.1,a2.1,a2.2.1,a3.1,a3.2.1,a4.1,a4.2.1,a5.1,a5.2.1,a6.1,a6.2.1,a7.1,a7.2.1,trivial⟩,a7.2.2.1,?_,?_⟩
 ·unfold w6;omega
 ·unfold P12 KL dU
  dsimp only
  rw[a0.2.2.2.2.2,a1.2.2.2.2.2,a2.2.2.2.2.2,a3.2.2.2.2.2,a4.2.2.2.2.2,a5.2.2.2.2.2,a6.2.2.2.2.2,a7.2.2.2.2.2];exact hdN a0.2.2.2.2.1 a0.2.2.1<|hdN a1.2.2.2.2.1 a1.2.2.1<|hdN a2.2.2.2.2.1 a2.2.2.1<|hdN a3.2.2.2.2.1 a3.2.2.1<|hdN a4.2.2.2.2.1 a4.2.2.1<|hdN a5.2.2.2.2.1 a5.2.2.1<|hdN a6.2.2.2.2.1 a6.2.2.1<|hdE a7.2.2.2.2.1 a7.2.2.1
theorem aPJ(x:bF):aB6 x x=true:=by
 simp[aB6,aID,aIF,aIG,aIJ,aIL,aIM,aIN,aIO,aIE,V6,aII,aIK]
def aH5{l:Γ Δ}(h:l.length<=1048576){k:Int}(h0:0<=k)(h1:k<=100000000):P11 l k/\P13 (Ii l k) k/\0<=bc l k/\be (Ii l k) k=bc l k :=
 have a:=Go.Am.mkS (t:=iZ) h0 h1 h
 ⟨a.1,a.2.2.2.2.1,a.2.2.1,a.2.2.2.2.2⟩
theorem bHa(d:bF):(dU d 1).1.length=d.1.length/\(dU d 1).2.2.1.length=d.2.2.1.length/\(dU d 1).2.2.2.1.length=d.2.2.2.1.length/\(dU d 1).2.2.2.2.2.2.1.length=d.2.2.2.2.2.2.1.length/\(dU d 1).2.2.2.2.2.2.2.2.1.length=d.2.2.2.2.2.2.2.2.1.length/\(dU d 1).2.2.2.2.2.2.2.2.2.1.length=d.2.2.2.2.2.2.2.2.2.1.length/\(dU d 1).2.2.2.2.2.2.2.2.2.2.1.length=d.2.2.2.2.2.2.2.2.2.2.1.length/\(dU d 1).2.2.2.2.2.2.2.2.2.2.2.1.length=d.2.2.2.2.2.2.2.2.2.2.2.1.length:=⟨vX .., vX .., vX .., vX .., vX .., vX .., vX .., vX ..⟩
theorem bHb(d:bF):((dU d 1).1,d.2.1,(dU d 1).2.2.1,(dU d 1).2.2.2.1,d.2.2.2.2.1,d.2.2.2.2.2.1,(dU d 1).2.2.2.2.2.2.1,d.2.2.2.2.2.2.2.1,(dU d 1).2.2.2.2.2.2.2.2)=dU d 1:=rfl
theorem bHc(l:Γ Δ)(k:Int):(Ii l k).length=l.length:=vX ..
theorem bKp(x:bF)(s:Δ)(hx:Wf iT x)(_:Wf .str s):P3 x s/\aPz x s=true:=by
 unfold P3 aPz;by_cases h:(s.size:Int)>1048576
 ·simp only[h,decide_true,if_true,and_self]
 obtain⟨p,q⟩:=aPH x hx;by_cases c:aIR x 1048576<0
 ·simp only[h,c,p,decide_true,decide_false,gE,if_true,if_false,and_self]
 have hl:=q c;have e:cX x=x:=rfl;have p1:=aPI hl;obtain⟨m1,m2,m3,_,_⟩:=du hl;obtain⟨a1,a2,a3,a4,a5,a6,a7⟩:=aMq x (x:=s) (by omega);obtain⟨n1,n2,n3,n4,n5⟩:=du a6;obtain⟨s1,s2,s3,s4⟩:=aH5 a7 n2 (by omega);have m4:¬w6 x 1<0:=by omega
 have n6:¬w6 (dR x s) 1<0:=by omega
 have s5:¬bc (DI x s) (w6 (dR x s) 1)<0:=by omega
 simp only[h,c,p,e,bHa,bHb,bHc,p1,a1,a2,a3,a4,a5,m1,m4,n1,n4,n5,n6,s1,s2,s4,s5,aPJ,aPy,decide_true,decide_false,gE,if_false,true_and,and_true,vJ,bne_self_eq_false,beq_self_eq_true,and_self]
end Go.Proofs.YtbaoaedmbhpolaaGreatDoor
