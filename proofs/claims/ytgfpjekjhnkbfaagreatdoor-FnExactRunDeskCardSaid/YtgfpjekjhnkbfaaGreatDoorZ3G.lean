/- The functions that this law reaches, and their laws. -/
import Derived.Test.YtgfpjekjhnkbfaaGreatDoorZ3F
set_option linter.unusedVariables false
set_option linter.unusedSimpArgs false
set_option linter.defProp false
open Bool renaming and_eq_true->aV,eq_false_iff->cG,false_eq_true->fU,noConfusion->SD,not_true->u0
open ByteArray renaming data->bO,empty->aC,extract->aN,mk->aA,size->aG,size_append->bD,size_extract->nA,toList->aB
open Classical renaming byContradiction->jA
open False renaming elim->aH
open Go.Am.aS renaming mk->aJ
open Go.Am.jC renaming mk->fO
open Go.Lib renaming cut->lF,joinTail->iY,join_cons->o7,trimRightB->fE
open Int renaming eq_ofNat_of_zero_le->eU,tdiv->aP,toNat->aE,toNat_natCast->aI
open List renaming any_eq_false->fG,count_le_length->A6,count_pos_iff->qU,drop_zero->gP,getD->aD,length->aF,length_cons->cL,length_map->cM,map_congr_left->pF,map_cons->dG,mem_append->cY,mem_cons->aW,mem_cons_of_mem->aM,mem_cons_self->aR,mem_map->dK,replicate->aQ
open Nat renaming le_refl->aT,le_trans->dV,zero_add->bX,zero_le->bG
set_option maxRecDepth 100000
namespace Go.Proofs.YtgfpjekjhnkbfaaGreatDoor
open Go Go.Am Go.Proofs
def Oy{d:c7}(h:lA d=true):(0<=d.2.1/\d.2.1<=2)/\0<=d.2.2.1/\d.2.2.1<=3:=by
 unfold lA at h;split at h
 ·lia
 ·split at h
  ·lia
  ·split at h
   ·rename_i c;exact⟨wi c,wi h⟩
   lia
theorem bCG{x a b:Int}(h:a<=x/\x<=b):bH x a b=true:=by rw[aB9];lia
theorem Oz{p t r:Int}(hp:p=1\/p=3)(ht:0<=t/\t<=2)(hr:0<=r/\r<=3):lA (p,t,r,())=true:=by
 unfold lA I9;rw[bCG (x:=p) (by lia),bCG ht,bCG hr]
 lia
theorem aUF{d:c7}(h:lA d=true):lA (Vi d)=true:=by
 obtain⟨t,r⟩:=Oy h;unfold Vi;split
 ·lia
 ·have hp:d.1=1\/d.1=3:=by
   grind [I9]
  split
  ·grind [Oz]
  ·split
   ·rfl
   ·split
    ·rfl
    ·exact Oz (.inr rfl) (by lia) r
theorem aCh{d:c7}(h:lA d=true)(e:Int):lA (Qc d e)=true:=by
 obtain⟨t,r⟩:=Oy h;have m1:lA (1,0,0,())=true:=Oz (.inl rfl) (by lia) (by lia);have m3:lA (3,0,0,())=true:=Oz (.inr rfl) (by lia) (by lia);have mb:¬decide (d.2.2.1<3)=false->lA (1,0,d.2.2.1+1,())=true:=λq=>Oz (.inl rfl) (by lia) (by
  lia)
 grind [aUF,Qc]
def aG9{d:c7}(h:lA d=true)(e:Int)(hc:¬(sL d e != 0)=true):lA (xR d e)=true:=by
 unfold sL at hc;unfold xR;split at hc
 ·lia
 ·split at hc
  ·lia
  ·split at hc
   ·lia
   ·grind [aCh]
def aL0(x:Int):(rK x).size<=8/\∀s:Δ,rK x++aA #[47]++s≠aA #[]:=by
 refine⟨?_,λs e=>?_⟩
 ·unfold rK;split
  ·exact bG _
  ·rename_i c;have w:=wi (nb c);have:x=0\/x=1\/x=2\/x=3:=by lia
   rcases this with rfl | rfl | rfl | rfl <;> decide
 ·have:=congrArg aG e;rw[bD,bD,show (aA #[47]).size=1 from rfl,show (aA #[]).size=0 from rfl]at this
  lia
def aAA{d:c7}(h:lA d=true):aZa d/\(zH d).size<=60/\zH d=rK d.1++aA #[47]++dF d.2.1++aA #[47]++dF d.2.2.1:=by
 obtain⟨t,r⟩:=Oy h;have n1:=(aL0 d.1).1;have s1:=J1 (x:=d.2.1) (by grind [aK]);have s2:=J1 (x:=d.2.2.1) (by grind [aK]);have i1:(aA #[47]).size=1:=rfl;have hn:aYZ d.1:=by
  exact F0 λc=>by have w:=wi (nb c);lia
 have e:zH d=rK d.1++aA #[47]++dF d.2.1++aA #[47]++dF d.2.2.1:=by
  grind [zH]
 refine⟨?_,?_,e⟩
 ·refine F0 λ_=>⟨hn,?_⟩;simp only[bD];exact⟨by lia,aST _,by lia,by lia,aST _,by lia,trivial⟩
 grind
def aRr{l:Γ c7}(h:xG l=true):l.length<=8:=(sW h).1
variable {d:bV}
def Xx(hd:Vd d)(c:Δ×Δ×Γ Int×Γ Int×Unit)(h1:(aB c.1==aB (aA #[101,118,101,110,116]))=true->1<=c.2.2.1.length)(h2:(aB c.1==aB (aA #[101,118,101,110,116]))=false->3<=c.2.2.1.length):P78 d c:=by
 obtain⟨v1,v2,v3,v4,v5,v6,v7,v8,v9,v10,v11,v12⟩:=hd;have hl:=aRr v4;exact rC (λq=>⟨by lia,Yn _ _,F0 λk=>⟨(aAA (aG9 v6 _ k)).1,trivial⟩⟩) λq=>by
  exact⟨by lia,by lia,by lia,F0 λ_=>⟨aQm (by lia) _ _,trivial⟩⟩
def CQ(o:Γ Δ)(k:Int)(y:bV):Prop:=Few o/\(k=0->Vd y/\(o=[aA #[111,107]]\/∃x s,o=[rK x++aA #[47]++s]))
def aN3(hd:Vd d)(c:Δ×Δ×Γ Int×Γ Int×Unit):CQ (Sa d c) (Sb d c) (Sc d c):=by
 obtain⟨v1,v2,v3,v4,v5,v6,v7,v8,v9,v10,v11,v12⟩:=hd;refine Ky (λ_=>Ky (λq=>?a) λq=>?b) λ_=>Ky (λq=>?c) λq=>?d
 case a =>
  refine⟨aG3,λk=>?_⟩
  lia
 case b =>
  have hv:=aG9 v6 (c.2.2.1.getD 0 0) (by lia);obtain⟨_,z,e⟩:=aAA hv;refine⟨aG2 (by lia),λ_=>⟨⟨v1,v2,v3,v4,v5,hv,v7,v8,v9,v10,v11,v12⟩,.inr ?_⟩⟩
  grind [ByteArray.append_assoc]
 case c=>exact⟨aG3,λk=>(by lia)⟩
 case d =>
  have hx:qK (c.2.2.1.getD 0 0,c.2.2.1.getD 1 0,c.2.2.1.getD 2 0,())=true:=by
   lia
  exact⟨aG2 (by decide),λk=>⟨⟨v1,v2,v3,aUC v4 hx k,v5,v6,v7,v8,v9,v10,v11,v12⟩,.inl rfl⟩⟩
def eqw(s w:Δ):Prop:=(aB s==aB w)=true
def PA:Δ:=ByteArray.mk #[115,108,111,119,101,115,116]
def PB:Δ:=ByteArray.mk #[114,101,115,101,114,118,101]
def aCi:Δ:=ByteArray.mk #[112,111,119,101,114]
def aL1:Δ:=ByteArray.mk #[118,111,116,101]
def Xy:Δ:=ByteArray.mk #[119,97,116,101,114]
def aJH:Δ:=ByteArray.mk #[99,111,118,101,114]
def aJI:Δ:=ByteArray.mk #[113,117,101,117,101]
def bCH:Δ:=ByteArray.mk #[100,117,101]
def aJJ:Δ:=ByteArray.mk #[101,118,101,110,116]
def aJK:Δ:=ByteArray.mk #[108,105,109,105,116]
abbrev CMD:Type:=Δ×Δ×Γ Int×Γ Int×Unit
def Cn(c:CMD):Prop:=(eqw c.1 PA->1<=c.2.2.1.length)/\(eqw c.1 PB->1<=c.2.2.1.length)/\(eqw c.1 aCi->2<=c.2.2.1.length)/\(eqw c.1 aL1->1<=c.2.2.1.length)/\(eqw c.1 Xy->5<=c.2.2.1.length)/\(eqw c.1 aJH->2<=c.2.2.1.length)/\(eqw c.1 aJI->2<=c.2.2.1.length)/\(eqw c.1 bCH->2<=c.2.2.1.length)/\(eqw c.1 aJJ->1<=c.2.2.1.length)/\(eqw c.1 aJK->3<=c.2.2.1.length)
variable {c:CMD}
def C4(hd:Vd d)(hc:Cn c)(hw:eqw c.1 PA\/eqw c.1 PB\/eqw c.1 aCi\/eqw c.1 aL1\/eqw c.1 Xy):aIU d c:=by
 obtain⟨k1,k2,k3,k4,k5,_⟩:=hc;refine rC (λq=>⟨by lia,aFV _ _ (λh=>XC h),trivial⟩) λq1=>rC (λq=>⟨by lia,aFT _ _,trivial⟩) λq2=>rC (λq=>⟨by lia,by have:=k3 q;lia,aNm _ _ _,trivial⟩) λq3=>rC (λq=>⟨by lia,aQq _ _,trivial⟩) λq4=>?_;have q5:eqw c.1 Xy:=by
  rcases hw with h | h | h | h | h
  ·exact absurd (h.symm.trans q1) (by lia)
  ·exact absurd (h.symm.trans q2) (by lia)
  ·exact absurd (h.symm.trans q3) (by lia)
  ·exact absurd (h.symm.trans q4) (by lia)
  lia
 exact⟨by lia,by lia,by lia,by lia,by lia,aNn _ _ _ _ _ _,trivial⟩
def PC(hd:Vd d)(hc:Cn c):aMS d c:=by
 obtain⟨v1,v2,v3,v4,v5,v6,v7,v8,v9,v10,v11,v12⟩:=hd;obtain⟨k1,k2,k3,k4,k5,k6,k7,k8,k9⟩:=hc;have:=aAv v7;exact rC (λq=>⟨aGd _ _,trivial⟩) λ_=>rC (λq=>⟨by have:=k6 q;lia,by have:=k6 q;lia,show _<=1000 by lia,trivial⟩) λ_=>rC (λq=>⟨by have:=k7 q;lia,by have:=k7 q;lia,RO _ _ _,trivial⟩) λ_=>⟨aQ5 _ _ v11 v12,trivial⟩
theorem aRs(n:Int):MY n:=by
 by_cases h:pK n=true
 ·obtain⟨_,_,_,_,p,_⟩:=Kh (wi (show bH n 0 36524=true from h))
  lia
 ·unfold MY
  lia
theorem aUG(n:Int):(oY n).size<=50000000:=by
 by_cases h:pK n=true
 ·obtain⟨a,b,c,e,_⟩:=Kh (wi (show bH n 0 36524=true from h));rw[e,show (dT a b c).size=10 from rfl];lia
 ·unfold oY;rw[cG.2 h];exact bG _
def aRt(hd:Vd d)(hc:Cn c):P79 d c:=by
 have hk:=hc;obtain⟨_,_,_,_,_,_,_,k8,_⟩:=hk;exact rC (λq=>⟨C4 hd hc (.inl q),aST _,trivial⟩) λ_=>rC (λq=>⟨C4 hd hc (.inr (.inl q)),aST _,trivial⟩) λ_=>rC (λq=>⟨C4 hd hc (.inr (.inr (.inl q))),aST _,trivial⟩) λ_ =>
  rC (λq=>⟨C4 hd hc (.inr (.inr (.inr (.inl q)))),aST _,trivial⟩) λ_=>rC (λq=>⟨C4 hd hc (.inr (.inr (.inr (.inr q)))),aST _,trivial⟩) λ_ =>
  rC (λq=>⟨PC hd hc,trivial⟩) λ_=>rC (λq=>⟨PC hd hc,trivial⟩) λ_=>rC (λq=>⟨PC hd hc,trivial⟩) λ_=>rC (λq=>⟨PC hd hc,trivial⟩) λ_ =>
  rC (λq=>⟨RP _ _,trivial⟩) λ_=>rC (λq=>⟨by have:=k8 q;lia,by have:=k8 q;lia,aTX _ _ _,aRs _,trivial⟩) λ_=>rC (λq=>⟨aJE _,trivial⟩) λ_=>trivial
def Sm(x:Int):Prop := -100000000000000<=x/\x<=100000000000000
theorem sm0:Sm 0:=⟨by lia,by lia⟩
variable {b:Bool}
theorem Jo{A B:Int}(h1:b=true->Sm A)(h2:b=false->Sm B):Sm (if b=true then A else B):=by
 lia
theorem PD{A B:Γ Δ}(h1:b=true->Few A)(h2:b=false->Few B):Few (if b=true then A else B):=by
 lia
theorem bCI{x:Int}(h:Sm x):Few [dF x]:=aG2 (by
 grind [J1,aK,Sm])
theorem aUH(l:Γ eR)(n:Int):Sm (GC l n):=by
 unfold GC;split
 ·unfold DL Sm;have bs:=RF (λx=>xS x (l.getD (u4 l n l.length 0 0).toNat (aC,0,0,0,())) n) (20000+1-0:Int).toNat 0 20001 (by lia) (by lia);have e:CI (l.getD (u4 l n l.length 0 0).toNat (aC,0,0,0,())) n=Nm (λx=>xS x (l.getD (u4 l n l.length 0 0).toNat (aC,0,0,0,())) n) (20000+1-0:Int).toNat 0 20001-1:=rfl
  lia
 simp[sm0]
variable {r:Int×Int×Int×Int×Unit}
theorem aL2(v:Bw r=true):1000<=r.2.2.2.1/\r.2.2.2.1<=10000000:=by
 exact wi (zS (zS (zS v).2).2).2
theorem bCJ(v:Bw r=true)(n:Int):Sm (Qf r n):=by
 have hv:=aL2 v;have t:=tdb n (a:=1000*r.2.2.2.1) (A:=10000000000) (by lia);exact Jo (λ_=>sm0) λ_=>⟨by lia,by lia⟩
theorem bCK{m:c7}(v:yK m=true)(f s:Int):Sm (Qh m f s):=by
 obtain⟨_,_,m3⟩:=Wq v;refine Jo (λhf=>Jo (λ_=>sm0) λc=>Jo (λ_=>sm0) λ_=>?_) λ_=>Jo (λ_=>sm0) λc=>?_
 ·obtain⟨_,hs⟩:=Kc (by rw[c];lia);have hf:=wi (show bH f (-1000000) 1000000=true from hf);have hs:=wi (show bH s 0 20000=true from hs);have b1:=mb (A:=1000000) (B:=20000) (a:=f) (b:=s) (by lia) (by lia);have b3:=mb (A:=20000000000) (B:=1000) (a:=0-aP (f*s) 1000) (b:=1000-m.2.2.1) (by lia) (by lia);unfold M3;unfold aBy;have t:=tdb (1000-m.2.2.1) (a:=1000*aP (f*s) 1000+(1000-m.2.2.1)-1) (A:=9000000000000) (by lia);exact⟨by lia,by lia⟩
 grind [Kc]
theorem aUI(l:Γ Int)(n:Int):Sm (GF l n):=by
 refine Jo (λ_=>sm0) λc=>Jo (λ_=>sm0) λ_=>Jo (λ_=>sm0) λ_=>?_;have h3:=(J2 (l:=l) (k:=3) (by lia)).2.2;generalize (GE (kE l n) (vN (kE l n))).toNat=k;by_cases hk:k<l.length
 ·have:=h3 _ (bY l k 0 hk);exact⟨by lia,by lia⟩
 ·rw[List.getD_eq_getElem?_getD,List.getElem?_eq_none (by omega)];exact sm0
theorem aRu{x:Int×Int×Int×Int×Unit}(v:xH x=true)(t b r g n:Int):Sm (Qk x t b r g n):=by
 have hv:=Oh v;have key:Sm (Af x t b r g n):=by
  have bs:=RF (λy=>Du y t b r g n) (x.1+1-0).toNat 0 (x.1+1) (by lia) (by lia);have e:Af x t b r g n=Nm (λy=>Du y t b r g n) (x.1+1-0).toNat 0 (x.1+1):=rfl;exact⟨by lia,by lia⟩
 exact Jo (λ_=>Jo (λ_=>sm0) λ_=>Jo (λ_=>sm0) λ_=>key) λ_=>Jo (λ_=>sm0) λ_=>Jo (λ_=>sm0) λ_=>key
theorem aN5(hd:Vd d)(c:CMD):Sm (sO d c):=by
 obtain⟨v1,v2,v3,v4,v5,v6,v7,v8,v9,v10,v11,v12⟩:=hd;exact Jo (λ_=>aUH _ _) λ_=>Jo (λ_=>bCJ v2 _) λ_=>Jo (λ_=>bCK v5 _ _) λ_=>Jo (λ_=>aUI _ _) λ_=>aRu v8 _ _ _ _ _
theorem aRv(hd:Vd d):Few (zO d):=by
 have hk:=hd;obtain⟨v1,v2,v3,v4,v5,v6,v7,v8,v9,v10,v11,v12⟩:=hk;have l1:=aQ4 v1;have l3:=(wH v3).1;have l4:=(sW v4).1;have l7:=aAv v7;have l9:=aWL v9;have l10:=(vU v10).1;have l11:=aGe v11;have l12:=aGf v12;have l8:0<=d.2.2.2.2.2.2.2.1.2.2.1/\d.2.2.2.2.2.2.2.1.2.2.1<=10000000:=by
  exact wi (show bH _ 0 10000000=true from(zS (zS (zS v8).2).2).1)
 refine PD (λ_=>?_) λ_=>aG3;have key:∀(W:Γ Δ) (N:Γ Int),(∀w∈W,w.size<=7)->(∀n∈N,Sm n)->∀s∈List.zipWith Ob W N,s.size<=50000000:=by
  intro W
  induction W with
  | nil=>simp
  | cons w W ih =>
   intro N hw hn s hs;cases N with
   | nil=>simp_all
   | cons n N =>
    rcases aW.1 hs with rfl | hs
    ·have a:=hw w (aR ..);have b:=hn n (aR ..);have:=J1 (x:=n) (by grind [aK,Sm]);unfold Ob;rw[bD,bD,show (aA #[32]).size=1 from rfl]
     lia
    grind
 refine⟨?_,key _ _ aWw λn hn=>?_⟩
 ·rw[List.length_zipWith];exact dV (Nat.min_le_left _ _) (by decide)
 ·unfold Oa at hn;simp at hn;unfold Sm
  lia
theorem aN6:Few Es:=by
 have h:Es.all (λl=>decide (l.size<=50000000))=true:=by rfl
 refine⟨by decide,λl hl=>?_⟩
 grind
theorem aRw(hd:Vd d)(c:CMD):Few (AN d c):=by
 have n:=bCI (aN5 hd c);have l:=aG2 (UA (EA d c));exact PD (λ_=>n) λ_=>PD (λ_=>n) λ_=>PD (λ_=>n) λ_=>PD (λ_=>n) λ_=>PD (λ_=>n) λ_=>PD (λ_=>l) λ_=>PD (λ_=>l) λ_=>PD (λ_=>l) λ_=>PD (λ_=>l) λ_ =>
  PD (λ_=>aA5 _ _) λ_=>PD (λ_=>aG2 (aUG _)) λ_=>PD (λ_=>aJG _) λ_=>PD (λ_=>aRv hd) λ_=>aN6
theorem bCL(v:Bw r=true)(n:Int):aUu r n/\Xb r n=Qf r n/\Xc r n=Vp r n:=by
 have hv:=aL2 v;have t:=tdb n (a:=1000*r.2.2.2.1) (A:=10000000000) (by lia);have e:EF r=true:=v;have e2:Xa n=JB n:=rfl;unfold aUu Xb Qf Xc Vp M2;rw[e,e2,v];cases c:JB n with
 | false=>lia
 | true =>
  have:=wi (show bH n 1 10000000=true from c);exact⟨⟨by grind [aK],by lia,by grind [aK],trivial⟩,rfl,rfl⟩
theorem bCM{m:c7}(v:yK m=true)(f s:Int):aUw m f s/\Xh m f s=Qh m f s/\Xi m f s=Vq m f s:=by
 obtain⟨m1,m2,m3⟩:=Wq v;have e:EG m=true:=v;have e2:Xe f=Qg f:=rfl;have e3:W8 s=Fp s:=rfl;unfold aUw Xh Qh Xi Vq Ad;cases c:Qg f with
 | false=>lia
 | true =>
  cases c2:Fp s with
  | false=>lia
  | true =>
   have hf:=wi (show bH f (-1000000) 1000000=true from c);have hs:=wi (show bH s 0 20000=true from c2);have b1:=mb (A:=1000000) (B:=20000) (a:=f) (b:=s) (by lia) (by lia);have b3:=mb (A:=20000000000) (B:=1000) (a:=0-aP (f*s) 1000) (b:=1000-m.2.2.1) (by lia) (by lia);have key:aUv m f s/\Xg m f s=Dt m f s/\(Dt m f s=true->aCd m f s=M3 m f s):=by
    unfold aUv aCd Xg Dt M3 aBy;by_cases d:f<=m.2.1
    ·rw[ν (show ¬decide (f>m.2.1)=true by lia),ν (show ¬decide (f>m.2.1)=true by lia),ν (show ¬decide (f>m.2.1)=true by lia),π (decide_eq_true d)];by_cases w:aP (f*s) 1000>0
     ·have t:=tdb (1000-m.2.2.1) (a:=1000*aP (f*s) 1000+999-m.2.2.1) (A:=90000000000000) (by lia);simp only[decide_eq_true w,if_true];rw[show 1000*aP (f*s) 1000+(1000-m.2.2.1)-1=1000*aP (f*s) 1000+999-m.2.2.1 by lia];exact⟨⟨by grind [aK],by grind [aK],by grind [aK],by grind [aK],by grind [aK],by grind [aK],by lia,by grind [aK],trivial⟩,rfl,λ_=>rfl⟩
     ·have t0:0<=(0-aP (f*s) 1000)*(1000-m.2.2.1):=Int.mul_nonneg (by lia) (by lia);simp only[decide_eq_false w,if_false];exact⟨⟨by grind [aK],by grind [aK],by grind [aK],by grind [aK],by grind [aK],by grind [aK],by grind [aK],trivial⟩,(decide_eq_true (by lia)).symm,by lia⟩
    lia
   lia
theorem aRx{d:c7}(h:lA d=true){e:Int}(he:1<=e/\e<=4):aUx d e/\aCe d e=Qc d e/\Xk d e=Vj d e:=by
 obtain⟨⟨t1,t2⟩,r1,r2⟩:=Oy h;have hp:0<=d.1/\d.1<=3:=by
  unfold lA at h;split at h
  ·lia
  ·rename_i c;exact wi (nb c)
 obtain⟨p,t,r,u⟩:=d;have i1:bA .i64 (t+1):=by grind [aK]
 have i2:bA .i64 (r+1):=by grind [aK]
 unfold aUx aCe Xk Qc Vj Vi I9
 lia
theorem aN7{d:c7}(h:lA d=true)(e:Int):aUy d e/\ET d e=xR d e/\Jk d e=sL d e:=by
 have e1:An d=true:=(Tp d).symm.trans h;have e2:Xj e=aIu e:=rfl;unfold aUy ET xR Jk sL;cases c:aIu e with
 | false=>lia
 | true =>
  obtain⟨k1,k2,k3⟩:=aRx h (wi (show bH e 1 4=true from c))
  lia
theorem aRy{d:c7}(h:lA d=true):aJD d/\Ge d=zH d:=by
 have e1:An d=true:=(Tp d).symm.trans h;obtain⟨t,r⟩:=Oy h;have n1:=(aL0 d.1).1;have s1:=J1 (x:=d.2.1) (by grind [aK]);have s2:=J1 (x:=d.2.2.1) (by grind [aK]);have i1:(aA #[47]).size=1:=rfl;have hn:bCx d.1:=by
  exact F0 λc=>by have w:=wi (show bH d.1 0 3=true from nb c);lia
 have e2:NW d.1=rK d.1:=rfl;have e3:∀n,kI n=dF n:=λ_=>rfl;unfold aJD Ge zH bCy aJC
 grind
theorem aJL(s:Δ):Qt s=EJ s:=by
 unfold Qt Mn EJ
 grind [aJa,Qs,aAy]
theorem bCN(x:Γ Δ):WN x=G7 x:=by
 unfold WN G7 GP;rw[WM];have hq:(!x.any Mo)=x.all EJ:=by
  simp[List.not_any_eq_all_not,Mo,aJL]
 lia
theorem aGB:∀(h:Γ Int) (k:Nat),h.set k (h.getD k 0)=h
 | [],_=>rfl
 | a::l,0=>rfl
 | a::l,k+1=>by
  show a::l.set k (l.getD k 0)=a::l;rw[aGB l k]
theorem aRz:∀(r:Γ Δ) (k:Nat) (h:Γ Int),uD k r h=Sv k r h
 | [],_,_=>rfl
 | c::r,k,h=>by
  have e:H7 h k c=if((c.size:Nat):Int)>h.getD k 0 then h.set k (c.size:Nat)else h:=by
   unfold H7;by_cases h1:h.getD k 0<((c.size:Nat):Int)
   ·lia
   ·rw[ν h1,ν h1,aGB]
  show uD (k+1) r (H7 h k c)=Sv (k+1) r _;rw[e,aRz]
theorem aUJ(x:Γ (Γ Δ)):K9 x=aBP x:=by
 simp[K9,aBP,aRz]
theorem Xz(h:Γ Int)(k:Nat)(c:Δ):(WR h k c).data.toList=c.data.toList++CY (h.getD k 0-(c.size:Nat)).toNat:=by
 have e:(aA #[32]).data.toList=aQ 1 32:=rfl;unfold WR Ft CY;rw[e,Lib.repeatL_replicate,Nat.mul_one];rfl
theorem aL3:∀(r:Γ Δ) (k:Nat) (h:Γ Int) (v:Γ UInt8),0<k->aGo k r h v=v++iY [32,32] ((sV h k r).map λx=>x.data.toList)
 | [],k,h,v,_=>by simp[aGo,sV,iY]
 | c::r,k,h,v,hk=>by
  simp only[aGo,sV];rw[aL3 r (k+1) h _ (by lia),π hk,dG,Xz];simp[iY]
theorem aUK(h:Γ Int)(r:Γ Δ):u6 h r=G6 h r:=by
 unfold u6 G6 aJj aB6 qM;cases r with
 | nil=>rfl
 | cons c r =>
  simp[sV,aGo,o7,Xz,aL3]
theorem aUL(l:Γ Δ):GQ l=On l/\Qu l=XM l:=by
 unfold GQ Qu On XM;rw[bCN];exact⟨rfl,rfl⟩
def Re(c:Δ):Prop:=∀b∈b9 c,33<=b/\b<=126
theorem aUM{c:Δ}(h:Re c):Ms c=false:=by
 unfold Ms Mr;rw[aJd,fG];intro b hb;obtain⟨h1,h2⟩:=h b hb
 grind [Qv]
theorem aUN{x:Γ (Γ Δ)}(h:∀r∈x,r.length<=12/\∀c∈r,Re c):sU x=false:=by
 unfold sU;rw[aJi,fG];intro r hr;obtain⟨h1,h2⟩:=h r hr;have e:GR r=false:=by
  grind [GR,aJf,aUM]
 unfold Qw aJg
 lia
theorem aR0{x:Γ (Γ Δ)}(h:∀r∈x,r.length<=12/\∀c∈r,Re c):EC x=On (FD x)/\JP x=XM (FD x):=by
 have e:x.map (u6 (K9 x))=FD x:=by
  simp[FD,aUJ,aUK]
 unfold EC JP;rw[aUN h,e];simp[aUL]
theorem aR1(l:Γ Δ):(On l).length<=200:=by
 unfold On;cases h:G7 l with
 | false=>simp
 | true =>
  unfold G7 at h
  lia
theorem NZ{l:Γ UInt8}(h:∀b∈l,33<=b.toNat/\b.toNat<=126):Re ⟨⟨l⟩⟩:=by
 intro b hb;unfold b9 at hb
 grind
theorem aR2{n:Int}(h:0<=n)(h2:n<=1000000000000):Re (l5 n)/\(l5 n).size<=21:=by
 refine⟨?_,wC n (by lia) (by lia)⟩;obtain⟨k,rfl⟩:=eU h;have e:l5 (k:Int)=⟨⟨Lib.decDigits k⟩⟩:=by
  rfl
 grind [NZ,pN,CW]
def pos(y m:Int):Int:=Pl y+lR y (m-1).toNat
theorem bCO{y m:Int}(hy:2000<=y/\y<=2099)(hm:1<=m/\m<=12):mY y m=mW y m/\28<=mW y m:=by
 have e:=aBC (y:=y) hm;have h:=(aWR (y:=y) (m:=m) (by lia) hm).2.1
 lia
theorem aR3{y m:Int}(hm:1<=m/\m<12):pos y m+mW y m=pos y (m+1):=by
 obtain⟨k,hk⟩:∃k:Nat,m=(k:Int)+1:=⟨(m-1).toNat,by lia⟩;subst hk;unfold pos;rw[show ((k:Int)+1+1-1).toNat=k+1 by lia]
 grind [lR]
theorem aL4{y:Int}(hy:2000<=y/\y<=2099):pos y 12+mW y 12=pos (y+1) 1:=by
 have h:=aBE hy;unfold pos
 grind [lR]
theorem aGC{y m:Int}(hy:2000<=y/\y<=2099)(hm:1<=m/\m<=12):∀(n:Nat) (Y M:Int),12*y+m=12*Y+M+n->2000<=Y->1<=M/\M<=12->pos Y M<=pos y m:=by
 intro n
 induction n with
 | zero =>
  grind
 | succ n ih =>
  intro Y M h h1 h2;have hl:=(bCO (y:=Y) (m:=M) (by lia) h2).2
  grind [aL4,aR3]
theorem bKa{y m d:Int}(h:Y6 y m d):∀(n k:Nat) (Y M e:Int),12*y+m=12*Y+M+n->2000<=Y->1<=M/\M<=12->n<k->e=pos y m+d-1-pos Y M->FC k e Y M=(y,m,d):=by
 obtain⟨hy,hm,hd⟩:=h;intro n
 induction n with
 | zero =>
  intro k Y M e h h1 h2 hk he;have:Y=y:=by lia
  have:M=m:=by lia
  subst_vars
  have hl:=bCO (y:=Y) (m:=M) hy hm;unfold FC
  lia
 | succ n ih =>
  intro k Y M e h h1 h2 hk he;have hl:=bCO (y:=Y) (m:=M) (by lia) h2;unfold FC;by_cases hM:M=12
  ·have hp:=aGC hy hm n (Y+1) 1 (by lia) (by lia) (by lia);have hq:=aL4 (y:=Y) (by lia)
   grind
  ·have hp:=aGC hy hm n Y (M+1) (by lia) (by lia) (by lia);have hq:=aR3 (y:=Y) (m:=M) (by lia)
   grind
theorem aL5{y m d:Int}(h:Y6 y m d):GZ (fK y m d)=y/\G3 (fK y m d)=m/\NJ (fK y m d)=d:=by
 have hh:=h;obtain⟨hy,hm,hd⟩:=h;have e:FC 1305 (fK y m d) 2000 1=(y,m,d):=by
  refine bKa hh (12*(y-2000)+(m-1)).toNat 1305 2000 1 _ (by lia) (by lia) (by lia) (by lia) ?_;have e0:pos 2000 1=0:=aNs
  grind [NC,pos]
 unfold GZ G3 NJ
 lia
theorem aL6{n:Nat}(h:n<100):aQI (n:Int)/\G4 (n:Int)=⟨⟨[mQ (n/10),mQ (n%10)]⟩⟩:=by
 have e:kI (n:Int)=l5 (n:Int):=rfl;unfold aQI G4;rw[e];by_cases h1:n<10
 ·have d:decide ((n:Int)<10)=true:=decide_eq_true (by lia);have e0:n/10=0:=by lia
  have e1:n%10=n:=by lia
  rw[d,aKK h1,e0,e1];have e2:(aA (Array.mk [mQ n])).size=1:=rfl;exact⟨by lia,rfl⟩
 ·rw[aKL (by lia) h]
  lia
theorem bCP{a b c:Nat}(h:Y6 (a:Int) (b:Int) (c:Int))(ha:2000<=a/\a<=2099)(hb:b<=12)(hc:c<=31):XJ (fK (a:Int) (b:Int) (c:Int))=dT a b c:=by
 obtain⟨e0,e1,e2⟩:=aL5 h;unfold XJ;have e:kI (a:Int)=⟨⟨y4 a⟩⟩:=Tu ha;rw[e0,e1,e2,e,(aL6 (n:=b) (by lia)).2,(aL6 (n:=c) (by lia)).2];rfl
theorem aN8{y m d:Int}(h:Y6 y m d):P91 (fK y m d):=by
 obtain⟨a,b,c,rfl,rfl,rfl,ha,hb,hc⟩:=J5 h;obtain⟨hd,_⟩:=RG h;obtain⟨e0,e1,e2⟩:=aL5 h;have e:kI (a:Int)=⟨⟨y4 a⟩⟩:=Tu ha;unfold P91;obtain⟨p1,q1⟩:=aL6 (n:=b) (by lia);obtain⟨p2,q2⟩:=aL6 (n:=c) (by lia);rw[e1,e2,q1,q2];have s4:(aA ⟨y4 a⟩).size=4:=rfl;have s1:(aA #[45]).size=1:=rfl;have s2:∀u v:UInt8,(aA ⟨[u,v]⟩).size=2:=λ_ _=>rfl;simp[s2];refine⟨⟨by lia,by lia⟩,?_⟩
 lia
theorem Rf{n:Int}(h:0<=n/\n<=36524):∃a b c:Nat,oY n=dT a b c/\XJ n=dT a b c/\MY n/\P91 n/\(2000<=a/\a<=2099)/\b<=12/\c<=31:=by
 obtain⟨y,m,d,hD,he⟩:=aFY h;obtain⟨a,b,c,rfl,rfl,rfl,ha,hb,hc⟩:=J5 hD
 grind [Ez,bCP,J6,aN8]
theorem YA{x a b:Int}(h:cJ x a b=true):a<=x/\x<=b:=by
 unfold cJ at h
 lia
theorem YB{x:c7}(h:vS x=true):(0<=x.1/\x.1<=36524)/\(0<=x.2.1/\x.2.1<=24000)/\(0<=x.2.2.1/\x.2.2.1<=1000):=by
 unfold vS at h;split at h
 ·rename_i h0;split at h
  ·rename_i h1;exact⟨YA h0,YA h1,YA h⟩
  lia
 lia
theorem aGD{xs:Γ c7}(h:wF xs=true):xs.length<=24/\∀x∈xs,vS x=true:=by
 unfold wF at h;have h1:(xs.length:Int)<=24/\JW xs=true:=by
  lia
 refine⟨by lia,λx hx=>?_⟩;have h2:=h1.2;obtain⟨j,hj⟩:=CS xs 0 h2 x hx;unfold aAi at hj
 lia
theorem aR4{a:Nat}(h:a<10):33<=(mQ a).toNat/\(mQ a).toNat<=126:=by
 grind [pB]
theorem aL7{a b c:Nat}(hb:b<=12)(hc:c<=31):Re (dT a b c)/\(dT a b c).size<=1000:=by
 refine⟨NZ λx hx=>?_,by show 10<=1000;lia⟩;unfold y4 at hx;simp only[cY,aW,List.mem_nil_iff,or_false]at hx;rcases hx with (rfl | rfl | rfl | rfl) | rfl | (rfl | rfl) | rfl | rfl | rfl
 all_goals grind [aR4]
theorem FF{x:c7}(h:vS x=true):DT x=NM x/\(∀c∈NM x,Re c/\c.size<=1000)/\P91 x.1/\MY x.1:=by
 obtain⟨h0,h1,h2⟩:=YB h;obtain⟨a,b,c,e1,e2,p1,p2,ha,hb,hc⟩:=Rf h0;have d2:∀n:Int,kI n=l5 n:=λn=>rfl;refine⟨?_,λc hc=>?_,p2,p1⟩
 ·unfold DT NM;rw[e1,e2];rfl
 ·unfold NM at hc
  all_goals grind [aL7,aR2]
theorem AU(xs:Γ c7):aNj xs/\P27 xs/\Al xs=Sw xs/\JQ xs=XN xs/\(Sw xs).length<=200:=by
 have hv:=Ey xs;unfold aNj P27 Al JQ Sw XN;rw[hv];cases h:wF xs with
 | false =>
  simp
 | true =>
  obtain⟨hl,ho⟩:=aGD h;have er:xs.map DT=xs.map NM:=pF λx hx=>(FF (ho x hx)).1;have eh:WU=aBQ:=rfl;have hok:∀r∈aBQ::xs.map NM,r.length<=12/\∀c∈r,Re c:=λr hr=>by
   rcases aW.1 hr with rfl | hr
   ·refine⟨by decide,λc hc=>?_⟩;unfold aBQ at hc;simp at hc;rcases hc with rfl | rfl | rfl <;> exact NZ (by decide)
   ·obtain⟨x,hx,rfl⟩:=dK.1 hr;exact⟨by show 3<=12;lia,λc hc=>((FF (ho x hx)).2.1 c hc).1⟩
  obtain⟨t0,t1⟩:=aR0 hok;rw[er,eh,t0,t1];refine⟨λ_=>⟨by lia,λf hf=>?_⟩,λ_=>⟨by lia,λf hf=>?_⟩,rfl,rfl,?_⟩
  ·refine⟨(FF (ho f hf)).2.2.2,⟨rfl,trivial⟩,⟨rfl,trivial⟩,λc hc=>?_⟩
   grind [FF]
  ·exact⟨(FF (ho f hf)).2.2.1,λc hc=>by grind [FF]⟩
  ·exact aR1 _
theorem aL8:∀(r:Γ Int) (i:Nat) (o:Δ),0<i->aGi i o r=⟨⟨o.data.toList++iY [44] (r.map λx=>(kI x).data.toList)⟩⟩
 | [],_,o,_=>by simp[aGi,iY]
 | x::r,i,o,h=>by
  unfold aGi;rw[π h,aL8 r (i+1) _ (by lia)];simp[iY]
theorem aUO{xs:Γ Int}(h0:0<xs.length)(h1:xs.length<=64)(hv:∀x∈xs,QY x=true):iF xs=Ok xs:=by
 have hc:vE xs=false:=by
  rw[cG];intro h;have h':=(DG _ xs).1 (of_decide_eq_true h)
  grind [QZ]
 unfold iF Ok;rw[ν (by lia),ν (by lia),ν (by lia),ν (by lia)];cases xs with
 | nil=>rfl
 | cons x r =>
  unfold aGi;rw[aL8 r _ _ (by lia)];unfold qM;rw[List.map_map,dG,o7];rfl
theorem bCQ(x:Δ):∀(k i:Nat) (n l:Γ Int) (r:Γ Int×Γ Int),i+k=(AM x).data.toList.length->Kw x k i n l=some r->r.1.length=n.length+((AM x).data.toList.drop i).countP (λb=>b==110):=by
 intro k
 induction k with
 | zero =>
  simp[Kw,List.drop_eq_nil_of_le]
 | succ k ih =>
  intro i n l r hi h;have hlt:i<(AM x).data.toList.length:=by lia
  rw[List.drop_eq_getElem_cons hlt];have hk:CA x i=((((AM x).data.toList)[i]).toNat:Int):=by
   grind [CA]
  unfold Kw at h;by_cases c:(CA x i==110)=true
  ·have e:((AM x).data.toList[i]==110)=true:=by
    rw[beq_iff_eq]at c ⊢;exact UInt8.toNat_inj.1 (by lia)
   grind
  ·have e:((AM x).data.toList[i]==110)=false:=by
    rw[beq_eq_false_iff_ne];intro q;simp_all
   grind
theorem aJM:dZ PA=aA #[110]:=by
 simp[dZ,PA]
theorem aJN:dZ PB=aA #[110]:=by
 simp[dZ,PB]
theorem aGE:dZ aCi=aA #[110,110]:=by
 simp[dZ,aCi]
theorem aUP:dZ aL1=aA #[108,110]:=by
 simp[dZ,aL1]
theorem aR5:dZ Xy=aA #[110,110,110,110,110]:=by
 simp[dZ,Xy]
theorem aR6:dZ aJH=aA #[110,110]:=by
 simp[dZ,aJH]
theorem aR7:dZ aJI=aA #[97,110,110]:=by
 simp[dZ,aJI]
theorem bCR:dZ bCH=aA #[110,110]:=by
 simp[dZ,bCH]
theorem aR8:dZ aJJ=aA #[110]:=by
 simp[dZ,aJJ]
theorem aR9:dZ aJK=aA #[110,110,110]:=by
 simp[dZ,aJK]
theorem aXe{w:Δ}{n:Nat}(h:∀v,eqw w v->aA #[116]≠dZ v->(dZ v).data.toList.countP (λb=>b==110)<=n)(t:Δ)(a l:Γ Int)(ha:a.length=n):Cn (w,t,a,l,()):=by
 refine⟨λq=>?_,λq=>?_,λq=>?_,λq=>?_,λq=>?_,λq=>?_,λq=>?_,λq=>?_,λq=>?_,λq=>?_⟩
 ·grind [aJM]
 ·grind [aJN]
 ·have:=h _ q (by simp[aGE])
  grind [aGE]
 ·grind [aUP]
 all_goals grind [aR5,aR6,aR7,bCR,aR8,aR9]
variable {x:Δ}
theorem aXf(h:CB x=true):Cn (iE x)/\(iE x).2.1.size<=x.size:=by
 unfold CB at h;unfold iE;unfold OU at h ⊢;split at h
 ·cases h
 ·rename_i c1;rw[ν c1];split at h
  ·cases h
  ·rename_i c2;rw[ν c2];split at h
   ·rename_i c3;rw[π c3];refine⟨aXe (n:=0) (λv q hv=>?_) _ [] [] rfl,(Ki x (aA #[32])).2⟩;have e:=(bE _ _).1 q;exact absurd (show aA #[116]=dZ v by rw[<- c3, <- e];rfl) hv
   ·rename_i c3;rw[ν c3];split at h
    ·rename_i c4;rw[π c4];cases hr:Kw x (AM x).size 0 [] [] with
     | none=>rw[hr]at h;cases h
     | some r =>
      have hl:=bCQ x _ 0 [] [] r (by simp) hr;refine⟨aXe (n:=r.1.length) (λv q _=>?_) _ r.1 r.2 rfl,bG _⟩;have e:=(bE _ _).1 q;rw[hl, <- e];exact Nat.le_of_eq (by rw[List.length_nil,bX];rfl)
    ·cases h
theorem aGF(hd:Vd d):P20 d:=by
 obtain⟨v1,v2,v3,v4,v5,v6,v7,v8,v9,v10,v11,v12⟩:=hd;have l1:=aQ4 v1;have l3:=(wH v3).1;have l4:=(sW v4).1;have l7:=aAv v7;have l9:=aWL v9;have l10:=(vU v10).1;have l11:=aGe v11;have l12:=aGf v12;exact⟨show _<=1048576 by lia,show _<=1048576 by lia,show _<=1048576 by lia,show _<=1048576 by lia,show _<=1048576 by lia,show _<=1048576 by lia,show _<=1048576 by lia,show _<=1048576 by lia,trivial⟩
theorem aRA(hd:Vd d)(hc:Cn c)(ht:c.2.1.size<=1048576):P21 d c:=by
 have hk:=hc;obtain⟨_,_,_,_,_,_,_,_,k9,k10⟩:=hk;exact rC (λ_=>⟨aRq hd c ht,trivial⟩) λ_=>rC (λq=>⟨Xx hd c k9 (λr=>absurd (q.symm.trans r) (by lia)),trivial⟩) λq=>rC (λr=>⟨Xx hd c k9 (λ_=>k10 r),trivial⟩) λ_=>⟨aRt hd hc,trivial⟩
def XQ(d:bV)(o:Γ Δ)(k:Int)(b:Bool)(y:bV):Prop:=Few o/\(b=true->k=0->Vd y/\(y=d\/o=[aA #[111,107]]\/∃x s,o=[rK x++aA #[47]++s]))
theorem bCS{α β γ δ:Type}{A1 A2:α}{B1 B2:β}{C1 C2:γ}{D1 D2:δ}{Q:α->β->γ->δ->Prop}(h1:b=true->Q A1 B1 C1 D1)(h2:b=false->Q A2 B2 C2 D2):Q (if b=true then A1 else A2) (if b=true then B1 else B2) (if b=true then C1 else C2) (if b=true then D1 else D2):=by
 lia
theorem aUQ(hd:Vd d)(c:CMD)(ht:c.2.1.size<=1048576):XQ d (fS d c) (gA d c) (gS d c) (gV d c):=by
 have ch:=aN3 hd c;refine bCS (λ_=>⟨aG2 (by decide),λb k=>⟨aUE hd c ht b k,.inr (.inl rfl)⟩⟩) λ_=>bCS (λ_=>⟨ch.1,λ_ k=>⟨(ch.2 k).1,.inr (ch.2 k).2⟩⟩) λ_=>bCS (λ_=>⟨ch.1,λ_ k=>⟨(ch.2 k).1,.inr (ch.2 k).2⟩⟩) λ_=>⟨aRw hd c,λ_ _=>⟨hd,.inl rfl⟩⟩
theorem aGG(r g t b:Int):JF r g [t,b]=(EU t&&NX b r g):=by
 have e:GH [t,b]=(GG t||(GG b||false)):=Vu [t,b];have k:∀x,GG x = !EU x:=λ_=>rfl;have k2:aBz r=EU r:=rfl;have k3:bH g 1 900=cJ g 1 900:=rfl
 grind [JF,NX]
theorem aN9{x:Int×Int×Int×Int×Unit}(v:xH x=true)(t b r g n:Int):aU3 x t b r g n/\Xq x t b r g n=Qk x t b r g n/\Xr x t b r g n=Vy x t b r g n:=by
 have hv:=Oh v;have e0:EH x=true:=v;have en:Xp n=M9 n:=rfl;unfold aU3 Xq Xr Qk Vy zI;rw[aGG,e0,en];cases c1:EU t with
 | false=>lia
 | true =>
  cases c2:NX b r g with
  | false=>lia
  | true =>
   cases c3:M9 n with
   | false=>lia
   | true =>
    obtain⟨l1,l2,l3,l4⟩:=aFW (r:=r) (g:=g) (t:=t) (b:=b) (by simp[aGG,c1,c2]);have ew:bC7 x t b r g n=Af x t b r g n:=aRn v n l3 l4 l1 l2 20002 (by lia);have bs:=RF (λy=>Du y t b r g n) (x.1+1-0).toNat 0 (x.1+1) (by lia) (by lia);have eb:Af x t b r g n=Nm (λy=>Du y t b r g n) (x.1+1-0).toNat 0 (x.1+1):=rfl;have e1:Qj x t b r g n=decide (Af x t b r g n<=x.1):=rfl;have eg:Rc x t b r g n=if Af x t b r g n>x.1 then -1 else Af x t b r g n:=by grind [Rc]
    refine⟨⟨⟨hv,l3,l4,l1,l2⟩,trivial⟩,?_⟩
    lia
theorem aRB{l:Γ Se}(v:jG l=true)(a b:Int):aU6 l a b/\Rd l a b=JO l a b/\Xs l a b=Qr l a b:=by
 have e0:wF l=true:=(Ey l).symm.trans v;have ea:RB a=bH a 0 24000:=rfl;have eb:cJ b 1 1000=bH b 1 1000:=rfl;obtain⟨hl,ht⟩:=vU v;unfold aU6 Rd Xs JO Qr;rw[e0,ea,eb,v];cases c1:bH a 0 24000 with
 | false=>lia
 | true =>
  cases c2:bH b 1 1000 with
  | false=>lia
  | true =>
   by_cases c3:l.length=0
   ·lia
   ·have w:=wi c2;have c3':((l.length:Int)==0)=false:=beq_false_of_ne (by lia);have e:(((l.length:Nat):Int)-1).toNat=l.length-1:=by lia
    have md:∀x y:Int,EE x y=if y<x then y else x:=λx y=>by
     unfold EE
     lia
    have hg:=(NF l).2.1 v;have hd:(EV l a>=0/\EB l a=0/\Ak l a=EV l a)\/(¬EV l a>=0/\EB l a≠0):=by
     unfold EV Ak EB
     lia
    rw[c3',e];refine⟨⟨by grind [aK],by lia,by lia,by grind [aK],v,trivial⟩,?_⟩
    grind
theorem aNA(l:Γ Int)(e s:Int):P47 l e s/\aGy l e s=JK l e s/\aGz l e s=Qm l e s:=by
 have e1:aJ6 e=Mf e:=rfl;have e2:aJ7 s=JI s:=rfl;have hp:=RO l e s;unfold aMR at hp;unfold P47 aGy aGz JK Qm R8;unfold sP at hp ⊢;rw[aRe,e1,e2];cases c1:pM l with
 | false=>lia
 | true =>
  cases c2:Mf e with
  | false=>lia
  | true =>
   cases c3:JI s with
   | false=>lia
   | true =>
    rw[c1,c2,c3]at hp;have w:=wi (show bH s 1 1000=true from c3);exact⟨⟨⟨hp.1,by lia⟩,trivial⟩,rfl,rfl⟩
theorem aRC(n:Int):aU7 n/\Xt n=oY n:=by
 unfold aU7 Xt;have e:My n=pK n:=rfl;cases c:pK n with
 | false =>
  grind [oY]
 | true =>
  obtain⟨a,b,d,h1,h2,h3,h4,_⟩:=Rf (n:=n) (wi (show bH n 0 36524=true from c))
  lia
theorem aRD{l:Γ Int}(h1:l.length<=64)(hv:∀n∈l,LR n):P84 l/\Ok l=iF l:=by
 refine⟨⟨by lia,λn hn=>by grind [LR,aK]⟩,?_⟩;by_cases c:l.length=0
 ·obtain rfl:=List.eq_nil_of_length_eq_zero c;rfl
 grind [aUO,aQ0]
theorem bCT{x0 x1:Γ c7}:(Dv x0 x1).length<=64/\∀n∈Dv x0 x1,LR n:=by
 unfold Dv;split
 ·rename_i h;unfold H5 at h;rw[aV]at h;have hl:=(wH h.2).1;have key:∀(l:Γ c7) (i:Nat),i+l.length<=64->(u5 x0 l i).length<=l.length/\∀n∈u5 x0 l i,LR n:=λl=>by
   induction l with
   | nil=>intro i _;exact⟨aT _,λn hn=>by cases hn⟩
   | cons y l ih =>
    unfold u5;split
    ·all_goals grind [LR]
    grind
  grind
 simp
theorem aL9{x0:Γ b6}{e:Int}:∀ {n:Nat} {m:Int} {l:Γ Int},BN x0 e n m=some l->l.Nodup/\∀c∈l,(0<=c/\c<(x0.length:Int))/\m<(rL x0 c.toNat).2.2.1
 | 0,m,l,h=>by
  obtain rfl:[]=l:=by injection h
  simp
 | n+1,m,l,h=>by
  unfold BN at h;split at h
  ·split at h
   ·lia
   ·rename_i hb;obtain⟨b,h1,h2,h3,h4,_⟩:=aB2 x0 m hb;obtain⟨r,hr,rfl⟩:=Option.map_eq_some_iff.1 h;obtain⟨k1,k2⟩:=aL9 hr
    grind
  grind
theorem aRE{x0:Γ b6}(hl:x0.length<=64)(a b:Int):(Dw x0 a b).length<=64/\∀n∈Dw x0 a b,LR n:=by
 unfold Dw;split
 ·simp
 ·cases h:BN x0 b (b-a).toNat a with
  | none=>simp
  | some l =>
   obtain⟨k1,k2⟩:=aL9 h;have:=Tw l ((List.range x0.length).map Int.ofNat) k1 (λc hc=>dK.2 ⟨c.toNat,List.mem_range.2 (by grind),Int.toNat_of_nonneg (k2 c hc).1.1⟩)
   grind [LR]
theorem aLA{x0 x1:Γ Sg}:∀ {m:Nat} {u y:Γ Int},fL x0 x1 m u=some y->y.length=u.length+m/\((∀n∈u,0<=n/\n<(x0.length:Int))->∀n∈y,0<=n/\n<(x0.length:Int))
 | 0,u,y,h=>by
  obtain rfl:u=y:=by injection h
  lia
 | m+1,u,y,h=>by
  have e:fL x0 x1 (m+1) u=zM (fL x0 x1 m) u (pA (x1.getD u.length hD) x0 0):=rfl;rw[e]at h;have hp:∀(l:Γ Sg) (i:Nat) (z:Sg),∀n∈pA z l i,(i:Int)<=n/\n<((i+l.length:Nat):Int):=λl=>by
   induction l with
   | nil=>intro i z n hn;cases hn
   | cons a l ih =>
    intro i z n hn;unfold pA at hn
    grind
  have key:∀ks:Γ Int,(∀k∈ks,0<=k/\k<(x0.length:Int))->zM (fL x0 x1 m) u ks=some y->∃k,(0<=k/\k<(x0.length:Int))/\fL x0 x1 m (u++[k])=some y:=λks=>by
   induction ks with
   | nil=>intro _ h;cases h
   | cons k ks ih =>
    intro hk h;rw[zM]at h;split at h
    ·simp_all
    ·cases hf:fL x0 x1 m (u++[k])with
     | some z =>
      grind [aR]
     | none =>
      simp_all
  obtain⟨k,hk,hf⟩:=key _ (λk hk=>by grind) h;obtain⟨a,b⟩:=aLA hf
  grind
theorem aRF{x0 x1:Γ Sg}(h0:x0.length<=64)(h1:x1.length<=64):(JL x0 x1).length<=64/\∀n∈JL x0 x1,LR n:=by
 unfold JL;have no:([]:Γ Int).length<=64/\∀n∈([]:Γ Int),LR n:=⟨by simp,λn hn=>by grind⟩;split
 ·lia
 ·split
  ·lia
  ·show ((fL x0 x1 x1.length []).getD []).length<=64/\∀n∈(fL x0 x1 x1.length []).getD [],LR n;cases h:fL x0 x1 x1.length [] with
   | none=>simp
   | some y =>
    obtain⟨a,b⟩:=aLA h;refine⟨by grind,λn hn=>?_⟩;have:=b (λn hn=>by grind) n hn
    grind [LR]
theorem aRG(l:Γ Int)(e s:Int):(JK l e s).length<=64/\∀n∈JK l e s,LR n:=by
 have hp:=RO l e s;have hv:sP l (JI s)=0->pM l=true:=λh=>by
  grind [sP]
 have key:aMQ l e s 0->pM l=true->(Ql l e s 0).length<=64/\∀n∈Ql l e s 0,LR n:=λhq hv=>by
  obtain⟨a1,a2⟩:=Sr hv;obtain⟨_,q2,_,_⟩:=hq;have go:∀(r:Γ Int) (i:Nat) (w:Int),(0<=w/\w<=1000*(i:Int))->i+r.length<=60->(∀x∈r,0<=x/\x<=1000)->(xT e s 0 r i w).length=r.length/\∀n∈xT e s 0 r i w,LR n:=λr=>by
   induction r with
   | nil=>intro i w _ _ _;exact⟨rfl,λn hn=>by cases hn⟩
   | cons x r ih =>
    intro i w hw hi hx;rw[cL]at hi;have hx0:=hx x (aR ..);have hb:0<=DN e s 0 i w x/\DN e s 0 i w x<=w+x:=by
     obtain⟨d1,d2⟩:=JJ q2 (show 0<=w+x by lia)
     grind [DN]
    obtain⟨a,b⟩:=ih (i+1) (DN e s 0 i w x) (by lia) (by lia) (λy hy=>hx y (aM _ hy));unfold xT
    all_goals grind [LR]
  obtain⟨a,b⟩:=go l 0 0 (by lia) (by lia) a2;exact⟨by show (xT e s 0 l 0 0).length<=64;lia,b⟩
 unfold aMR at hp;unfold JK;cases c1:Mf e with
 | false =>
  by_cases c2:(sP l false != 0)=true
  ·grind
  ·have:sP l false≠0:=by grind [sP]
   lia
 | true =>
  grind
theorem getD_all{l:Γ Δ}{M:Nat}(h:l.all (λs=>decide (s.size<=M))=true)(i:Nat):(l.getD i aC).size<=M:=by
 by_cases c:i<l.length
 all_goals simp_all
theorem Rg(k:Int):P22 k/\(Sk k).size<=20:=by
 constructor
 ·unfold P22
  lia
 ·unfold Sk;split
  ·exact bG _
  ·split
   ·exact bG _
   ·exact getD_all (by rfl) _
def DQ(d:bV)(y:bV)(o:Γ Δ)(k:Int):Prop:=Few o/\(k=8\/(k=0/\Vd y/\o≠[]/\(y=d\/(o.getD 0 aC).data.toList.head? ≠ some 101)))
theorem aNB(x:Int)(s:Δ):(rK x++aA #[47]++s).data.toList.head? ≠ some 101:=by
 have e:(rK x++aA #[47]++s).data.toList=(rK x).data.toList++([47]++s.data.toList):=by
  simp
 rw[e];unfold rK;split
 ·simp
 ·rename_i c;have w:=wi (nb c)
  grind
theorem aCj(hv:Bz d=true)(hx:x.size<=1048576):P11 d x/\DQ d (LO d x) (CN d x) (JS d x):=by
 have hd:=(Xw d).1 hv;constructor
 ·refine rC (λ_=>trivial) λ_=>⟨hx,rC (λ_=>trivial) λq=>?_⟩;obtain⟨hc,ht⟩:=aXf (x:=x) (by lia);have n:=(Rg (gA (jO d) (iE x)));exact⟨aGF hd,aRA hd hc (by lia),rC (λ_=>trivial) λ_=>rC (λ_=>⟨aGF hd,n.1,by lia,trivial⟩) λ_=>rC (λ_=>trivial) λ_=>rC (λr=>⟨by lia,trivial⟩) λ_=>trivial⟩
 ·refine Ky (λq=>?_) λ_=>Ky (λ_=>⟨aG3,.inl rfl⟩) λq=>?_
  ·lia
  obtain⟨hc,ht⟩:=aXf (x:=x) (by lia);have hX:=aUQ hd (iE x) (by lia);have hX:XQ d (fS (jO d) (iE x)) (gA (jO d) (iE x)) (gS (jO d) (iE x)) (gV (jO d) (iE x)):=hX;generalize fS (jO d) (iE x)=o at *;generalize gA (jO d) (iE x)=k at *;generalize gS (jO d) (iE x)=b at *;generalize gV (jO d) (iE x)=y at *;refine Ky (λ_=>⟨aG3,.inl rfl⟩) λhb=>Ky (λhk=>?_) λhk=>?_
  ·have n:=(Rg k).2;exact⟨aG2 (by rw[bD,show (aA #[101,114,114,111,114,32]).size=6 from rfl];lia),.inr ⟨rfl,hd,by lia,.inl rfl⟩⟩
  ·have hb:b=true:=by lia
   have hk:k=0:=by lia
   obtain⟨hy,hz⟩:=hX.2 hb hk;have none_ok:DQ d y [aA #[110,111,110,101]] 0:=⟨aG2 (by decide),.inr ⟨rfl,hy,by lia,.inr (by
    simp)⟩⟩
   have all_ok:o≠[]->DQ d y o 0:=λhne=>⟨hX.1,.inr ⟨rfl,hy,hne,by
    grind [aNB]⟩⟩
   grind
theorem aUR(hx:CZ x=false):Jf x=0 :=
 (chI (chI (chI (chI (chI (chI (λh=>by
  grind [NB,J3]))))))) hx
theorem aLB{a b c:Nat}(h:Y6 (a:Int) (b:Int) (c:Int))(ha:2000<=a/\a<=2099)(hb:b<=12)(hc:c<=31):Jf (dT a b c)=fK (a:Int) (b:Int) (c:Int)/\CZ (dT a b c)=true:=by
 obtain⟨y1,y2⟩:=bAY ha;obtain⟨m1,m2⟩:=aKR (n:=b) (by lia);obtain⟨d1,d2⟩:=aKR (n:=c) (by lia);obtain⟨n1,n2⟩:=bAV h;have es:(((dT a b c).size:Nat):Int)=10:=rfl;have g4:(((((dT a b c).data.toList).getD 4 0).toNat:Nat):Int)=45:=rfl;have g7:(((((dT a b c).data.toList).getD 7 0).toNat:Nat):Int)=45:=rfl;have x1:aN (dT a b c) 0 4=⟨⟨y4 a⟩⟩:=Ke _ 0 4;have x2:aN (dT a b c) 5 7=⟨⟨[mQ (b/10),mQ (b%10)]⟩⟩:=Ke _ 5 7;have x3:aN (dT a b c) 8 (aE 10)=⟨⟨[mQ (c/10),mQ (c%10)]⟩⟩:=Ke _ 8 10;unfold Jf CZ
 grind
theorem aUS(hx:CZ x=true):∃a b c:Nat,Y6 (a:Int) (b:Int) (c:Int)/\(2000<=a/\a<=2099)/\(1<=b/\b<=12)/\(1<=c/\c<=31)/\x=dT a b c:=by
 unfold CZ at hx;split at hx
 ·lia
 have hs:x.size=10:=by
  lia
 obtain⟨⟨l⟩⟩:=x;have hl:l.length=10:=hs
 match l,hl with
 | [p,q,r,s,t,u,v,w,z,o],_ =>
  have es:(((aA ⟨[p,q,r,s,t,u,v,w,z,o]⟩).size:Nat):Int)=10:=rfl;have x1:aN ⟨⟨[p,q,r,s,t,u,v,w,z,o]⟩⟩ 0 4=⟨⟨[p,q,r,s]⟩⟩:=Ke _ 0 4;have x2:aN ⟨⟨[p,q,r,s,t,u,v,w,z,o]⟩⟩ 5 7=⟨⟨[u,v]⟩⟩:=Ke _ 5 7;have x3:aN ⟨⟨[p,q,r,s,t,u,v,w,z,o]⟩⟩ 8 (aE 10)=⟨⟨[z,o]⟩⟩:=Ke _ 8 10;have g4:aD (Array.toList (bO ⟨⟨[p,q,r,s,t,u,v,w,z,o]⟩⟩)) 4 0=t:=rfl;have g7:aD (Array.toList (bO ⟨⟨[p,q,r,s,t,u,v,w,z,o]⟩⟩)) 7 0=w:=rfl;rw[es,g7]at hx;split at hx
  ·lia
  rename_i h1;split at hx
  ·lia
  rename_i h2;split at hx
  ·lia
  split at hx
  ·lia
  split at hx
  ·lia
  have h1':t=45:=jA λe=>h1 (bHN.2 e);have h2':w=45:=jA λe=>h2 (bHN.2 e);have hD:=bAW hx;obtain⟨a,ha,ea,la⟩:=aQu (l:=[p,q,r,s]) rfl (by lia) hD.1;obtain⟨b,hb,eb,lb⟩:=aKQ (a:=u) (b:=v) (by lia);obtain⟨c,hc,ec,lc⟩:=aKQ (a:=z) (b:=o) (by lia);obtain⟨a',b',c',e1,e2,e3,r1,r2,r3⟩:=J5 hD
  grind [dT]
theorem aAB(x:Δ)(h:x.size<=1048576):aUl x/\aM2 x/\rJ x=Jf x/\uC x=CZ x:=by
 have ifT3:∀ {c:Prop} [Decidable c] {Q:Prop},(¬c->Q)->if c then True else Q:=by
  lia
 refine⟨?_,?_,?_⟩
 ·unfold aUl;have k:∀a b:Nat,a<=b->b<=10->aFP (aN x a b):=λa b _ hb=>by
   show (aN x a b).size<=18
   grind [nA]
  grind
 ·refine⟨⟨by lia,aT 1⟩,ifT3 λh0=>?_⟩;generalize eV (aD (bJ x (aA #[45])) 0 aC)=y;generalize eV (aD (bJ x (aA #[45])) 1 aC)=m;generalize eV (aD (bJ x (aA #[45])) 2 aC)=d;refine⟨by lia,by lia,by lia,?_,ifT3 λh1=>?_⟩
  ·refine ifT3 λa1=>ifT3 λa2=>?_;have a1':=win.1 (show bH y 2000 2099=true by lia);have a2':=win.1 (show bH m 1 12=true by lia);obtain⟨l0,l1,l2⟩:=MU a1' (m:=m);refine⟨l0,ifT3 λa3=>?_⟩;have a3':=win.1 (show bH d 1 (mW y m)=true by lia);exact⟨⟨a1',a2',by lia⟩,trivial⟩
  ·have hD:Y6 y m d:=bAX (by lia);rw[(aTT hD).1];exact⟨J6 hD,trivial⟩
 ·cases hs:CZ x with
  | true =>
   obtain⟨a,b,c,hD,ha,hb,hc,rfl⟩:=aUS hs;obtain⟨i0,i1⟩:=Tv hD ha (by lia) (by lia);obtain⟨s0,s1⟩:=aLB hD ha (by lia) (by lia)
   lia
  | false =>
   cases hi:uC x with
   | true =>
    obtain⟨a,b,c,hD,ha,hb,hc,rfl⟩:=aKO hi
    grind [aLB]
   | false=>exact⟨(aKP hi).trans (aUR hs).symm,rfl⟩
theorem bKb:Y6 ((2000:Nat):Int) ((1:Nat):Int) ((1:Nat):Int):=by
 refine⟨⟨by lia,by lia⟩,⟨by lia,by lia⟩,by lia,?_⟩;have:=(MU (y:=((2000:Nat):Int)) ⟨by lia,by lia⟩ (m:=((1:Nat):Int))).2.1
 lia
theorem bNh:fK ((2000:Nat):Int) ((1:Nat):Int) ((1:Nat):Int)=0:=by
 rfl
theorem aRH(x:Δ):∃a b c:Nat,Y6 (a:Int) (b:Int) (c:Int)/\(2000<=a/\a<=2099)/\b<=12/\c<=31/\rJ x=fK (a:Int) (b:Int) (c:Int)/\(uC x=true↔x=dT a b c):=by
 cases hi:uC x with
 | true =>
  obtain⟨a,b,c,hd,ha,hb,hc,rfl⟩:=aKO hi;exact⟨a,b,c,hd,ha,by lia,by lia,(Tv hd ha (by lia) (by lia)).1,⟨λ_=>rfl,λ_=>rfl⟩⟩
 | false =>
  refine⟨2000,1,1,bKb,by lia,by lia,by lia,?_,⟨(λh=>by lia),λh=>?_⟩⟩
  all_goals grind [aKP,bNh,Tv,bKb]
theorem aUT(a b c:Nat):(dT a b c).size=10:=rfl
theorem aUU(x:c7):vS x=sK x:=rfl
theorem L3{a b:Int}(h:iK x=[a,b]):uR x=true/\iF [a,b]=x/\x.data.toList≠[]:=by
 obtain⟨h1,h2⟩:=RM (x:=x) (by lia);rw[h]at h2;refine⟨h1,h2,?_⟩;unfold iK LM at h;split at h
 ·lia
 ·split at h
  ·rename_i ht;have hn:oW x=[a,b]:=h;obtain⟨h5,h6⟩:=(XA x).1 ht;have hv:∀n∈oW x,LR n:=λn hn=>by
    obtain⟨w,hw,rfl⟩:=dK.1 hn
    grind
   rw[hn]at hv;rw[RJ (by lia) (by simp) hv]at h2;rw[<- h2,RL];simp
  grind
theorem bNi{n a b:Int}{y p q:Nat}(h:sK (n,a,b,())=true)(hn:oY n=dT y p q) :
  (Dq (n,a,b,())).data.toList=(dT y p q).data.toList++32::(iF [a,b]).data.toList:=by
 unfold Dq;simp_all
theorem aUV(x:Δ)(hx:x.size<=1048576):aNz x/\aF3 x/\qP x=vW x/\CH x=C0 x:=by
 have hss:cD x 32=bss (cH 32 x.data.toList):=rfl;have hpp:P6 x 32:=⟨by lia,by lia,by lia⟩;have hpc:P65 x (aA #[32]):=(show x.size<4294967281 from by lia);have hsz:x.data.toList.length=x.size:=rfl;have rej:∀(D R:Δ),lQ x (aA #[32])=D->gG x (aA #[32])=R->D.size<=1048576->R.size<=1048576->(cH 32 x.data.toList).length≠2->(iK R).length≠2 ->
   aNz x/\aF3 x/\qP x=vW x/\CH x=C0 x:=λD R hD hR zD zR hl hr=>by
  unfold aNz aF3 qP CH vW C0 cU kQ aF0;rw[hss,hD,hR];obtain⟨_,p2,_,_⟩:=aAB D zD;have hl':(((bss (cH 32 x.data.toList)).length:Int) != 2)=true:=by
   grind [bss,cH,cM]
  have hr':(((iK R).length:Int)==2)=false:=by
   lia
  have pR:P67 R:=zR
  lia
 rcases OR 32 x.data.toList with hn | ⟨p,r,hj,hp⟩
 ·have hc:lF x.data.toList (aA #[32]).data.toList=(x.data.toList,[],false):=VF 32 hn;refine rej x (aA #[]) ?_ ?_ hx (bG _) ?_ ?_
  ·unfold lQ;rw[hc]
  ·grind [gG]
  ·grind [lG]
  ·intro h2;obtain⟨a,b,e⟩:=aFR h2;exact(L3 e).2.2 rfl
 ·have hc:lF x.data.toList (aA #[32]).data.toList=(p,r,true):=by grind [Tl]
  have c0:lQ x (aA #[32])=⟨⟨p⟩⟩:=by grind [lQ]
  have c1:gG x (aA #[32])=⟨⟨r⟩⟩:=by grind [gG]
  have hlen:p.length+(r.length+1)=x.size:=by grind
  have zp:(⟨⟨p⟩⟩:Δ).size=p.length:=rfl;have zr:(⟨⟨r⟩⟩:Δ).size=r.length:=rfl;by_cases hr:(32:UInt8)∈r
  ·refine rej _ _ c0 c1 (by lia) (by lia) ?_ ?_
   ·grind [nS,cL,nJ,qU]
   ·intro h2;refine aAu (x:=⟨⟨r⟩⟩) (k:=32) (by simp[CW]) (by lia) (by lia) (λe=>?_) hr
    grind
  ·have hs2:cH 32 x.data.toList=[p,r]:=by grind [Of]
   unfold aNz aF3 qP CH vW C0 cU kQ aF0;rw[hss,hs2,c0,c1];have e0:bss [p,r]=[⟨⟨p⟩⟩,⟨⟨r⟩⟩]:=rfl;rw[e0];have n0:((([(⟨⟨p⟩⟩:Δ),⟨⟨r⟩⟩].length:Nat):Int) != 2)=false:=rfl;have d0:aD [(⟨⟨p⟩⟩:Δ),⟨⟨r⟩⟩] 0 aC=⟨⟨p⟩⟩:=rfl;have d1:aD [(⟨⟨p⟩⟩:Δ),⟨⟨r⟩⟩] 1 aC=⟨⟨r⟩⟩:=rfl;have l0:(0:Int)<(([(⟨⟨p⟩⟩:Δ),⟨⟨r⟩⟩].length:Nat):Int):=by lia
   have l1:(1:Int)<(([(⟨⟨p⟩⟩:Δ),⟨⟨r⟩⟩].length:Nat):Int):=by lia
   obtain⟨p1,p2,r0,r1⟩:=aAB ⟨⟨p⟩⟩ (by lia);obtain⟨q0,q1⟩:=rF ⟨⟨r⟩⟩;have pR:P67 ⟨⟨r⟩⟩:=(show r.length<=1048576 from by lia);have pS:P41 ⟨⟨r⟩⟩:=(show r.length<4294967281 from by lia);simp only[n0,d0,d1,l0,l1, <- r0, <- r1,q0,q1,fU,if_false,true_and,and_true];cases s1:uC ⟨⟨p⟩⟩ with
   | false=>lia
   | true =>
    obtain⟨y,m,d,hd,hy,hm,hdd,v0,v1⟩:=aRH ⟨⟨p⟩⟩;have ep:=v1.1 s1;have hdt:oY (rJ ⟨⟨p⟩⟩)=dT y m d:=by grind [Ez]
    have hdp:MY (rJ ⟨⟨p⟩⟩):=by grind [J6]
    by_cases h2:(iK ⟨⟨r⟩⟩).length=2
    ·obtain⟨a,b,e⟩:=aFR h2;obtain⟨t1,t2,_⟩:=L3 e;rw[e,t1];have n2:((([a,b].length:Nat):Int) != 2)=false:=rfl;have n3:((([a,b].length:Nat):Int)==2)=true:=rfl;have g0:aD [a,b] 0 0=a:=rfl;have g1:aD [a,b] 1 0=b:=rfl;have m0:(0:Int)<(([a,b].length:Nat):Int):=by lia
     have m1:(1:Int)<(([a,b].length:Nat):Int):=by lia
     have hP:aPp (rJ ⟨⟨p⟩⟩,a,b,()):=by
      unfold aPp;split
      ·lia
      ·have e1:(aA #[32]).size=1:=rfl
       grind
     simp only[n2,n3,g0,g1,m0,m1,u0,fU,if_false,true_and,and_true,aUU];refine⟨⟨hpp,p1,pS⟩,⟨hpc,p2,pR,hP⟩,?_⟩;cases hv:sK (rJ ⟨⟨p⟩⟩,a,b,())with
     | true =>
      grind [Dq,rJ,zQ,bNi]
     | false =>
      have ht:Dq (rJ ⟨⟨p⟩⟩,a,b,())=aA #[]:=by
       grind [Dq]
      have hne:(aB (aA #[])==aB x)=false:=by
       rw[cG];intro hh;have:=(bE _ _).1 hh
       grind
      lia
    lia
theorem bKc{a:Δ}{n m:Nat}(h:qL (a,(n:Int),(m:Int),())=true)(hn:n<=1440)(hm:m<=1440) :
  (CF (a,(n:Int),(m:Int),())).data.toList=a.data.toList++32::((Kx (n/60) (n%60)).data.toList++32::(Kx (m/60) (m%60)).data.toList):=by
 unfold CF
 grind [Og,aQf]
theorem bNj(a:Δ)(n m:Int)(hs:a.size<=1048576):aPl (a,n,m,()):=by
 unfold aPl;split
 ·lia
 ·obtain⟨h1,h2,h3,h4⟩:=JZ (a:=a) (n:=n) (m:=m) (by lia);obtain⟨n,rfl⟩:=eU h1;obtain⟨m,rfl⟩:=eU h3;have e1:(aA #[32]).size=1:=rfl;simp only[Og (show n<=1440 by lia),Og (show m<=1440 by lia),bD,aQh];exact⟨by lia,Tr _,by lia,by lia,Tr _,by lia,trivial⟩
theorem Rh(x:Δ)(hx:x.size<=1048576):P37 x/\aM0 x/\lI x=Sx x/\vF x=LY x:=by
 have hsp:bJ x (aA #[32])=bss (cH 32 x.data.toList):=vC 32 x;have hss:cD x 32=bss (cH 32 x.data.toList):=rfl;have hps:P17 x (aA #[32]):=⟨by lia,aT 1⟩;have hpp:P6 x 32:=⟨by lia,by lia,by lia⟩;unfold P37 aM0 lI vF Sx LY;rw[hsp,hss];by_cases h3:(cH 32 x.data.toList).length=3
 ·obtain⟨a,b,c,e⟩:=Wp h3;have hj:=aFQ e;have hsz:x.data.toList.length=x.size:=rfl;rw[hj]at hsz;simp at hsz;rw[e];have e0:bss [a,b,c]=[⟨⟨a⟩⟩,⟨⟨b⟩⟩,⟨⟨c⟩⟩]:=rfl;rw[e0];have n0:((([(⟨⟨a⟩⟩:Δ),⟨⟨b⟩⟩,⟨⟨c⟩⟩].length:Nat):Int) != 3)=false:=rfl;have d0:aD [(⟨⟨a⟩⟩:Δ),⟨⟨b⟩⟩,⟨⟨c⟩⟩] 0 aC=⟨⟨a⟩⟩:=rfl;have d1:aD [(⟨⟨a⟩⟩:Δ),⟨⟨b⟩⟩,⟨⟨c⟩⟩] 1 aC=⟨⟨b⟩⟩:=rfl;have d2:aD [(⟨⟨a⟩⟩:Δ),⟨⟨b⟩⟩,⟨⟨c⟩⟩] 2 aC=⟨⟨c⟩⟩:=rfl;have l0:(0:Int)<(([(⟨⟨a⟩⟩:Δ),⟨⟨b⟩⟩,⟨⟨c⟩⟩].length:Nat):Int):=by lia
  have l1:(1:Int)<(([(⟨⟨a⟩⟩:Δ),⟨⟨b⟩⟩,⟨⟨c⟩⟩].length:Nat):Int):=by lia
  have l2:(2:Int)<(([(⟨⟨a⟩⟩:Δ),⟨⟨b⟩⟩,⟨⟨c⟩⟩].length:Nat):Int):=by lia
  have za:(⟨⟨a⟩⟩:Δ).size=a.length:=rfl;have zb:(⟨⟨b⟩⟩:Δ).size=b.length:=rfl;have zc:(⟨⟨c⟩⟩:Δ).size=c.length:=rfl;have pb:=aJq (x:=⟨⟨b⟩⟩) (by lia);have pc:=aJq (x:=⟨⟨c⟩⟩) (by lia);simp;refine⟨⟨hpp,aQj _,aQj _⟩,⟨hps,pb,pc,bNj _ _ _ (by lia)⟩,?_⟩;have free:=u3 32 x.data.toList;rw[e]at free;have fa:=free a (by simp);by_cases hS:CU ⟨⟨b⟩⟩=true/\CU ⟨⟨c⟩⟩=true/\CR (⟨⟨a⟩⟩,CT ⟨⟨b⟩⟩,CT ⟨⟨c⟩⟩,())=true
  ·obtain⟨s1,s2,s3⟩:=hS;obtain⟨n,hn,eb⟩:=aQi s1;obtain⟨m,hm,ec⟩:=aQi s2
   grind [aWG,aAn,bHL,CF,zQ,bKc]
  ·have hI:¬CF (⟨⟨a⟩⟩,qO ⟨⟨b⟩⟩,qO ⟨⟨c⟩⟩,())=x:=by
    intro ht;by_cases hv:qL (⟨⟨a⟩⟩,qO ⟨⟨b⟩⟩,qO ⟨⟨c⟩⟩,())=true
    ·obtain⟨h1,h2,h3,h4⟩:=JZ hv;obtain⟨n,en⟩:=eU h1;obtain⟨m,em⟩:=eU h3;rw[en,em]at ht hv;have hn:n<=1440:=by lia
     have hm:m<=1440:=by lia
     have hd:=bKc hv hn hm;have hsx:=Wo (k:=32) fa (aAm (h:=n/60) (m:=n%60) (by lia) (by lia)) (aAm (h:=m/60) (m:=m%60) (by lia) (by lia))
     grind [Kx,zQ,aWG,aAn]
    ·unfold CF at ht;rw[<- ht]at hj;simp_all
   have hI':(!aB (CF (⟨⟨a⟩⟩,qO ⟨⟨b⟩⟩,qO ⟨⟨c⟩⟩,()))==aB x)=true:=by
    grind [bE]
   lia
 ·have hl:((bss (cH 32 x.data.toList)).length:Int)≠3:=by
   grind [bss,cM]
  lia
theorem PE(x:Δ)(k:Int)(hk:0<k):((iK x).length:Int)=k->pO x=true:=λh=>by
 rw[(rF x).2]
 grind [RM]
theorem aRI(hx:x.size<=1048576):P34 x/\LW x=Fx x/\aLe x=Ig x:=by
 have e0:=(rF x).1;have pl:P41 x:=(show x.size<4294967281 from by lia);have ev:∀y,EF y=Bw y:=λ_=>rfl;unfold P34 aLe LW Ig Fx cU kQ;by_cases c:((iK x).length:Int)=4
 ·have h:=PE x 4 (by lia) c
  grind
 lia
theorem aRJ(hx:x.size<=1048576):P35 x/\uU x=zA x/\yN x=oX x:=by
 have e0:=(rF x).1;have pl:P41 x:=(show x.size<4294967281 from by lia);have ev:∀y,ED y=xF y:=λy=>(aFO y).symm;unfold P35 yN uU oX zA cU kQ;simp[ev];by_cases c:((iK x).length:Int)=3
 ·have h:=PE x 3 (by lia) c
  lia
 lia
theorem aNC(hx:x.size<=1048576):P35 x/\LX x=Fy x/\aLf x=Ih x:=by
 have e0:=(rF x).1;have pl:P41 x:=(show x.size<4294967281 from by lia);have ev:∀y,EG y=yK y:=λ_=>rfl;unfold P35 aLf LX Ih Fy cU kQ;by_cases c:((iK x).length:Int)=3
 ·have h:=PE x 3 (by lia) c
  grind
 lia
theorem aND(hx:x.size<=1048576):P34 x/\LZ x=Fz x/\aLh x=Ii x:=by
 have e0:=(rF x).1;have pl:P41 x:=(show x.size<4294967281 from by lia);have ev:∀y,EH y=xH y:=λ_=>rfl;unfold P34 aLh LZ Ii Fz cU kQ;by_cases c:((iK x).length:Int)=4
 ·have h:=PE x 4 (by lia) c
  grind
 lia
theorem aGH(hx:x.size<=1048576)(V:Δ×Int×Int×Int×Unit->Bool)(T:Δ×Int×Int×Int×Unit->Δ)(hT:∀y,T y=if V y=true then y.1++aA #[32]++iF [y.2.1,y.2.2.1,y.2.2.2.1] else aA #[])
  (l:Γ Int) (hl:l=iK (gG x (aA #[32]))) (y:eR) (hy:y=(lQ x (aA #[32]),l.getD 0 0,l.getD 1 0,l.getD 2 0,())) :
  P96 x/\(BE x&&V (DW x,(iT x).getD 0 0,(iT x).getD 1 0,(iT x).getD 2 0,()))=(((l.length:Int)==3)&&(aB (T y)==aB x))/\(BE x=true->(iT x).length=3/\(DW x,(iT x).getD 0 0,(iT x).getD 1 0,(iT x).getD 2 0,())=y):=by
 have hss:cD x 32=bss (cH 32 x.data.toList):=rfl;have hpp:P6 x 32:=⟨by lia,by lia,by lia⟩;have hsz:x.data.toList.length=x.size:=rfl;have rej:(cH 32 x.data.toList).length≠2->l.length≠3->P96 x/\(BE x&&V (DW x,(iT x).getD 0 0,(iT x).getD 1 0,(iT x).getD 2 0,()))=(((l.length:Int)==3)&&(aB (T y)==aB x))/\(BE x=true->(iT x).length=3/\(DW x,(iT x).getD 0 0,(iT x).getD 1 0,(iT x).getD 2 0,())=y):=λh1 h2=>by
  have c:(((bss (cH 32 x.data.toList)).length:Int) != 2)=true:=bne_iff_ne.2 (by grind [bss,cM]);have e:BE x=false:=by grind [BE]
  refine⟨?_,?_,?_⟩
  ·unfold P96
   lia
  all_goals lia
 rcases OR 32 x.data.toList with hn | ⟨p,r,hj,hp⟩
 ·have hc:lF x.data.toList (aA #[32]).data.toList=(x.data.toList,[],false):=VF 32 hn;have c1:gG x (aA #[32])=aA #[]:=by grind [gG]
  refine rej (by grind [lG]) ?_;rw[hl,c1];simp[UB]
 ·have hc:lF x.data.toList (aA #[32]).data.toList=(p,r,true):=by grind [Tl]
  have c0:lQ x (aA #[32])=⟨⟨p⟩⟩:=by grind [lQ]
  have c1:gG x (aA #[32])=⟨⟨r⟩⟩:=by grind [gG]
  have hlen:p.length+(r.length+1)=x.size:=by grind
  by_cases hr:(32:UInt8)∈r
  ·refine rej ?_ λh3=>?_
   ·grind [nS,cL,nJ,qU]
   ·refine aAu (x:=⟨⟨r⟩⟩) (k:=32) (by simp[CW]) (by lia) (by lia) (λe=>?_) hr
    grind
  ·have hs2:cH 32 x.data.toList=[p,r]:=by grind [Of]
   have e0:bss [p,r]=[⟨⟨p⟩⟩,⟨⟨r⟩⟩]:=rfl;have n0:((([(⟨⟨p⟩⟩:Δ),⟨⟨r⟩⟩].length:Nat):Int) != 2)=false:=rfl;have d0:aD [(⟨⟨p⟩⟩:Δ),⟨⟨r⟩⟩] 0 aC=⟨⟨p⟩⟩:=rfl;have d1:aD [(⟨⟨p⟩⟩:Δ),⟨⟨r⟩⟩] 1 aC=⟨⟨r⟩⟩:=rfl;have pS:P41 ⟨⟨r⟩⟩:=(show r.length<4294967281 from by lia);rw[c1]at hl;rw[c0]at hy;have el:=(rF ⟨⟨r⟩⟩).1;unfold P96 DW iT BE;rw[hss,hs2,e0,n0,d0,d1,el, <- hl];by_cases c:l.length=3
   ·have ci:(l.length:Int)=3:=by lia
    have ok:=PE ⟨⟨r⟩⟩ 3 (by lia) (by lia);obtain⟨_,hb⟩:=RM (x:=⟨⟨r⟩⟩) (λe=>by grind);rw[<- hl]at hb;obtain⟨a,b,d,rfl⟩:=Wp c;rw[ok];have hy:y=(⟨⟨p⟩⟩,a,b,d,()):=hy;refine⟨⟨hpp,(ν (by lia)).mpr ⟨(show (1:Int)<2 by lia),pS,(ν (by lia)).mpr ((ν (show ¬(((3:Nat):Int) != 3)=true by lia)).mpr ⟨(show (0:Int)<2 by lia),trivial⟩)⟩⟩,?_,λ_=>⟨rfl,hy.symm⟩⟩;show (true&&V (⟨⟨p⟩⟩,a,b,d,()))=(true&&(aB (T y)==aB x));rw[hT y,hy];by_cases v:V (⟨⟨p⟩⟩,a,b,d,())=true
    ·rw[π v,v];refine(congrArg (true && ·) ((bE _ _).2 (zQ ?_))).symm;simp_all
    ·rw[ν v,cG.2 v];refine(congrArg (true && ·) (cG.2 λh=>?_)).symm;rw[<- (bE _ _).1 h]at hj;simp_all
   lia
theorem bb1(a b:Bool):(if(!a)=true then false else(if(!b)=true then false else true))=(a&&b):=by lia
theorem bb0{α:Type}{a b:Bool}(z y:α)(h:(a&&b)=true):(if(!a)=true then z else(if(!b)=true then z else y))=y:=by lia
theorem aRK(hx:x.size<=1048576):P31 x/\LV x=xO x/\(xO x=true->XR x=mC x):=by
 obtain⟨p,q,r⟩:=aGH hx oV MP (λy=>by grind [MP]) _ rfl _ rfl;have es:LV x=(BE x&&oV (DW x,(iT x).getD 0 0,(iT x).getD 1 0,(iT x).getD 2 0,())):=by
  simp[LV,Wi]
 have ei:xO x=_:=bb1 _ _;refine⟨?_,es.trans (q.trans ei.symm),λh=>?_⟩
 ·unfold P31
  lia
 ·have h2:=h;rw[ei]at h;rw[<- es.trans (q.trans ei.symm),es]at h2;have hb:=(aV _ _ ▸ h2).1;unfold XR mC;rw[<- Wi,bb0 _ _ h2,(r hb).2];exact(bb0 _ _ h).symm
theorem aRL(hx:x.size<=1048576):P31 x/\EN x=xQ x/\(xQ x=true->NN x=mD x):=by
 obtain⟨p,q,r⟩:=aGH hx sJ MQ (λy=>by grind [MQ]) _ rfl _ rfl;have es:EN x=(BE x&&sJ (DW x,(iT x).getD 0 0,(iT x).getD 1 0,(iT x).getD 2 0,())):=by
  simp[EN,Wj]
 have ei:xQ x=_:=bb1 _ _;refine⟨?_,es.trans (q.trans ei.symm),λh=>?_⟩
 ·unfold P31
  lia
 ·have h2:=h;rw[ei]at h;rw[<- es.trans (q.trans ei.symm),es]at h2;have hb:=(aV _ _ ▸ h2).1;unfold NN mD;rw[<- Wj,bb0 _ _ h2,(r hb).2];exact(bb0 _ _ h).symm
theorem aNE:∀v:Fin 8,aBT ((v.val:Nat):Int)=Q5 ((v.val:Nat):Int):=by decide +kernel
theorem aAC(s:Δ):∀(k v:Nat),v+k=8->Sy s k (v:Int)=S9 s k (v:Int)
 | 0,_,_=>rfl
 | k+1,v,h=>by
  have e:=aNE ⟨v,by lia⟩;unfold Sy S9 aQU aPn;rw[e,show (v:Int)+1=((v+1:Nat):Int)by omega,aAC s k (v+1) (by omega)]
theorem aAD(s:Δ):aBU s=aBp s/\RX s=Q7 s:=by
 have h:=aAC s 8 0 rfl;exact⟨congrArg Prod.fst h,congrArg Prod.snd h⟩
theorem YC(hx:x.size<=1048576):aQV x/\G8 x=Fu x/\G9 x=Fv x/\Gb x=Fw x/\NQ x=MS x:=by
 have hsp:bJ x (aA #[32])=bss (cH 32 x.data.toList):=vC 32 x;have hss:cD x 32=bss (cH 32 x.data.toList):=rfl;have hpp:P6 x 32:=⟨by lia,by lia,by lia⟩;have e2:=λy=>(AQ y).1;have e3:=λy=>(AQ y).2;have k0:=λy=>(aAD y).1;have k1:=λy=>(aAD y).2;unfold aQV G8 G9 Gb NQ Fu Fv Fw MS
 grind
theorem N0(hx:x.size<=1048576):aQW x/\EO x=vG x/\Jh x=lJ x:=by
 obtain⟨p,a,b,c,d⟩:=YC hx;unfold aQW Jh EO lJ vG;rw[<- Wk]
 lia
def fin(o:Γ Δ)(k:Int):Γ Δ:=if k=0 then(if o=[]\/o=[aA #[]] then [aA #[110,111,110,101]] else o)else [aA #[101,114,114,111,114,32]++Sk k]
def tY(d:bV)(c:CMD):Option (Γ Δ×bV):=if gS d c=true then some (fin (fS d c) (gA d c),if gA d c=0 then gV d c else d)else none
theorem zU{d y:bV}{o:Γ Δ}{k:Int}(h:fS d c=o/\gA d c=k/\gS d c=b/\gV d c=y):tY d c=if b=true then some (fin o k,if k=0 then y else d)else none:=by
 grind [tY]
theorem mP{o:Γ Δ}{k:Int}(h:fS d c=o/\gA d c=k/\gS d c=true/\gV d c=d):tY d c=some (fin o k,d):=by
 rw[zU h,π rfl,ite_self]
theorem aRM(o n:Γ Δ):(if(((o.length:Nat):Int)==0)=true then n else(if(((o.length:Nat):Int)==1)=true then(if(aB (o.getD 0 aC)==aB (aA #[]))=true then n else o)else o))=if o=[]\/o=[aA #[]] then n else o:=by
 cases o with
 | nil=>rfl
 | cons a r =>
  rw[ν (by grind)];cases r with
  | nil =>
   rw[π (show (((([a]:Γ Δ).length:Nat):Int)==1)=true from rfl),show [a].getD 0 aC=a from rfl];by_cases c:a=aA #[]
   ·lia
   ·rw[ν (λh=>c ((bE _ _).1 h)),ν (λh=>h.elim (λh=>by lia) (λh=>c (by lia)))]
  | cons b r=>grind
theorem aUW(hv:Bz d=true)(x:Δ):(CB x=true->∀a,tY d (iE x)=some a->JS d x=0/\CN d x=a.1/\LO d x=a.2)/\(CB x=false\/tY d (iE x)=none->JS d x=8):=by
 unfold LO CN JS tY;rw[show jO d=d from rfl];cases hr:CB x with
 | false=>lia
 | true =>
  generalize iE x=c;cases hb:gS d c with
  | false=>lia
  | true =>
   refine⟨λ_ a h=>?_,λh=>?_⟩
   ·injection h with h
    subst h;unfold fin;by_cases k:gA d c=0
    ·rw[<- aRM]
     lia
    lia
   lia
theorem aUX(k:Int):P98 k/\aGj k=Sk k:=by
 have e:cJ k 0 11=decide (0<=k/\k<=11):=aB9;unfold P98 aGj Sk
 lia
theorem tJ(k:Int):P32 k/\(k≠0->∀o,AR k=fin o k):=by
 obtain⟨p,e⟩:=aUX k;have hz:=(Rg k).2;unfold P32 AR fin
 lia
theorem EX(k:Int):AR k=fin [aA #[111,107]] k:=by
 by_cases h:k=0
 ·rw[h];rfl
 ·exact(tJ k).2 h _
theorem Gh(o:Γ Δ)(k:Int)(hl:o.length<=1048576)(h:(∀s∈o,s≠aA #[])\/o.length=1):P28 o k/\FA o k=fin o k:=by
 refine⟨⟨λ_=>(tJ k).1,hl⟩,?_⟩;unfold FA;by_cases hk:k=0
 ·unfold fin;rw[hk,ν (by lia),π rfl, <- aRM];cases o with
  | nil=>rfl
  | cons a r =>
   have e0:((((a::r).length:Nat):Int)==0)=false:=beq_false_of_ne (by grind);have all:(∀s∈a::r,s≠aA #[])->(a::r).map aJ1=a::r:=λh=>by
    conv=>rhs;rw[<- List.map_id (a::r)]
    refine pF λs hs=>?_;unfold aJ1;rw[ν (λq=>h s hs ((bE _ _).1 q))];rfl
   rcases h with h | h
   ·rw[ν (by lia),ν (by lia),all h,show (a::r).getD 0 aC=a from rfl];rw[ν (λq=>h a (aR ..) ((bE _ _).1 q)),ite_self]
   ·grind [aJ1]
 ·rw[π (by lia)];exact(tJ k).2 hk o
theorem BR(n k:Int):P44 n k/\X4 n k=fin [dF n] k:=by
 have h:=Gh [kI n] k (show 1<=1048576 by lia) (.inr rfl);exact⟨⟨h.1,trivial⟩,h.2⟩
theorem PF{l:Γ Int}(k:Int)(h:l.length<=64/\∀n∈l,LR n):P25 l k/\XG l k=fin [iF l] k:=by
 obtain⟨p,e⟩:=aRD h.1 h.2;have q:=Gh [Ok l] k (show 1<=1048576 by lia) (.inr rfl);unfold P25 XG
 lia
theorem aJO(d:bV)(t:Δ)(n l:Γ Int):tY d (aA #[115,108,111,119,101,115,116],t,n,l,())=some (fin ([dF (GC d.1 (n.getD 0 0))]) (M1 d.1 (n.getD 0 0)),d):=by
 refine mP ?_;unfold fS gA gS gV AN BC sO CJ dZ;simp
theorem aJP(d:bV)(t:Δ)(n l:Γ Int):tY d (aA #[114,101,115,101,114,118,101],t,n,l,())=some (fin ([dF (Qf d.2.1 (n.getD 0 0))]) (Vp d.2.1 (n.getD 0 0)),d):=by
 refine mP ?_;unfold fS gA gS gV AN BC sO CJ dZ;simp
theorem aRN(d:bV)(t:Δ)(n l:Γ Int):tY d (aA #[112,111,119,101,114],t,n,l,())=some (fin ([dF (Qh d.2.2.2.2.1 (n.getD 0 0) (n.getD 1 0))]) (Vq d.2.2.2.2.1 (n.getD 0 0) (n.getD 1 0)),d):=by
 refine mP ?_;unfold fS gA gS gV AN BC sO CJ dZ;simp
theorem aUY(d:bV)(t:Δ)(n l:Γ Int):tY d (aA #[118,111,116,101],t,n,l,())=some (fin ([dF (GF l (n.getD 0 0))]) (JE l (n.getD 0 0)),d):=by
 refine mP ?_;unfold fS gA gS gV AN BC sO CJ dZ;simp
theorem aRO(d:bV)(t:Δ)(n l:Γ Int):tY d (aA #[119,97,116,101,114],t,n,l,())=some (fin ([dF (Qk d.2.2.2.2.2.2.2.1 (n.getD 0 0) (n.getD 1 0) (n.getD 2 0) (n.getD 3 0) (n.getD 4 0))]) (Vy d.2.2.2.2.2.2.2.1 (n.getD 0 0) (n.getD 1 0) (n.getD 2 0) (n.getD 3 0) (n.getD 4 0)),d):=by
 refine mP ?_;unfold fS gA gS gV AN BC sO CJ dZ;simp
theorem aJQ(d:bV)(t:Δ)(n l:Γ Int):tY d (aA #[114,117,110,110,105,110,103],t,n,l,())=some (fin ([iF (Dv d.2.2.2.1 d.2.2.1)]) (JG d.2.2.2.1 d.2.2.1),d):=by
 refine mP ?_;unfold fS gA gS gV AN BC EA GL dZ;simp
theorem aRP(d:bV)(t:Δ)(n l:Γ Int):tY d (aA #[99,111,118,101,114],t,n,l,())=some (fin ([iF (Dw d.2.2.2.2.2.2.1 (n.getD 0 0) (n.getD 1 0))]) (Me d.2.2.2.2.2.2.1 (n.getD 0 0) (n.getD 1 0)),d):=by
 refine mP ?_;unfold fS gA gS gV AN BC EA GL dZ;simp
theorem aRQ(d:bV)(t:Δ)(n l:Γ Int):tY d (aA #[113,117,101,117,101],t,n,l,())=some (fin ([iF (JK l (n.getD 0 0) (n.getD 1 0))]) (Qm l (n.getD 0 0) (n.getD 1 0)),d):=by
 refine mP ?_;unfold fS gA gS gV AN BC EA GL dZ;simp
theorem aUZ(d:bV)(t:Δ)(n l:Γ Int):tY d (aA #[102,105,108,108],t,n,l,())=some (fin ([iF (JL d.2.2.2.2.2.2.2.2.2.2.1 d.2.2.2.2.2.2.2.2.2.2.2.1)]) (Qq d.2.2.2.2.2.2.2.2.2.2.1 d.2.2.2.2.2.2.2.2.2.2.2.1),d):=by
 refine mP ?_;unfold fS gA gS gV AN BC EA GL dZ;simp
theorem aRR(d:bV)(t:Δ)(n l:Γ Int):tY d (aA #[116,114,105,112,115],t,n,l,())=some (fin (Aj d.2.2.2.2.2.2.2.2.1 l) (JM d.2.2.2.2.2.2.2.2.1 l),d):=by
 refine mP ?_;unfold fS gA gS gV AN BC dZ;simp
theorem bCU(d:bV)(t:Δ)(n l:Γ Int):tY d (aA #[100,117,101],t,n,l,())=some (fin ([oY (JO d.2.2.2.2.2.2.2.2.2.1 (n.getD 0 0) (n.getD 1 0))]) (Qr d.2.2.2.2.2.2.2.2.2.1 (n.getD 0 0) (n.getD 1 0)),d):=by
 refine mP ?_;unfold fS gA gS gV AN BC dZ;simp
theorem aNF(d:bV)(t:Δ)(n l:Γ Int):tY d (aA #[114,101,112,111,114,116],t,n,l,())=some (fin (Al d.2.2.2.2.2.2.2.2.2.1) (JQ d.2.2.2.2.2.2.2.2.2.1),d):=by
 refine mP ?_;unfold fS gA gS gV AN BC dZ;simp
theorem aVa(d:bV)(t:Δ)(n l:Γ Int):tY d (aA #[115,104,111,119],t,n,l,())=some (fin (zO d) (JR d),d):=by
 refine mP ?_;unfold fS gA gS gV AN BC dZ;simp
theorem aVb(d:bV)(t:Δ)(n l:Γ Int):tY d (aA #[104,101,108,112],t,n,l,())=some (fin (Es) (0),d):=by
 refine mP ?_;unfold fS gA gS gV AN BC dZ;simp
theorem aRS(d:bV)(t:Δ)(n l:Γ Int):tY d (aA #[101,118,101,110,116],t,n,l,())=some (fin [zH (xR d.2.2.2.2.2.1 (n.getD 0 0))] (sL d.2.2.2.2.2.1 (n.getD 0 0)),if sL d.2.2.2.2.2.1 (n.getD 0 0)=0 then(d.1,d.2.1,d.2.2.1,d.2.2.2.1,d.2.2.2.2.1,xR d.2.2.2.2.2.1 (n.getD 0 0),d.2.2.2.2.2.2)else d):=by
 by_cases c:(sL d.2.2.2.2.2.1 (n.getD 0 0) != 0)=true
 ·have k:fS d (aA #[101,118,101,110,116],t,n,l,())=[]/\gA d (aA #[101,118,101,110,116],t,n,l,())=sL d.2.2.2.2.2.1 (n.getD 0 0)/\gS d (aA #[101,118,101,110,116],t,n,l,())=true/\gV d (aA #[101,118,101,110,116],t,n,l,())=d:=by
   unfold fS gA gS gV Sa Sb Sc dZ;simp_all
  rw[mP k];unfold fin
  lia
 ·have k:fS d (aA #[101,118,101,110,116],t,n,l,())=[zH (xR d.2.2.2.2.2.1 (n.getD 0 0))]/\gA d (aA #[101,118,101,110,116],t,n,l,())=0/\gS d (aA #[101,118,101,110,116],t,n,l,())=true/\gV d (aA #[101,118,101,110,116],t,n,l,())=(d.1,d.2.1,d.2.2.1,d.2.2.2.1,d.2.2.2.2.1,xR d.2.2.2.2.2.1 (n.getD 0 0),d.2.2.2.2.2.2):=by
   unfold fS gA gS gV Sa Sb Sc dZ;simp_all
  have c:sL d.2.2.2.2.2.1 (n.getD 0 0)=0:=by lia
  rw[zU k,c,π rfl]
theorem aRT(d:bV)(t:Δ)(n l:Γ Int)(hl:d.2.2.2.1.length<=8):tY d (aA #[108,105,109,105,116],t,n,l,())=some (AR (Xd d n),aCc d n):=by
 have e:CP [(n.getD 0 0,n.getD 1 0,n.getD 2 0,())]=qK (n.getD 0 0,n.getD 1 0,n.getD 2 0,()):=by
  rw[aAj];show (Od (n.getD 0 0,n.getD 1 0,n.getD 2 0,())&&true&&decide ((1:Int)<=8))=_
  lia
 unfold Xd aCc;rw[e,EX];by_cases c:(!qK (n.getD 0 0,n.getD 1 0,n.getD 2 0,()))=true
 ·have k:fS d (aA #[108,105,109,105,116],t,n,l,())=[]/\gA d (aA #[108,105,109,105,116],t,n,l,())=2/\gS d (aA #[108,105,109,105,116],t,n,l,())=true/\gV d (aA #[108,105,109,105,116],t,n,l,())=d:=by
   unfold fS gA gS gV Sa Sb Sc dZ;simp_all
  rw[mP k,π c,π c]<;>rfl
 ·have k:fS d (aA #[108,105,109,105,116],t,n,l,())=[aA #[111,107]]/\gA d (aA #[108,105,109,105,116],t,n,l,())=Dp d.2.2.2.1 (n.getD 0 0,n.getD 1 0,n.getD 2 0,()) 8/\gS d (aA #[108,105,109,105,116],t,n,l,())=true/\gV d (aA #[108,105,109,105,116],t,n,l,())=(d.1,d.2.1,d.2.2.1,MT d.2.2.2.1 (n.getD 0 0,n.getD 1 0,n.getD 2 0,()) 8,d.2.2.2.2):=by
   unfold fS gA gS gV Sa Sb Sc dZ;simp_all
  rw[zU k,ν c,ν c];unfold MT Dp;by_cases q:(d.2.2.2.1.length:Int)=8
  ·lia
  ·have q1:¬decide ((d.2.2.2.1.length:Int)>=8)=true:=by lia
   have q2:¬((d.2.2.2.1.length:Int)==8)=true:=λh=>q (beq_iff_eq.1 h);rw[ν q1,ν q1,ν q2,ν q2]<;>rfl
theorem aVc(hv:uP d.1=true)(t:Δ)(n l:Γ Int):tY d (aA #[98,101,110,100],t,n,l,())=if xO t=true then some (fin [aA #[111,107]] (pC d.1 (mC t) 12),(pL d.1 (mC t) 12,d.2))else none:=by
 obtain⟨_,e0,e1⟩:=aLx hv (mC t);have k:fS d (aA #[98,101,110,100],t,n,l,())=[aA #[111,107]]/\gA d (aA #[98,101,110,100],t,n,l,())=oZ d.1 (mC t) 12/\gS d (aA #[98,101,110,100],t,n,l,())=xO t/\gV d (aA #[98,101,110,100],t,n,l,())=(vI d.1 (mC t) 12,d.2):=by
  unfold fS gA gS gV DI DJ DK dZ
  lia
 rw[zU k];by_cases c:pC d.1 (mC t) 12=0
 ·lia
 ·have q:pL d.1 (mC t) 12=d.1:=ν c
  lia
theorem aNG(hv:uQ d.2.2.2.2.2.2.1=true)(t:Δ)(n l:Γ Int):tY d (aA #[119,111,114,107,101,114],t,n,l,())=if vF t=true then some (fin [aA #[111,107]] (pC d.2.2.2.2.2.2.1 (lI t) 12),(d.1,d.2.1,d.2.2.1,d.2.2.2.1,d.2.2.2.2.1,d.2.2.2.2.2.1,pL d.2.2.2.2.2.2.1 (lI t) 12,d.2.2.2.2.2.2.2))else none:=by
 obtain⟨_,e0,e1⟩:=aA8 hv (lI t);have k:fS d (aA #[119,111,114,107,101,114],t,n,l,())=[aA #[111,107]]/\gA d (aA #[119,111,114,107,101,114],t,n,l,())=o0 d.2.2.2.2.2.2.1 (lI t) 12/\gS d (aA #[119,111,114,107,101,114],t,n,l,())=vF t/\gV d (aA #[119,111,114,107,101,114],t,n,l,())=(d.1,d.2.1,d.2.2.1,d.2.2.2.1,d.2.2.2.2.1,d.2.2.2.2.2.1,vJ d.2.2.2.2.2.2.1 (lI t) 12,d.2.2.2.2.2.2.2):=by
  unfold fS gA gS gV DI DJ DK dZ;simp
 rw[zU k];by_cases c:pC d.2.2.2.2.2.2.1 (lI t) 12=0
 ·lia
 ·have q:pL d.2.2.2.2.2.2.1 (lI t) 12=d.2.2.2.2.2.2.1:=ν c
  lia
theorem aVd(hv:rB d.2.2.2.2.2.2.2.2.1=true)(t:Δ)(n l:Γ Int):tY d (aA #[102,97,114,101],t,n,l,())=if xQ t=true then some (fin [aA #[111,107]] (pC d.2.2.2.2.2.2.2.2.1 (mD t) 8),(d.1,d.2.1,d.2.2.1,d.2.2.2.1,d.2.2.2.2.1,d.2.2.2.2.2.1,d.2.2.2.2.2.2.1,d.2.2.2.2.2.2.2.1,pL d.2.2.2.2.2.2.2.2.1 (mD t) 8,d.2.2.2.2.2.2.2.2.2))else none:=by
 obtain⟨_,e0,e1⟩:=aLy hv (mD t);have k:fS d (aA #[102,97,114,101],t,n,l,())=[aA #[111,107]]/\gA d (aA #[102,97,114,101],t,n,l,())=o3 d.2.2.2.2.2.2.2.2.1 (mD t) 8/\gS d (aA #[102,97,114,101],t,n,l,())=xQ t/\gV d (aA #[102,97,114,101],t,n,l,())=(d.1,d.2.1,d.2.2.1,d.2.2.2.1,d.2.2.2.2.1,d.2.2.2.2.2.1,d.2.2.2.2.2.2.1,d.2.2.2.2.2.2.2.1,vK d.2.2.2.2.2.2.2.2.1 (mD t) 8,d.2.2.2.2.2.2.2.2.2):=by
  unfold fS gA gS gV DI DJ DK dZ;simp
 rw[zU k];by_cases c:pC d.2.2.2.2.2.2.2.2.1 (mD t) 8=0
 ·lia
 ·have q:pL d.2.2.2.2.2.2.2.2.1 (mD t) 8=d.2.2.2.2.2.2.2.2.1:=ν c
  lia
theorem aNH(hv:xJ d.2.2.2.2.2.2.2.2.2.2.1=true)(t:Δ)(n l:Γ Int):tY d (aA #[104,101,108,112,101,114],t,n,l,())=if vG t=true then some (fin [aA #[111,107]] (pC d.2.2.2.2.2.2.2.2.2.2.1 (lJ t) 10),(d.1,d.2.1,d.2.2.1,d.2.2.2.1,d.2.2.2.2.1,d.2.2.2.2.2.1,d.2.2.2.2.2.2.1,d.2.2.2.2.2.2.2.1,d.2.2.2.2.2.2.2.2.1,d.2.2.2.2.2.2.2.2.2.1,pL d.2.2.2.2.2.2.2.2.2.2.1 (lJ t) 10,d.2.2.2.2.2.2.2.2.2.2.2))else none:=by
 obtain⟨_,e0,e1⟩:=aA9 hv (lJ t);have k:fS d (aA #[104,101,108,112,101,114],t,n,l,())=[aA #[111,107]]/\gA d (aA #[104,101,108,112,101,114],t,n,l,())=o4 d.2.2.2.2.2.2.2.2.2.2.1 (lJ t) 10/\gS d (aA #[104,101,108,112,101,114],t,n,l,())=vG t/\gV d (aA #[104,101,108,112,101,114],t,n,l,())=(d.1,d.2.1,d.2.2.1,d.2.2.2.1,d.2.2.2.2.1,d.2.2.2.2.2.1,d.2.2.2.2.2.2.1,d.2.2.2.2.2.2.2.1,d.2.2.2.2.2.2.2.2.1,d.2.2.2.2.2.2.2.2.2.1,vL d.2.2.2.2.2.2.2.2.2.2.1 (lJ t) 10,d.2.2.2.2.2.2.2.2.2.2.2):=by
  unfold fS gA gS gV DI DJ DK dZ;simp
 rw[zU k];by_cases c:pC d.2.2.2.2.2.2.2.2.2.2.1 (lJ t) 10=0
 ·lia
 ·have q:pL d.2.2.2.2.2.2.2.2.2.2.1 (lJ t) 10=d.2.2.2.2.2.2.2.2.2.2.1:=ν c
  lia
theorem aVe(hv:xL d.2.2.2.2.2.2.2.2.2.2.2.1=true)(t:Δ)(n l:Γ Int):tY d (aA #[116,97,115,107],t,n,l,())=if vG t=true then some (fin [aA #[111,107]] (pC d.2.2.2.2.2.2.2.2.2.2.2.1 (lJ t) 8),(d.1,d.2.1,d.2.2.1,d.2.2.2.1,d.2.2.2.2.1,d.2.2.2.2.2.1,d.2.2.2.2.2.2.1,d.2.2.2.2.2.2.2.1,d.2.2.2.2.2.2.2.2.1,d.2.2.2.2.2.2.2.2.2.1,d.2.2.2.2.2.2.2.2.2.2.1,pL d.2.2.2.2.2.2.2.2.2.2.2.1 (lJ t) 8,d.2.2.2.2.2.2.2.2.2.2.2.2))else none:=by
 obtain⟨_,e0,e1⟩:=aLz hv (lJ t);have k:fS d (aA #[116,97,115,107],t,n,l,())=[aA #[111,107]]/\gA d (aA #[116,97,115,107],t,n,l,())=o5 d.2.2.2.2.2.2.2.2.2.2.2.1 (lJ t) 8/\gS d (aA #[116,97,115,107],t,n,l,())=vG t/\gV d (aA #[116,97,115,107],t,n,l,())=(d.1,d.2.1,d.2.2.1,d.2.2.2.1,d.2.2.2.2.1,d.2.2.2.2.2.1,d.2.2.2.2.2.2.1,d.2.2.2.2.2.2.2.1,d.2.2.2.2.2.2.2.2.1,d.2.2.2.2.2.2.2.2.2.1,d.2.2.2.2.2.2.2.2.2.2.1,vM d.2.2.2.2.2.2.2.2.2.2.2.1 (lJ t) 8,d.2.2.2.2.2.2.2.2.2.2.2.2):=by
  unfold fS gA gS gV DI DJ DK dZ;simp
 rw[zU k];by_cases c:pC d.2.2.2.2.2.2.2.2.2.2.2.1 (lJ t) 8=0
 ·lia
 ·have q:pL d.2.2.2.2.2.2.2.2.2.2.2.1 (lJ t) 8=d.2.2.2.2.2.2.2.2.2.2.2.1:=ν c
  lia
theorem aVf(hl:d.2.2.1.length<=48)(t:Δ)(n l:Γ Int):tY d (aA #[104,111,117,114],t,n,l,())=if zA t=true then some (if(d.2.2.1.length:Int)=48 then fin [aA #[111,107]] 5 else fin [aA #[111,107]] 0,if(d.2.2.1.length:Int)=48 then d else(d.1,d.2.1,d.2.2.1++[oX t],d.2.2.2))else none:=by
 have k:fS d (aA #[104,111,117,114],t,n,l,())=[aA #[111,107]]/\gA d (aA #[104,111,117,114],t,n,l,())=Dp d.2.2.1 (oX t) 48/\gS d (aA #[104,111,117,114],t,n,l,())=zA t/\gV d (aA #[104,111,117,114],t,n,l,())=(d.1,d.2.1,MT d.2.2.1 (oX t) 48,d.2.2.2):=by
  unfold fS gA gS gV DI DJ DK dZ;simp
 rw[zU k];unfold MT Dp;by_cases q:(d.2.2.1.length:Int)=48
 ·lia
 ·have q1:¬decide ((d.2.2.1.length:Int)>=48)=true:=by lia
  rw[ν q1,ν q1,ν q,ν q]<;>rfl
theorem aVg(d:bV)(t:Δ)(n l:Γ Int):tY d (aA #[116,101,115,116],t,n,l,())=if CH t=true then some (fin [aA #[111,107]] (Dr d.2.2.2.2.2.2.2.2.2.1 (qP t)),if Dr d.2.2.2.2.2.2.2.2.2.1 (qP t)=0 then(d.1,d.2.1,d.2.2.1,d.2.2.2.1,d.2.2.2.2.1,d.2.2.2.2.2.1,d.2.2.2.2.2.2.1,d.2.2.2.2.2.2.2.1,d.2.2.2.2.2.2.2.2.1,If d.2.2.2.2.2.2.2.2.2.1 (qP t),d.2.2.2.2.2.2.2.2.2.2)else d)else none:=by
 have k:fS d (aA #[116,101,115,116],t,n,l,())=[aA #[111,107]]/\gA d (aA #[116,101,115,116],t,n,l,())=Dr d.2.2.2.2.2.2.2.2.2.1 (qP t)/\gS d (aA #[116,101,115,116],t,n,l,())=CH t/\gV d (aA #[116,101,115,116],t,n,l,())=(d.1,d.2.1,d.2.2.1,d.2.2.2.1,d.2.2.2.2.1,d.2.2.2.2.2.1,d.2.2.2.2.2.2.1,d.2.2.2.2.2.2.2.1,d.2.2.2.2.2.2.2.2.1,If d.2.2.2.2.2.2.2.2.2.1 (qP t),d.2.2.2.2.2.2.2.2.2.2):=by
  unfold fS gA gS gV DI DJ DK dZ;simp
 exact zU k
theorem aVh(d:bV)(t:Δ)(n l:Γ Int):tY d (aA #[114,111,112,101],t,n,l,())=if Fx t=true then some ([aA #[111,107]],(d.1,Ig t,d.2.2))else none:=by
 have k:fS d (aA #[114,111,112,101],t,n,l,())=[aA #[111,107]]/\gA d (aA #[114,111,112,101],t,n,l,())=0/\gS d (aA #[114,111,112,101],t,n,l,())=Fx t/\gV d (aA #[114,111,112,101],t,n,l,())=(d.1,Ig t,d.2.2):=by
  unfold fS gA gS gV DI DJ DK dZ;simp
 exact zU k
theorem aRU(d:bV)(t:Δ)(n l:Γ Int):tY d (aA #[109,111,116,111,114],t,n,l,())=if Fy t=true then some ([aA #[111,107]],(d.1,d.2.1,d.2.2.1,d.2.2.2.1,Ih t,d.2.2.2.2.2))else none:=by
 have k:fS d (aA #[109,111,116,111,114],t,n,l,())=[aA #[111,107]]/\gA d (aA #[109,111,116,111,114],t,n,l,())=0/\gS d (aA #[109,111,116,111,114],t,n,l,())=Fy t/\gV d (aA #[109,111,116,111,114],t,n,l,())=(d.1,d.2.1,d.2.2.1,d.2.2.2.1,Ih t,d.2.2.2.2.2):=by
  unfold fS gA gS gV DI DJ DK dZ;simp
 exact zU k
theorem aRV(d:bV)(t:Δ)(n l:Γ Int):tY d (aA #[98,97,115,105,110],t,n,l,())=if Fz t=true then some ([aA #[111,107]],(d.1,d.2.1,d.2.2.1,d.2.2.2.1,d.2.2.2.2.1,d.2.2.2.2.2.1,d.2.2.2.2.2.2.1,Ii t,d.2.2.2.2.2.2.2.2))else none:=by
 have k:fS d (aA #[98,97,115,105,110],t,n,l,())=[aA #[111,107]]/\gA d (aA #[98,97,115,105,110],t,n,l,())=0/\gS d (aA #[98,97,115,105,110],t,n,l,())=Fz t/\gV d (aA #[98,97,115,105,110],t,n,l,())=(d.1,d.2.1,d.2.2.1,d.2.2.2.1,d.2.2.2.2.1,d.2.2.2.2.2.1,d.2.2.2.2.2.2.1,Ii t,d.2.2.2.2.2.2.2.2):=by
  unfold fS gA gS gV DI DJ DK dZ;simp
 exact zU k
noncomputable section
def d48:jB:=D Tryz.func48 [.po iU,.v (.sl .str)] [.sl .str,.bool] [] [aQw,bJ5,bJk,bJ7,bJ9,aTZ,bJD,bJG,bJJ,aQ9,bJO,bBe,bJV,bJY,bJZ] false [12,15,17,20,25,28,31]
mutual
def R48:Nat->bV->Γ Δ->Γ aS->Γ (Option jC)->Prop
 | 0,_,_,_,_=>False
 | n+1,x0,x1,ds,us=>YE n 1 ([]) x1 x0 ds us
def YE:Nat->Int->Γ Int->Γ Δ->bV->Γ aS->Γ (Option jC)->Prop
 | 0,_,_,_,_,_,_=>False
 | n+1,v7,h1,x1,x0,ds,us=>if decide (v7<(x1.length:Int))then 0<=v7/\v7<(x1.length:Int)/\if !wG (aD x1 (aE v7) aC)then ds=[aJ (.sl .str) [],aJ .bool false]/\us=[some (fO iU [x0])] else(aF h1+1)*8<=140737488355328/\bA .i64 (v7+1)/\YE n (v7+1) (h1++[nK (aD x1 (aE v7) aC)]) x1 x0 ds us else 0<(x1.length:Int)/\if aB (aD x1 0 aC)==aB (aA #[115,108,111,119,101,115,116])then(if(h1.length:Int)==1 then 0<(h1.length:Int)/\P44 (X8 x0.1 (aD h1 0 0)) (X9 x0.1 (aD h1 0 0))/\ds=[aJ (.sl .str) (X4 (X8 x0.1 (aD h1 0 0)) (X9 x0.1 (aD h1 0 0))),aJ .bool true]/\us=[some (fO iU [x0])] else aCk n x1 x0 h1 ds us)else aCk n x1 x0 h1 ds us
def aCk:Nat->Γ Δ->bV->Γ Int->Γ aS->Γ (Option jC)->Prop
 | 0,_,_,_,_,_=>False
 | n+1,x1,x0,h1,ds,us=>0<(x1.length:Int)/\if aB (aD x1 0 aC)==aB (aA #[114,101,115,101,114,118,101])then(if(h1.length:Int)==1 then 0<(h1.length:Int)/\aUu x0.2.1 (aD h1 0 0)/\P44 (Xb x0.2.1 (aD h1 0 0)) (Xc x0.2.1 (aD h1 0 0))/\ds=[aJ (.sl .str) (X4 (Xb x0.2.1 (aD h1 0 0)) (Xc x0.2.1 (aD h1 0 0))),aJ .bool true]/\us=[some (fO iU [x0])] else aCl n x1 x0 h1 ds us)else aCl n x1 x0 h1 ds us
def aCl:Nat->Γ Δ->bV->Γ Int->Γ aS->Γ (Option jC)->Prop
 | 0,_,_,_,_,_=>False
 | n+1,x1,x0,h1,ds,us=>0<(x1.length:Int)/\if aB (aD x1 0 aC)==aB (aA #[108,105,109,105,116])then(if(h1.length:Int)==3 then bJ8 x0 h1/\P32 (Xd x0 h1)/\ds=[aJ (.sl .str) (AR (Xd x0 h1)),aJ .bool true]/\us=[some (fO iU [(aCc x0 h1)])] else aCm n x1 x0 h1 ds us)else aCm n x1 x0 h1 ds us
def aCm:Nat->Γ Δ->bV->Γ Int->Γ aS->Γ (Option jC)->Prop
 | 0,_,_,_,_,_=>False
 | n+1,x1,x0,h1,ds,us=>0<(x1.length:Int)/\if aB (aD x1 0 aC)==aB (aA #[112,111,119,101,114])then(if(h1.length:Int)==2 then 0<(h1.length:Int)/\1<(h1.length:Int)/\aUw x0.2.2.2.2.1 (aD h1 0 0) (aD h1 1 0)/\P44 (Xh x0.2.2.2.2.1 (aD h1 0 0) (aD h1 1 0)) (Xi x0.2.2.2.2.1 (aD h1 0 0) (aD h1 1 0))/\ds=[aJ (.sl .str) (X4 (Xh x0.2.2.2.2.1 (aD h1 0 0) (aD h1 1 0)) (Xi x0.2.2.2.2.1 (aD h1 0 0) (aD h1 1 0))),aJ .bool true]/\us=[some (fO iU [x0])] else YF n x1 x0 h1 ds us)else YF n x1 x0 h1 ds us
def YF:Nat->Γ Δ->bV->Γ Int->Γ aS->Γ (Option jC)->Prop
 | 0,_,_,_,_,_=>False
 | n+1,x1,x0,h1,ds,us=>0<(x1.length:Int)/\if aB (aD x1 0 aC)==aB (aA #[101,118,101,110,116])then(if(h1.length:Int)==1 then 0<(h1.length:Int)/\aUy x0.2.2.2.2.2.1 (aD h1 0 0)/\if Jk x0.2.2.2.2.2.1 (aD h1 0 0)==0 then aJD (ET x0.2.2.2.2.2.1 (aD h1 0 0))/\P28 [Ge (ET x0.2.2.2.2.2.1 (aD h1 0 0))] (Jk x0.2.2.2.2.2.1 (aD h1 0 0))/\ds=[aJ (.sl .str) (FA [Ge (ET x0.2.2.2.2.2.1 (aD h1 0 0))] (Jk x0.2.2.2.2.2.1 (aD h1 0 0))),aJ .bool true]/\us=[some (fO iU [(x0.1,x0.2.1,x0.2.2.1,x0.2.2.2.1,x0.2.2.2.2.1,(ET x0.2.2.2.2.2.1 (aD h1 0 0)),x0.2.2.2.2.2.2.1,x0.2.2.2.2.2.2.2.1,x0.2.2.2.2.2.2.2.2.1,x0.2.2.2.2.2.2.2.2.2.1,x0.2.2.2.2.2.2.2.2.2.2.1,x0.2.2.2.2.2.2.2.2.2.2.2.1,())])] else aJD (ET x0.2.2.2.2.2.1 (aD h1 0 0))/\P28 [Ge (ET x0.2.2.2.2.2.1 (aD h1 0 0))] (Jk x0.2.2.2.2.2.1 (aD h1 0 0))/\ds=[aJ (.sl .str) (FA [Ge (ET x0.2.2.2.2.2.1 (aD h1 0 0))] (Jk x0.2.2.2.2.2.1 (aD h1 0 0))),aJ .bool true]/\us=[some (fO iU [x0])] else aCn n x1 x0 h1 ds us)else aCn n x1 x0 h1 ds us
def aCn:Nat->Γ Δ->bV->Γ Int->Γ aS->Γ (Option jC)->Prop
 | 0,_,_,_,_,_=>False
 | n+1,x1,x0,h1,ds,us=>0<(x1.length:Int)/\if aB (aD x1 0 aC)==aB (aA #[99,111,118,101,114])then(if(h1.length:Int)==2 then 0<(h1.length:Int)/\1<(h1.length:Int)/\bJN x0.2.2.2.2.2.2.1 (aD h1 0 0) (aD h1 1 0)/\P25 (Xo x0.2.2.2.2.2.2.1 (aD h1 0 0) (aD h1 1 0)) (Xn x0.2.2.2.2.2.2.1 (aD h1 0 0) (aD h1 1 0))/\ds=[aJ (.sl .str) (XG (Xo x0.2.2.2.2.2.2.1 (aD h1 0 0) (aD h1 1 0)) (Xn x0.2.2.2.2.2.2.1 (aD h1 0 0) (aD h1 1 0))),aJ .bool true]/\us=[some (fO iU [x0])] else aCo n x1 x0 h1 ds us)else aCo n x1 x0 h1 ds us
def aCo:Nat->Γ Δ->bV->Γ Int->Γ aS->Γ (Option jC)->Prop
 | 0,_,_,_,_,_=>False
 | n+1,x1,x0,h1,ds,us=>0<(x1.length:Int)/\if aB (aD x1 0 aC)==aB (aA #[119,97,116,101,114])then(if(h1.length:Int)==5 then 0<(h1.length:Int)/\1<(h1.length:Int)/\2<(h1.length:Int)/\3<(h1.length:Int)/\4<(h1.length:Int)/\aU3 x0.2.2.2.2.2.2.2.1 (aD h1 0 0) (aD h1 1 0) (aD h1 2 0) (aD h1 3 0) (aD h1 4 0)/\P44 (Xq x0.2.2.2.2.2.2.2.1 (aD h1 0 0) (aD h1 1 0) (aD h1 2 0) (aD h1 3 0) (aD h1 4 0)) (Xr x0.2.2.2.2.2.2.2.1 (aD h1 0 0) (aD h1 1 0) (aD h1 2 0) (aD h1 3 0) (aD h1 4 0))/\ds=[aJ (.sl .str) (X4 (Xq x0.2.2.2.2.2.2.2.1 (aD h1 0 0) (aD h1 1 0) (aD h1 2 0) (aD h1 3 0) (aD h1 4 0)) (Xr x0.2.2.2.2.2.2.2.1 (aD h1 0 0) (aD h1 1 0) (aD h1 2 0) (aD h1 3 0) (aD h1 4 0))),aJ .bool true]/\us=[some (fO iU [x0])] else aCp n x1 x0 h1 ds us)else aCp n x1 x0 h1 ds us
def aCp:Nat->Γ Δ->bV->Γ Int->Γ aS->Γ (Option jC)->Prop
 | 0,_,_,_,_,_=>False
 | n+1,x1,x0,h1,ds,us=>0<(x1.length:Int)/\if aB (aD x1 0 aC)==aB (aA #[100,117,101])then(if(h1.length:Int)==2 then 0<(h1.length:Int)/\1<(h1.length:Int)/\aU6 x0.2.2.2.2.2.2.2.2.2.1 (aD h1 0 0) (aD h1 1 0)/\aU7 (Rd x0.2.2.2.2.2.2.2.2.2.1 (aD h1 0 0) (aD h1 1 0))/\P28 [Xt (Rd x0.2.2.2.2.2.2.2.2.2.1 (aD h1 0 0) (aD h1 1 0))] (Xs x0.2.2.2.2.2.2.2.2.2.1 (aD h1 0 0) (aD h1 1 0))/\ds=[aJ (.sl .str) (FA [Xt (Rd x0.2.2.2.2.2.2.2.2.2.1 (aD h1 0 0) (aD h1 1 0))] (Xs x0.2.2.2.2.2.2.2.2.2.1 (aD h1 0 0) (aD h1 1 0))),aJ .bool true]/\us=[some (fO iU [x0])] else ds=[aJ (.sl .str) [],aJ .bool false]/\us=[some (fO iU [x0])])else ds=[aJ (.sl .str) [],aJ .bool false]/\us=[some (fO iU [x0])]
end
def bKd(ds:Γ aS)(us:Γ (Option jC))(K:gU)(q:Nat->Value):∀n,(∀ {x0 x1},R48 n x0 x1 ds us->St d48 (x0,x1,()) ds us K q)/\(∀ {v7 h1 x1 x0},YE n v7 h1 x1 x0 ds us->Cu d48 3 ([eP 0 0 0 iU,eL 1 .str x1,eW 6 1,eI 7 v7],[QW x0 2 3 4 5 6 7 8 9,cN (.int .i64) h1,cN fQ x0.1,cN dX x0.2.2.1,cN dX x0.2.2.2.1,cN eC x0.2.2.2.2.2.2.1,cN fQ x0.2.2.2.2.2.2.2.2.1,cN dX x0.2.2.2.2.2.2.2.2.2.1,cN eC x0.2.2.2.2.2.2.2.2.2.2.1,cN eC x0.2.2.2.2.2.2.2.2.2.2.2.1]) ds us K q)/\(∀ {x1 x0 h1},aCk n x1 x0 h1 ds us->Cu d48 12 ([eP 0 0 0 iU,eL 1 .str x1,eW 6 1],[QW x0 2 3 4 5 6 7 8 9,cN (.int .i64) h1,cN fQ x0.1,cN dX x0.2.2.1,cN dX x0.2.2.2.1,cN eC x0.2.2.2.2.2.2.1,cN fQ x0.2.2.2.2.2.2.2.2.1,cN dX x0.2.2.2.2.2.2.2.2.2.1,cN eC x0.2.2.2.2.2.2.2.2.2.2.1,cN eC x0.2.2.2.2.2.2.2.2.2.2.2.1]) ds us K q)/\(∀ {x1 x0 h1},aCl n x1 x0 h1 ds us->Cu d48 15 ([eP 0 0 0 iU,eL 1 .str x1,eW 6 1],[QW x0 2 3 4 5 6 7 8 9,cN (.int .i64) h1,cN fQ x0.1,cN dX x0.2.2.1,cN dX x0.2.2.2.1,cN eC x0.2.2.2.2.2.2.1,cN fQ x0.2.2.2.2.2.2.2.2.1,cN dX x0.2.2.2.2.2.2.2.2.2.1,cN eC x0.2.2.2.2.2.2.2.2.2.2.1,cN eC x0.2.2.2.2.2.2.2.2.2.2.2.1]) ds us K q)/\(∀ {x1 x0 h1},aCm n x1 x0 h1 ds us->Cu d48 17 ([eP 0 0 0 iU,eL 1 .str x1,eW 6 1],[QW x0 2 3 4 5 6 7 8 9,cN (.int .i64) h1,cN fQ x0.1,cN dX x0.2.2.1,cN dX x0.2.2.2.1,cN eC x0.2.2.2.2.2.2.1,cN fQ x0.2.2.2.2.2.2.2.2.1,cN dX x0.2.2.2.2.2.2.2.2.2.1,cN eC x0.2.2.2.2.2.2.2.2.2.2.1,cN eC x0.2.2.2.2.2.2.2.2.2.2.2.1]) ds us K q)/\(∀ {x1 x0 h1},YF n x1 x0 h1 ds us->Cu d48 20 ([eP 0 0 0 iU,eL 1 .str x1,eW 6 1],[QW x0 2 3 4 5 6 7 8 9,cN (.int .i64) h1,cN fQ x0.1,cN dX x0.2.2.1,cN dX x0.2.2.2.1,cN eC x0.2.2.2.2.2.2.1,cN fQ x0.2.2.2.2.2.2.2.2.1,cN dX x0.2.2.2.2.2.2.2.2.2.1,cN eC x0.2.2.2.2.2.2.2.2.2.2.1,cN eC x0.2.2.2.2.2.2.2.2.2.2.2.1]) ds us K q)/\(∀ {x1 x0 h1},aCn n x1 x0 h1 ds us->Cu d48 25 ([eP 0 0 0 iU,eL 1 .str x1,eW 6 1],[QW x0 2 3 4 5 6 7 8 9,cN (.int .i64) h1,cN fQ x0.1,cN dX x0.2.2.1,cN dX x0.2.2.2.1,cN eC x0.2.2.2.2.2.2.1,cN fQ x0.2.2.2.2.2.2.2.2.1,cN dX x0.2.2.2.2.2.2.2.2.2.1,cN eC x0.2.2.2.2.2.2.2.2.2.2.1,cN eC x0.2.2.2.2.2.2.2.2.2.2.2.1]) ds us K q)/\(∀ {x1 x0 h1},aCo n x1 x0 h1 ds us->Cu d48 28 ([eP 0 0 0 iU,eL 1 .str x1,eW 6 1],[QW x0 2 3 4 5 6 7 8 9,cN (.int .i64) h1,cN fQ x0.1,cN dX x0.2.2.1,cN dX x0.2.2.2.1,cN eC x0.2.2.2.2.2.2.1,cN fQ x0.2.2.2.2.2.2.2.2.1,cN dX x0.2.2.2.2.2.2.2.2.2.1,cN eC x0.2.2.2.2.2.2.2.2.2.2.1,cN eC x0.2.2.2.2.2.2.2.2.2.2.2.1]) ds us K q)/\(∀ {x1 x0 h1},aCp n x1 x0 h1 ds us->Cu d48 31 ([eP 0 0 0 iU,eL 1 .str x1,eW 6 1],[QW x0 2 3 4 5 6 7 8 9,cN (.int .i64) h1,cN fQ x0.1,cN dX x0.2.2.1,cN dX x0.2.2.2.1,cN eC x0.2.2.2.2.2.2.1,cN fQ x0.2.2.2.2.2.2.2.2.1,cN dX x0.2.2.2.2.2.2.2.2.2.1,cN eC x0.2.2.2.2.2.2.2.2.2.2.1,cN eC x0.2.2.2.2.2.2.2.2.2.2.2.1]) ds us K q):=nI ⟨aH,aH,aH,aH,aH,aH,aH,aH,aH⟩ λn ⟨i,i3,i12,i15,i17,i20,i25,i28,i31⟩=>⟨cX i3,
  bU (eE<|bS<|bU Kv<|aO<|aO<|cX i3)<|pq 0<|aO<|bU (bU (pq 0<|aO<|bS<|aO Kv)<|cX i12)<|dN<|cX i12,
  pq 0<|aO<|bU (bU (pq 0<|aO<|aO<|aO Kv)<|cX i15)<|dN<|cX i15,
  pq 0<|aO<|bU (bU (aO<|aO Kv)<|cX i17)<|dN<|cX i17,
  pq 0<|aO<|bU (bU (pq 0<|aO<|pq 1<|aO<|aO<|aO Kv)<|cX i20)<|dN<|cX i20,
  pq 0<|aO<|bU (bU (pq 0<|aO<|aO<|bU (aO<|aO Kv)<|aO<|aO Kv)<|cX i25)<|dN<|cX i25,
  pq 0<|aO<|bU (bU (pq 0<|aO<|pq 1<|aO<|aO<|aO Kv)<|cX i28)<|dN<|cX i28,
  pq 0<|aO<|bU (bU (pq 0<|aO<|pq 1<|aO<|pq 2<|aO<|pq 3<|aO<|pq 4<|aO<|aO<|aO Kv)<|cX i31)<|dN<|cX i31,
  pq 0<|aO<|bU (bU (pq 0<|aO<|pq 1<|aO<|aO<|aO<|aO Kv) Kv)<|dN Kv⟩
def N1(x1:Γ Δ):Nat->Nat->Γ Int->Option (Γ Int)
 | 0,_,n=>some n
 | k+1,i,n=>if jS (x1.getD i aC)=true then N1 x1 k (i+1) (n++[jR (x1.getD i aC)])else none
def fN(d:DT5)(w:Δ)(n:Γ Int):Γ (Δ×Nat)->Option (Γ Δ×DT5)
 | []=>none
 | (v,c)::r=>if w=v/\n.length=c then tY d (v,aA #[],n,[],())else fN d w n r
def C5:Γ (Δ×Nat):=[(aA #[115,108,111,119,101,115,116],1),(aA #[114,101,115,101,114,118,101],1),(aA #[108,105,109,105,116],3),(aA #[112,111,119,101,114],2),(aA #[101,118,101,110,116],1),(aA #[99,111,118,101,114],2),(aA #[119,97,116,101,114],5),(aA #[100,117,101],2)]
def L4(d:DT5)(x1:Γ Δ):Option (Γ Δ×DT5):=(N1 x1 (x1.length-1) 1 []).bind λn=>fN d (x1.getD 0 aC) n C5
def aNI(d:DT5)(r:Option (Γ Δ×DT5)):DT5:=(r.map Prod.snd).getD d
def aNJ(r:Option (Γ Δ×DT5)):Γ Δ:=(r.map Prod.fst).getD []
def aRW(x0:DT5)(x1:Γ Δ):DT5:=aNI x0 (L4 x0 x1)
def aRX(x0:DT5)(x1:Γ Δ):Γ Δ:=aNJ (L4 x0 x1)
def aRY(x0:DT5)(x1:Γ Δ):Bool:=(L4 x0 x1).isSome
def P48(x0:DT5)(x1:Γ Δ):Prop:=Vd x0/\1<=x1.length/\x1.length<=1048576
def Ri(r:Option (Γ Δ×DT5)):Γ aS:=[aJ (.sl .str) (aNJ r),aJ .bool r.isSome]
def Rj(d:DT5)(r:Option (Γ Δ×DT5)):Γ (Option jC):=[some ⟨iU,[aNI d r]⟩]
theorem Ha{d y:DT5}{r:Option (Γ Δ×DT5)}{o:Γ Δ}(h:r=some (o,y)):Ri r=[aJ (.sl .str) o,aJ .bool true]/\Rj d r=[some ⟨iU,[y]⟩]:=by rw[h];exact⟨rfl,rfl⟩
theorem bCV(x:c7):aJD x/\Ge x=zH x:=by
 by_cases h:lA x=true
 ·exact aRy h
 ·have h:=Dm h;have e1:An x=false:=(Tp x).symm.trans h;unfold aJD Ge zH
  lia
section
variable {d:DT5} (hd:Vd d) (x1:Γ Δ) (h1:1<=x1.length) (n:Γ Int) (m:Nat)
include hd h1
theorem aXg:aCp (m+1) x1 d n (Ri (fN d (x1.getD 0 aC) n [(aA #[100,117,101],2)])) (Rj d (fN d (x1.getD 0 aC) n [(aA #[100,117,101],2)])):=by
 have l0:(0:Int)<(x1.length:Int):=by lia
 refine⟨l0,?_⟩;rw[fN];by_cases q:x1.getD 0 aC=aA #[100,117,101]/\n.length=2
 ·obtain⟨p,e0,e1⟩:=aRB hd.2.2.2.2.2.2.2.2.2.1 (n.getD 0 0) (n.getD 1 0);obtain⟨q,e2⟩:=aRC (JO d.2.2.2.2.2.2.2.2.2.1 (n.getD 0 0) (n.getD 1 0));have z:=Gh [oY (JO d.2.2.2.2.2.2.2.2.2.1 (n.getD 0 0) (n.getD 1 0))] (Qr d.2.2.2.2.2.2.2.2.2.1 (n.getD 0 0) (n.getD 1 0)) (show 1<=1048576 by lia) (.inr rfl)
  grind [Ha,bCU]
 ·rw[ν q];by_cases q1:x1.getD 0 aC=aA #[100,117,101]
  ·rw[π ((bE _ _).2 q1),ν (λh=>q ⟨q1,by lia⟩)];exact⟨rfl,rfl⟩
  ·rw[ν (λh=>q1 ((bE _ _).1 h))];exact⟨rfl,rfl⟩
theorem aXh:aCo (m+2) x1 d n (Ri (fN d (x1.getD 0 aC) n [(aA #[119,97,116,101,114],5),(aA #[100,117,101],2)])) (Rj d (fN d (x1.getD 0 aC) n [(aA #[119,97,116,101,114],5),(aA #[100,117,101],2)])):=by
 have l0:(0:Int)<(x1.length:Int):=by lia
 refine⟨l0,?_⟩;rw[fN];by_cases q:x1.getD 0 aC=aA #[119,97,116,101,114]/\n.length=5
 ·have q1:=q.1;rw[π q,π ((bE _ _).2 q1),π (beq_iff_eq.2 (by lia))];obtain⟨p,e0,e1⟩:=aN9 hd.2.2.2.2.2.2.2.1 (n.getD 0 0) (n.getD 1 0) (n.getD 2 0) (n.getD 3 0) (n.getD 4 0);refine⟨by lia,by lia,by lia,by lia,by lia,p,(BR _ _).1,?_⟩;exact Ha ((aRO d _ n []).trans (by rw[(BR _ _).2,e0,e1]))
 ·by_cases q1:x1.getD 0 aC=aA #[119,97,116,101,114]
  ·grind [aXg]
  ·rw[ν (λh=>q1 ((bE _ _).1 h))]
   grind [aXg]
theorem aXi:aCn (m+3) x1 d n (Ri (fN d (x1.getD 0 aC) n [(aA #[99,111,118,101,114],2),(aA #[119,97,116,101,114],5),(aA #[100,117,101],2)])) (Rj d (fN d (x1.getD 0 aC) n [(aA #[99,111,118,101,114],2),(aA #[119,97,116,101,114],5),(aA #[100,117,101],2)])):=by
 have l0:(0:Int)<(x1.length:Int):=by lia
 refine⟨l0,?_⟩;rw[fN];by_cases q:x1.getD 0 aC=aA #[99,111,118,101,114]/\n.length=2
 ·have q1:=q.1;rw[π q,π ((bE _ _).2 q1),π (beq_iff_eq.2 (by lia))];refine⟨by lia,by lia,show aF _<=1000 by have:=aAv hd.2.2.2.2.2.2.1;lia,(PF _ (aRE (by have:=aAv hd.2.2.2.2.2.2.1;lia) _ _)).1,?_⟩;exact Ha ((aRP d _ n []).trans (congrArg (λo=>some (o,d)) (PF _ (aRE (by have:=aAv hd.2.2.2.2.2.2.1;lia) _ _)).2.symm))
 ·by_cases q1:x1.getD 0 aC=aA #[99,111,118,101,114]
  ·grind [aXh]
  ·rw[ν (λh=>q1 ((bE _ _).1 h))]
   grind [aXh]
theorem aXj:YF (m+4) x1 d n (Ri (fN d (x1.getD 0 aC) n [(aA #[101,118,101,110,116],1),(aA #[99,111,118,101,114],2),(aA #[119,97,116,101,114],5),(aA #[100,117,101],2)])) (Rj d (fN d (x1.getD 0 aC) n [(aA #[101,118,101,110,116],1),(aA #[99,111,118,101,114],2),(aA #[119,97,116,101,114],5),(aA #[100,117,101],2)])):=by
 rw[YF];rw[fN];by_cases q:x1.getD 0 aC=aA #[101,118,101,110,116]/\n.length=1
 ·obtain⟨p,e0,e1⟩:=aN7 hd.2.2.2.2.2.1 (n.getD 0 0);obtain⟨q,e2⟩:=bCV (xR d.2.2.2.2.2.1 (n.getD 0 0));have a:=aRS d (aA #[]) n [];have z:=Gh [zH (xR d.2.2.2.2.2.1 (n.getD 0 0))] (sL d.2.2.2.2.2.1 (n.getD 0 0)) (show 1<=1048576 by lia) (.inr rfl);by_cases c:sL d.2.2.2.2.2.1 (n.getD 0 0)=0
  ·grind [Ha]
  ·grind [Ha]
 ·by_cases q1:x1.getD 0 aC=aA #[101,118,101,110,116]
  ·grind [aXi]
  ·rw[ν (λh=>q1 ((bE _ _).1 h))]
   grind [aXi]
theorem aXk:aCm (m+5) x1 d n (Ri (fN d (x1.getD 0 aC) n [(aA #[112,111,119,101,114],2),(aA #[101,118,101,110,116],1),(aA #[99,111,118,101,114],2),(aA #[119,97,116,101,114],5),(aA #[100,117,101],2)])) (Rj d (fN d (x1.getD 0 aC) n [(aA #[112,111,119,101,114],2),(aA #[101,118,101,110,116],1),(aA #[99,111,118,101,114],2),(aA #[119,97,116,101,114],5),(aA #[100,117,101],2)])):=by
 have l0:(0:Int)<(x1.length:Int):=by lia
 refine⟨l0,?_⟩;rw[fN];by_cases q:x1.getD 0 aC=aA #[112,111,119,101,114]/\n.length=2
 ·have q1:=q.1;rw[π q,π ((bE _ _).2 q1),π (beq_iff_eq.2 (by lia))];obtain⟨p,e0,e1⟩:=bCM hd.2.2.2.2.1 (n.getD 0 0) (n.getD 1 0);refine⟨by lia,by lia,p,(BR _ _).1,?_⟩;exact Ha ((aRN d _ n []).trans (by rw[(BR _ _).2,e0,e1]))
 ·by_cases q1:x1.getD 0 aC=aA #[112,111,119,101,114]
  ·grind [aXj]
  ·rw[ν (λh=>q1 ((bE _ _).1 h))]
   grind [aXj]
theorem aXl:aCl (m+6) x1 d n (Ri (fN d (x1.getD 0 aC) n [(aA #[108,105,109,105,116],3),(aA #[112,111,119,101,114],2),(aA #[101,118,101,110,116],1),(aA #[99,111,118,101,114],2),(aA #[119,97,116,101,114],5),(aA #[100,117,101],2)])) (Rj d (fN d (x1.getD 0 aC) n [(aA #[108,105,109,105,116],3),(aA #[112,111,119,101,114],2),(aA #[101,118,101,110,116],1),(aA #[99,111,118,101,114],2),(aA #[119,97,116,101,114],5),(aA #[100,117,101],2)])):=by
 have l0:(0:Int)<(x1.length:Int):=by lia
 refine⟨l0,?_⟩;rw[fN];by_cases q:x1.getD 0 aC=aA #[108,105,109,105,116]/\n.length=3
 ·have q1:=q.1;rw[π q,π ((bE _ _).2 q1),π (beq_iff_eq.2 (by lia))];refine⟨⟨by lia,by lia,by lia,F0 λ_=>F0 λ_=>⟨by have:=(sW hd.2.2.2.1).1;lia,by have:=(sW hd.2.2.2.1).1;grind,trivial⟩⟩,(tJ _).1,?_⟩;exact Ha (aRT d _ n [] (sW hd.2.2.2.1).1)
 ·by_cases q1:x1.getD 0 aC=aA #[108,105,109,105,116]
  ·grind [aXk]
  ·rw[ν (λh=>q1 ((bE _ _).1 h))]
   grind [aXk]
theorem aXm:aCk (m+7) x1 d n (Ri (fN d (x1.getD 0 aC) n [(aA #[114,101,115,101,114,118,101],1),(aA #[108,105,109,105,116],3),(aA #[112,111,119,101,114],2),(aA #[101,118,101,110,116],1),(aA #[99,111,118,101,114],2),(aA #[119,97,116,101,114],5),(aA #[100,117,101],2)])) (Rj d (fN d (x1.getD 0 aC) n [(aA #[114,101,115,101,114,118,101],1),(aA #[108,105,109,105,116],3),(aA #[112,111,119,101,114],2),(aA #[101,118,101,110,116],1),(aA #[99,111,118,101,114],2),(aA #[119,97,116,101,114],5),(aA #[100,117,101],2)])):=by
 have l0:(0:Int)<(x1.length:Int):=by lia
 refine⟨l0,?_⟩;rw[fN];by_cases q:x1.getD 0 aC=aA #[114,101,115,101,114,118,101]/\n.length=1
 ·have q1:=q.1;rw[π q,π ((bE _ _).2 q1),π (beq_iff_eq.2 (by lia))];obtain⟨p,e0,e1⟩:=bCL hd.2.1 (n.getD 0 0);refine⟨by lia,p,(BR _ _).1,?_⟩;exact Ha ((aJP d _ n []).trans (by rw[(BR _ _).2,e0,e1]))
 ·by_cases q1:x1.getD 0 aC=aA #[114,101,115,101,114,118,101]
  ·grind [aXl]
  ·rw[ν (λh=>q1 ((bE _ _).1 h))]
   grind [aXl]
theorem bNk(v7:Int)(hv:¬v7<(x1.length:Int)):YE (m+8) v7 n x1 d (Ri (fN d (x1.getD 0 aC) n [(aA #[115,108,111,119,101,115,116],1),(aA #[114,101,115,101,114,118,101],1),(aA #[108,105,109,105,116],3),(aA #[112,111,119,101,114],2),(aA #[101,118,101,110,116],1),(aA #[99,111,118,101,114],2),(aA #[119,97,116,101,114],5),(aA #[100,117,101],2)])) (Rj d (fN d (x1.getD 0 aC) n [(aA #[115,108,111,119,101,115,116],1),(aA #[114,101,115,101,114,118,101],1),(aA #[108,105,109,105,116],3),(aA #[112,111,119,101,114],2),(aA #[101,118,101,110,116],1),(aA #[99,111,118,101,114],2),(aA #[119,97,116,101,114],5),(aA #[100,117,101],2)])):=by
 have l0:(0:Int)<(x1.length:Int):=by lia
 rw[YE,ν (by lia)];refine⟨l0,?_⟩;rw[fN];by_cases q:x1.getD 0 aC=aA #[115,108,111,119,101,115,116]/\n.length=1
 ·have q1:=q.1;rw[π q,π ((bE _ _).2 q1),π (beq_iff_eq.2 (by lia))];refine⟨by lia,(BR _ _).1,?_⟩;exact Ha ((aJO d _ n []).trans (congrArg (λo=>some (o,d)) (BR _ _).2.symm))
 ·by_cases q1:x1.getD 0 aC=aA #[115,108,111,119,101,115,116]
  ·grind [aXm]
  ·rw[ν (λh=>q1 ((bE _ _).1 h))]
   grind [aXm]
end
theorem bKe{d:DT5}(hd:Vd d)(x1:Γ Δ)(h1:1<=x1.length)(hl:x1.length<=1048576):∀(k i:Nat) (n:Γ Int),i+k=x1.length->n.length<=i->YE (k+8) (i:Int) n x1 d (Ri ((N1 x1 k i n).bind λn=>fN d (x1.getD 0 aC) n C5)) (Rj d ((N1 x1 k i n).bind λn=>fN d (x1.getD 0 aC) n C5)):=by
 intro k
 induction k with
 | zero =>
  intro i n hi hn;exact bNk hd x1 h1 n 0 _ (by lia)
 | succ k ih =>
  intro i n hi hn;have e3:(i:Int)+1=((i+1:Nat):Int):=by lia
  obtain⟨e0,e1⟩:=AQ (x1.getD i aC);rw[YE,π (by lia),aI,N1];refine⟨by lia,by lia,?_⟩;by_cases c:jS (x1.getD i aC)=true
  ·grind [aK]
  ·rw[ν c,π (by lia)];exact⟨rfl,rfl⟩
def bNl:KK:=mM d48 (DO Tryz.func48) (λ⟨x0,x1,_⟩=>P48 x0 x1) (λ⟨x0,x1,_⟩=>[some ⟨iU,[aRW x0 x1]⟩]) (λ⟨x0,x1,_⟩=>[aJ (.sl .str) (aRX x0 x1),aJ .bool (aRY x0 x1)]) (λ⟨x0,x1,_⟩ h hwf K q =>
 (bKd _ _ K q ((x1.length-1+9))).1 (by rw[R48];exact bKe h.1 x1 h.2.1 h.2.2 (x1.length-1) 1 [] (by have:=h.2.1;omega) (bG _)))
end
theorem bCW(x:Δ):(iK x).length<=64:=by
 rw[<- (rF x).1];show ((Ww x).getD []).length<=64;unfold Ww;split
 ·simp
 ·split
  ·simp
  ·rw[aBL]
   grind
theorem aVi{x0:Γ O7}{x1:Γ Int}(h:Eu x0 x1)(hne:x0≠[]\/x1.length=0):∀(k:Nat) (s:Γ Int×Γ Int),k<=x1.length->uT x1 k s->(∀j,k<=j->j<x1.length->sR x0 x1 j (s.2.getD j 0).toNat=true)->∀j,j<x1.length->sR x0 x1 j ((sS x0 x1 k s).2.getD j 0).toNat=true:=by
 intro k
 induction k with
 | zero=>exact λs hk hi ho j hj=>ho j (bG _) hj
 | succ k ih =>
  intro s hk hi ho;have hx:x0≠[]:=hne.resolve_right (by lia);have l0:=hi.l1;have l1:=hi.l2;have hq:=aB4 h hx k (by lia) (x1.length-k) (k+1) s (by lia) (by lia) hi (λhh=>absurd rfl hh);have ei:=aGx x0 x1 k (f45 x0 x1 s.1 k) (x1.length-k) (k+1) s (by lia) (by lia) (by lia) (λj _=>rfl);have hf:=O9 h hx (show k<x1.length by lia);obtain⟨e,e2,_,_,e5,_⟩:=(aBZ (f:=f45 x0 x1 s.1 k) hf (x1.length-k) (k+1) (s.1.getD k 0,s.2.getD k 0) (by lia) (.inl rfl) (.inl (by lia))).ex;refine ih _ (by lia) hq (λj hj hj2=>?_);rw[ei];rw[qS _ _ _ _ (by lia)];by_cases c:k=j
  ·simp_all
  grind
theorem aJR(l:Γ O7)(t:Γ Int):∀s∈Aj l t,s≠aA #[]:=by
 unfold Aj;split
 ·rename_i c;have q:rB l=true/\jE t=true/\¬(l.length=0/\0<t.length):=by
   unfold BO lL at c
   lia
  have hg:=(RP l t).2 (by grind [lL]);have hne:l≠[]\/t.length=0:=by
   grind
  have h0:uT t t.length (aQ (t.length+1) 0,aQ (t.length+1) 0):=by
   refine⟨by simp,by simp,λj h1 h2=>?_,λj h1 h2=>by lia⟩
   grind
  have ok:=aVi hg hne t.length _ (aT _) h0 (λj h1 h2=>by lia);have key:∀(k a:Nat),∀s∈vQ l t (vP l t).2 k a,s≠aA #[]:=by
   intro k
   induction k with
   | zero=>exact λa s hs=>by cases hs
   | succ k ih =>
    intro a s hs;unfold vQ at hs;split at hs
    ·rcases aW.1 hs with rfl | hs
     ·rcases aLj l (uS t a ((vP l t).2.getD a 0).toNat)with ⟨_,b⟩ | ⟨b1,b2,_,b4⟩
      ·grind [vP]
      ·rw[b4];have hm:tX l (jI l (uS t a ((vP l t).2.getD a 0).toNat))∈l:=bY l _ _ (by lia);have hn:=(aBM (NG q.1 _ hm)).1;intro hz;rw[hz]at hn;exact absurd hn (by decide)
     grind
    grind
  grind
 simp
noncomputable section
def d16:jB:=D Tryz.func16 [.po iU,.v (.sl .str)] [.sl .str,.bool] [] [aJw,aQw,bMZ,bJk,bNa,aQ9,bNe,bNf,bBe,bNl] false [8,14]
mutual
def R16:Nat->bV->Γ Δ->Γ aS->Γ (Option jC)->Prop
 | 0,_,_,_,_=>False
 | n+1,x0,x1,ds,us=>0<(x1.length:Int)/\if aB (aD x1 0 aC)==aB (aA #[118,111,116,101])then(if(x1.length:Int)==3 then 1<(x1.length:Int)/\P41 (aD x1 1 aC)/\2<(x1.length:Int)/\if !pO (aD x1 1 aC)then ds=[aJ (.sl .str) [],aJ .bool false]/\us=[some (fO iU [x0])] else if !wG (aD x1 2 aC)then ds=[aJ (.sl .str) [],aJ .bool false]/\us=[some (fO iU [x0])] else P44 (Ou (dJ (aD x1 1 aC)) (nK (aD x1 2 aC))) (Ov (dJ (aD x1 1 aC)) (nK (aD x1 2 aC)))/\ds=[aJ (.sl .str) (X4 (Ou (dJ (aD x1 1 aC)) (nK (aD x1 2 aC))) (Ov (dJ (aD x1 1 aC)) (nK (aD x1 2 aC)))),aJ .bool true]/\us=[some (fO iU [x0])] else aGI n x1 x0 ds us)else aGI n x1 x0 ds us
def aGI:Nat->Γ Δ->bV->Γ aS->Γ (Option jC)->Prop
 | 0,_,_,_,_=>False
 | n+1,x1,x0,ds,us=>0<(x1.length:Int)/\if aB (aD x1 0 aC)==aB (aA #[116,114,105,112,115])then(if(x1.length:Int)==2 then 1<(x1.length:Int)/\P41 (aD x1 1 aC)/\if !pO (aD x1 1 aC)then ds=[aJ (.sl .str) [],aJ .bool false]/\us=[some (fO iU [x0])] else P45 x0.2.2.2.2.2.2.2.2.1 (dJ (aD x1 1 aC))/\P28 (aGv x0.2.2.2.2.2.2.2.2.1 (dJ (aD x1 1 aC))) (aGw x0.2.2.2.2.2.2.2.2.1 (dJ (aD x1 1 aC)))/\ds=[aJ (.sl .str) (FA (aGv x0.2.2.2.2.2.2.2.2.1 (dJ (aD x1 1 aC))) (aGw x0.2.2.2.2.2.2.2.2.1 (dJ (aD x1 1 aC)))),aJ .bool true]/\us=[some (fO iU [x0])] else aCq n x1 x0 ds us)else aCq n x1 x0 ds us
def aCq:Nat->Γ Δ->bV->Γ aS->Γ (Option jC)->Prop
 | 0,_,_,_,_=>False
 | n+1,x1,x0,ds,us=>0<(x1.length:Int)/\if aB (aD x1 0 aC)==aB (aA #[113,117,101,117,101])then(if(x1.length:Int)==4 then 1<(x1.length:Int)/\P67 (aD x1 1 aC)/\2<(x1.length:Int)/\3<(x1.length:Int)/\if !aLk (aD x1 1 aC)then ds=[aJ (.sl .str) [],aJ .bool false]/\us=[some (fO iU [x0])] else if !wG (aD x1 2 aC)then ds=[aJ (.sl .str) [],aJ .bool false]/\us=[some (fO iU [x0])] else if !wG (aD x1 3 aC)then ds=[aJ (.sl .str) [],aJ .bool false]/\us=[some (fO iU [x0])] else P47 (TA (aD x1 1 aC)) (nK (aD x1 2 aC)) (nK (aD x1 3 aC))/\P25 (aGy (TA (aD x1 1 aC)) (nK (aD x1 2 aC)) (nK (aD x1 3 aC))) (aGz (TA (aD x1 1 aC)) (nK (aD x1 2 aC)) (nK (aD x1 3 aC)))/\ds=[aJ (.sl .str) (XG (aGy (TA (aD x1 1 aC)) (nK (aD x1 2 aC)) (nK (aD x1 3 aC))) (aGz (TA (aD x1 1 aC)) (nK (aD x1 2 aC)) (nK (aD x1 3 aC)))),aJ .bool true]/\us=[some (fO iU [x0])] else P48 x0 x1/\ds=[aJ (.sl .str) (aRX x0 x1),aJ .bool (aRY x0 x1)]/\us=[some (fO iU [(aRW x0 x1)])])else P48 x0 x1/\ds=[aJ (.sl .str) (aRX x0 x1),aJ .bool (aRY x0 x1)]/\us=[some (fO iU [(aRW x0 x1)])]
end
def bKf(ds:Γ aS)(us:Γ (Option jC))(K:gU)(q:Nat->Value):∀n,(∀ {x0 x1},R16 n x0 x1 ds us->St d16 (x0,x1,()) ds us K q)/\(∀ {x1 x0},aGI n x1 x0 ds us->Cu d16 8 ([eP 0 0 0 iU,eL 1 .str x1],[QW x0 1 2 3 4 5 6 7 8,cN fQ x0.1,cN dX x0.2.2.1,cN dX x0.2.2.2.1,cN eC x0.2.2.2.2.2.2.1,cN fQ x0.2.2.2.2.2.2.2.2.1,cN dX x0.2.2.2.2.2.2.2.2.2.1,cN eC x0.2.2.2.2.2.2.2.2.2.2.1,cN eC x0.2.2.2.2.2.2.2.2.2.2.2.1]) ds us K q)/\(∀ {x1 x0},aCq n x1 x0 ds us->Cu d16 14 ([eP 0 0 0 iU,eL 1 .str x1],[QW x0 1 2 3 4 5 6 7 8,cN fQ x0.1,cN dX x0.2.2.1,cN dX x0.2.2.2.1,cN eC x0.2.2.2.2.2.2.1,cN fQ x0.2.2.2.2.2.2.2.2.1,cN dX x0.2.2.2.2.2.2.2.2.2.1,cN eC x0.2.2.2.2.2.2.2.2.2.2.1,cN eC x0.2.2.2.2.2.2.2.2.2.2.2.1]) ds us K q):=nI ⟨aH,aH,aH⟩ λn ⟨i,i8,i14⟩=>⟨pq 0<|aO<|bU (bU (pq 1<|aO<|aO<|pq 2<|aO<|bS<|bU (j0 Kv)<|bU Kv<|bS<|aO Kv)<|cX i8)<|dN<|cX i8,
  pq 0<|aO<|bU (bU (pq 1<|aO<|aO<|bU Kv<|aO<|aO Kv)<|cX i14)<|dN<|cX i14,
  pq 0<|aO<|bU (bU (pq 1<|aO<|aO<|pq 2<|aO<|bS<|pq 3<|aO<|bS<|bU (j0<|j0 Kv)<|bU (j0 Kv)<|bU Kv<|aO<|aO Kv)<|aO Kv)<|dN<|aO Kv⟩
abbrev aNK:=Option (Γ Δ×DT5)
abbrev lE(x1:Γ Δ)(i:Nat):Δ:=x1.getD i aC
abbrev PG(x1:Γ Δ)(i:Nat):Int:=jR (lE x1 i)
abbrev aRZ(x1:Γ Δ)(i:Nat):Bool:=jS (lE x1 i)
def aJS(d:DT5)(x1:Γ Δ):aNK:=if uR (lE x1 1)=true then(if aRZ x1 2=true then tY d (aA #[118,111,116,101],aA #[],[PG x1 2],iK (lE x1 1),())else none)else none
def aCr(d:DT5)(x1:Γ Δ):aNK:=if uR (lE x1 1)=true then tY d (aA #[116,114,105,112,115],aA #[],[],iK (lE x1 1),())else none
def aCs(d:DT5)(x1:Γ Δ):aNK:=if xM (lE x1 1)=true then(if aRZ x1 2=true then(if aRZ x1 3=true then tY d (aA #[113,117,101,117,101],aA #[],[PG x1 2,PG x1 3],yL (lE x1 1),())else none)else none)else none
def L5(d:DT5)(x1:Γ Δ):aNK:=if lE x1 0=aA #[113,117,101,117,101]/\x1.length=4 then aCs d x1 else L4 d x1
def Yq(d:DT5)(x1:Γ Δ):aNK:=if lE x1 0=aA #[116,114,105,112,115]/\x1.length=2 then aCr d x1 else L5 d x1
def wJ(d:DT5)(x1:Γ Δ):aNK:=if lE x1 0=aA #[118,111,116,101]/\x1.length=3 then aJS d x1 else Yq d x1
def aXn(x0:DT5)(x1:Γ Δ):DT5:=aNI x0 (wJ x0 x1)
def aXo(x0:DT5)(x1:Γ Δ):Γ Δ:=aNJ (wJ x0 x1)
def aXp(x0:DT5)(x1:Γ Δ):Bool:=(wJ x0 x1).isSome
def P16(x0:DT5)(x1:Γ Δ):Prop:=Vd x0/\(1<=x1.length/\x1.length<=1048576)/\∀w∈x1,w.size<=1048576
variable {x1:Γ Δ}
theorem bCX{d:DT5}(h:P16 d x1)(i:Nat):(lE x1 i).size<=1048576:=by
 by_cases c:i<x1.length
 ·exact h.2.2 _ (bY x1 i aC c)
 simp_all
theorem aXq{d:DT5}(h:P16 d x1)(m:Nat):aCq (m+1) x1 d (Ri (L5 d x1)) (Rj d (L5 d x1)):=by
 have hl:=h.2.1;have l0:(0:Int)<(x1.length:Int):=by lia
 have z1:(x1.getD 1 aC).size<=1048576:=bCX h 1;have rest:P48 d x1:=⟨h.1,hl.1,hl.2⟩;unfold L5;refine⟨l0,?_⟩;by_cases q:lE x1 0=aA #[113,117,101,117,101]/\x1.length=4
 ·rw[π q,π ((bE _ _).2 q.1),π (beq_iff_eq.2 (by lia))];obtain⟨e0,e1⟩:=AQ (x1.getD 2 aC);obtain⟨e2,e3⟩:=AQ (x1.getD 3 aC);refine⟨by lia,z1,by lia,by lia,?_⟩;rw[e1,e3];unfold aCs;have g0:TA (x1.getD 1 aC)=yL (x1.getD 1 aC):=rfl;have g1:aLk (x1.getD 1 aC)=xM (x1.getD 1 aC):=rfl;rw[g1];have a:=aRQ d (aA #[]) [PG x1 2,PG x1 3] (yL (lE x1 1));by_cases c1:xM (lE x1 1)=true
  ·rw[π c1,ν (show ¬(!xM (lE x1 1))=true by lia)];by_cases c2:jS (lE x1 2)=true
   ·rw[π c2,ν (show ¬(!jS (lE x1 2))=true by lia)];by_cases c3:jS (lE x1 3)=true
    ·obtain⟨p,f0,f1⟩:=aNA (yL (lE x1 1)) (PG x1 2) (PG x1 3);have z:=PF (Qm (yL (lE x1 1)) (PG x1 2) (PG x1 3)) (aRG (yL (lE x1 1)) (PG x1 2) (PG x1 3))
     grind [Ha]
    ·rw[ν c3,π (show (!jS (lE x1 3))=true by lia)];exact⟨rfl,rfl⟩
   ·rw[ν c2,π (show (!jS (lE x1 2))=true by lia)];exact⟨rfl,rfl⟩
  ·rw[ν c1,π (show (!xM (lE x1 1))=true by lia)];exact⟨rfl,rfl⟩
 ·rw[ν q];by_cases q1:lE x1 0=aA #[113,117,101,117,101]
  ·rw[π ((bE _ _).2 q1),ν (λh=>q ⟨q1,by lia⟩)];exact⟨rest,rfl,rfl⟩
  ·rw[ν (λh=>q1 ((bE _ _).1 h))];exact⟨rest,rfl,rfl⟩
theorem bKg{d:DT5}(h:P16 d x1)(m:Nat):aGI (m+2) x1 d (Ri (Yq d x1)) (Rj d (Yq d x1)):=by
 have hl:=h.2.1;have l0:(0:Int)<(x1.length:Int):=by lia
 have z1:(x1.getD 1 aC).size<=1048576:=bCX h 1;obtain⟨r0,r1⟩:=rF (x1.getD 1 aC);rw[aGI,r0,r1];unfold Yq;refine⟨l0,?_⟩;by_cases q:lE x1 0=aA #[116,114,105,112,115]/\x1.length=2
 ·rw[π q,π ((bE _ _).2 q.1),π (beq_iff_eq.2 (by lia))];refine⟨by lia,show (x1.getD 1 aC).size<4294967281 by lia,?_⟩;unfold aCr;have a:=aRR d (aA #[]) [] (iK (lE x1 1));by_cases c1:uR (lE x1 1)=true
  ·rw[π c1,ν (show ¬(!uR (lE x1 1))=true by lia)];have z:=Gh (Aj d.2.2.2.2.2.2.2.2.1 (iK (lE x1 1))) (JM d.2.2.2.2.2.2.2.2.1 (iK (lE x1 1))) (by have:=(aA5 d.2.2.2.2.2.2.2.2.1 (iK (lE x1 1))).1;lia) (.inl (aJR _ _));exact⟨show (iK (x1.getD 1 aC)).length<=1000000 by grind [bCW],z.1,Ha (a.trans (congrArg (λo=>some (o,d)) z.2.symm))⟩
  ·rw[ν c1,π (show (!uR (lE x1 1))=true by lia)];exact⟨rfl,rfl⟩
 ·by_cases q1:lE x1 0=aA #[116,114,105,112,115]
  ·grind [aXq]
  ·rw[ν (λh=>q1 ((bE _ _).1 h))]
   grind [aXq]
theorem bKh{d:DT5}(h:P16 d x1)(m:Nat):R16 (m+3) d x1 (Ri (wJ d x1)) (Rj d (wJ d x1)):=by
 have hl:=h.2.1;have l0:(0:Int)<(x1.length:Int):=by omega
 have z1:(x1.getD 1 aC).size<=1048576:=bCX h 1;obtain⟨r0,r1⟩:=rF (x1.getD 1 aC);obtain⟨e0,e1⟩:=AQ (x1.getD 2 aC);rw[R16,r0,r1,e0,e1];unfold wJ;refine⟨l0,?_⟩;by_cases q:lE x1 0=aA #[118,111,116,101]/\x1.length=3
 ·rw[π q,π ((bE _ _).2 q.1),π (beq_iff_eq.2 (by have:=q.2;omega))];have q2:=q.2;refine⟨by omega,show (x1.getD 1 aC).size<4294967281 by omega,by omega,?_⟩;unfold aJS;have a:=aUY d (aA #[]) [PG x1 2] (iK (lE x1 1));by_cases c1:uR (lE x1 1)=true
  ·rw[π c1,ν (show ¬(!uR (lE x1 1))=true by rw[c1];decide)];by_cases c2:jS (lE x1 2)=true
   ·rw[π c2,ν (show ¬(!jS (lE x1 2))=true by rw[c2];decide)];have z:=BR (GF (iK (lE x1 1)) (PG x1 2)) (JE (iK (lE x1 1)) (PG x1 2));exact⟨z.1,Ha (a.trans (congrArg (λo=>some (o,d)) z.2.symm))⟩
   ·rw[ν c2,π (show (!jS (lE x1 2))=true by rw[Dm c2]<;>rfl)];exact⟨rfl,rfl⟩
  ·rw[ν c1,π (show (!uR (lE x1 1))=true by rw[Dm c1]<;>rfl)];exact⟨rfl,rfl⟩
 ·rw[ν q];by_cases q1:lE x1 0=aA #[118,111,116,101]
  ·rw[π ((bE _ _).2 q1),ν (λh=>q ⟨q1,by have:=beq_iff_eq.1 h;omega⟩)];exact bKg h m
  ·rw[ν (λh=>q1 ((bE _ _).1 h))];exact bKg h m
def bNn:KK:=mM d16 (DO Tryz.func16) (λ⟨x0,x1,_⟩=>P16 x0 x1) (λ⟨x0,x1,_⟩=>[some ⟨iU,[aXn x0 x1]⟩]) (λ⟨x0,x1,_⟩=>[aJ (.sl .str) (aXo x0 x1),aJ .bool (aXp x0 x1)]) (λ⟨x0,x1,_⟩ h hwf K q =>
 (bKf _ _ K q 3).1 (bKh h 0))
def d8:jB:=D0 Tryz.func8 [.po iU,.v (.str)] [.sl .str,.bool] [kx6,bMJ,bMY,bNn]
def P8(x0:bV)(x1:Δ):Prop:=if decide ((↑(aG x1):Int)>400)then True else P6 x1 32/\if(↑(aF (cD x1 32)):Int)==1 then P14 x0 x1/\True else 0<(↑(aF (cD x1 32)):Int)/\0<(↑(aF (cD x1 32)):Int)/\bA .i64 ((↑(aG (aD (cD x1 32) 0 aC)):Int)+1)/\0<=(↑(aG (aD (cD x1 32) 0 aC)):Int)+1/\(↑(aG (aD (cD x1 32) 0 aC)):Int)+1<=(↑(aG x1):Int)/\P15 x0 (aD (cD x1 32) 0 aC) (aN x1 (aE ((↑(aG (aD (cD x1 32) 0 aC)):Int)+1)) (aE (↑(aG x1):Int)))/\if yO x0 (aD (cD x1 32) 0 aC) (aN x1 (aE ((↑(aG (aD (cD x1 32) 0 aC)):Int)+1)) (aE (↑(aG x1):Int)))then True else P16 (xV x0 (aD (cD x1 32) 0 aC) (aN x1 (aE ((↑(aG (aD (cD x1 32) 0 aC)):Int)+1)) (aE (↑(aG x1):Int)))) (cD x1 32)/\True
def C6(x0:bV)(x1:Δ):Γ Δ:=if decide ((↑(aG x1):Int)>400)then [] else if(↑(aF (cD x1 32)):Int)==1 then Oo x0 x1 else if yO x0 (aD (cD x1 32) 0 aC) (aN x1 (aE ((↑(aG (aD (cD x1 32) 0 aC)):Int)+1)) (aE (↑(aG x1):Int)))then DX x0 (aD (cD x1 32) 0 aC) (aN x1 (aE ((↑(aG (aD (cD x1 32) 0 aC)):Int)+1)) (aE (↑(aG x1):Int)))else aXo (xV x0 (aD (cD x1 32) 0 aC) (aN x1 (aE ((↑(aG (aD (cD x1 32) 0 aC)):Int)+1)) (aE (↑(aG x1):Int)))) (cD x1 32)
def aSa(x0:bV)(x1:Δ):Bool:=if decide ((↑(aG x1):Int)>400)then false else if(↑(aF (cD x1 32)):Int)==1 then Oq x0 x1 else if yO x0 (aD (cD x1 32) 0 aC) (aN x1 (aE ((↑(aG (aD (cD x1 32) 0 aC)):Int)+1)) (aE (↑(aG x1):Int)))then true else aXp (xV x0 (aD (cD x1 32) 0 aC) (aN x1 (aE ((↑(aG (aD (cD x1 32) 0 aC)):Int)+1)) (aE (↑(aG x1):Int)))) (cD x1 32)
def Gi(x0:bV)(x1:Δ):bV:=if decide ((↑(aG x1):Int)>400)then x0 else if(↑(aF (cD x1 32)):Int)==1 then x0 else if yO x0 (aD (cD x1 32) 0 aC) (aN x1 (aE ((↑(aG (aD (cD x1 32) 0 aC)):Int)+1)) (aE (↑(aG x1):Int)))then xV x0 (aD (cD x1 32) 0 aC) (aN x1 (aE ((↑(aG (aD (cD x1 32) 0 aC)):Int)+1)) (aE (↑(aG x1):Int)))else aXn (xV x0 (aD (cD x1 32) 0 aC) (aN x1 (aE ((↑(aG (aD (cD x1 32) 0 aC)):Int)+1)) (aE (↑(aG x1):Int)))) (cD x1 32)
def kx8:KK:=mU d8 (DO Tryz.func8) P8 (λx=>[some ⟨.cons (.sl fQ) YA1,[Gi x.1 x.2.1]⟩]) (C6,aSa,()) λ_=>rQ pr<|aO<|rQ (aO pr)<|pq 0<|aO<|pq 0<|aO<|aO<|eE<|aO<|rQ pr<|aO pr
end
def TX(d:bV)(w r:Δ)(a:Option (Γ Δ×bV)):Prop:=P15 d w r/\yO d w r=a.isSome/\(a.isSome=true->DX d w r=aNJ a)/\xV d w r=aNI d a
variable {d:bV} {r:Δ}
theorem aVj(hd:Vd d)(hr:r.size<=1048576):TX d (aA #[98,101,110,100]) r (tY d (aA #[98,101,110,100],r,[],[],())):=by
 obtain⟨p,e1,e0⟩:=(aRK hr);have q:=(UC d.1).1 hd.1;rw[aVc hd.1];unfold TX P15 DX yO xV;simp (decide:=true) only[bE];by_cases c:xO r=true
 ·have h:¬(!LV r)=true:=by lia
  rw[π c,e0 c];exact⟨⟨p,(ν h).mpr ⟨⟨q.1.2,by lia⟩,(tJ _).1,trivial⟩⟩,ν h,λ_=>(ν h).trans (EX _),ν h⟩
 ·have h:(!LV r)=true:=by lia
  rw[ν c];exact⟨⟨p,(π h).mpr trivial⟩,π h,λk=>(by grind),π h⟩
theorem aNL(hd:Vd d)(hr:r.size<=1048576):TX d (aA #[119,111,114,107,101,114]) r (tY d (aA #[119,111,114,107,101,114],r,[],[],())):=by
 obtain⟨p,e1,e0⟩:=(show P37 r/\LY r=vF r/\(vF r=true->Sx r=lI r)from⟨(Rh r hr).1,(Rh r hr).2.2.2.symm,λ_=>(Rh r hr).2.2.1.symm⟩);have q:=(Kk d.2.2.2.2.2.2.1).1 hd.2.2.2.2.2.2.1;rw[aNG hd.2.2.2.2.2.2.1];unfold TX P15 DX yO xV;simp (decide:=true) only[bE];by_cases c:vF r=true
 ·have h:¬(!LY r)=true:=by lia
  rw[π c,e0 c];exact⟨⟨p,(ν h).mpr ⟨⟨q.1.2,by lia⟩,(tJ _).1,trivial⟩⟩,ν h,λ_=>(ν h).trans (EX _),ν h⟩
 ·have h:(!LY r)=true:=by lia
  rw[ν c];exact⟨⟨p,(π h).mpr trivial⟩,π h,λk=>(by grind),π h⟩
theorem aVk(hd:Vd d)(hr:r.size<=1048576):TX d (aA #[102,97,114,101]) r (tY d (aA #[102,97,114,101],r,[],[],())):=by
 obtain⟨p,e1,e0⟩:=(aRL hr);have q:=(UD d.2.2.2.2.2.2.2.2.1).1 hd.2.2.2.2.2.2.2.2.1;rw[aVd hd.2.2.2.2.2.2.2.2.1];unfold TX P15 DX yO xV P40 X0 X1 X2;simp (decide:=true) only[bE];by_cases c:xQ r=true
 ·have h:¬(!EN r)=true:=by lia
  rw[π c,e0 c];exact⟨⟨⟨p,(ν h).mpr ⟨⟨q.1.2,by lia⟩,(tJ _).1,trivial⟩⟩,trivial⟩,ν h,λ_=>(ν h).trans (EX _),ν h⟩
 ·have h:(!EN r)=true:=by lia
  rw[ν c];exact⟨⟨⟨p,(π h).mpr trivial⟩,trivial⟩,π h,λk=>(by grind),π h⟩
theorem aNM(hd:Vd d)(hr:r.size<=1048576):TX d (aA #[104,101,108,112,101,114]) r (tY d (aA #[104,101,108,112,101,114],r,[],[],())):=by
 obtain⟨p,e1,e0⟩:=(show aQW r/\EO r=vG r/\(vG r=true->Jh r=lJ r)from⟨(N0 hr).1,(N0 hr).2.1,λ_=>(N0 hr).2.2⟩);have q:=(Km d.2.2.2.2.2.2.2.2.2.2.1).1 hd.2.2.2.2.2.2.2.2.2.2.1;rw[aNH hd.2.2.2.2.2.2.2.2.2.2.1];unfold TX P15 DX yO xV P40 X0 X1 X2;simp (decide:=true) only[bE];by_cases c:vG r=true
 ·have h:¬(!EO r)=true:=by lia
  rw[π c,e0 c];exact⟨⟨⟨p,(ν h).mpr ⟨⟨q.1.2,by lia⟩,(tJ _).1,trivial⟩⟩,trivial⟩,ν h,λ_=>(ν h).trans (EX _),ν h⟩
 ·have h:(!EO r)=true:=by lia
  rw[ν c];exact⟨⟨⟨p,(π h).mpr trivial⟩,trivial⟩,π h,λk=>(by grind),π h⟩
theorem aVl(hd:Vd d)(hr:r.size<=1048576):TX d (aA #[116,97,115,107]) r (tY d (aA #[116,97,115,107],r,[],[],())):=by
 obtain⟨p,e1,e0⟩:=(show aQW r/\EO r=vG r/\(vG r=true->Jh r=lJ r)from⟨(N0 hr).1,(N0 hr).2.1,λ_=>(N0 hr).2.2⟩);have q:=(UE d.2.2.2.2.2.2.2.2.2.2.2.1).1 hd.2.2.2.2.2.2.2.2.2.2.2;rw[aVe hd.2.2.2.2.2.2.2.2.2.2.2];unfold TX P15 DX yO xV P40 X0 X1 X2;simp (decide:=true) only[bE];by_cases c:vG r=true
 ·have h:¬(!EO r)=true:=by lia
  rw[π c,e0 c];exact⟨⟨⟨p,(ν h).mpr ⟨⟨q.1.2,by lia⟩,(tJ _).1,trivial⟩⟩,trivial⟩,ν h,λ_=>(ν h).trans (EX _),ν h⟩
 ·have h:(!EO r)=true:=by lia
  rw[ν c];exact⟨⟨⟨p,(π h).mpr trivial⟩,trivial⟩,π h,λk=>(by grind),π h⟩
theorem aVm(hd:Vd d)(hr:r.size<=1048576):TX d (aA #[114,111,112,101]) r (tY d (aA #[114,111,112,101],r,[],[],())):=by
 obtain⟨p,e1,e0⟩:=aRI hr;rw[aVh];unfold TX P15 DX yO xV;simp (decide:=true) only[bE];by_cases c:Fx r=true
 ·have h:LW r=true:=e1.trans c;rw[π c,e0];exact⟨⟨p,trivial⟩,(π h).trans h,λ_=>π h,π h⟩
 ·have h:¬LW r=true:=by lia
  rw[ν c];exact⟨⟨p,trivial⟩,(ν h).trans (cG.2 h),λk=>(by grind),ν h⟩
theorem aSb(hd:Vd d)(hr:r.size<=1048576):TX d (aA #[109,111,116,111,114]) r (tY d (aA #[109,111,116,111,114],r,[],[],())):=by
 obtain⟨p,e1,e0⟩:=aNC hr;rw[aRU];unfold TX P15 DX yO xV;simp (decide:=true) only[bE];by_cases c:Fy r=true
 ·have h:LX r=true:=e1.trans c;rw[π c,e0];exact⟨⟨p,trivial⟩,(π h).trans h,λ_=>π h,π h⟩
 ·have h:¬LX r=true:=by lia
  rw[ν c];exact⟨⟨p,trivial⟩,(ν h).trans (cG.2 h),λk=>(by grind),ν h⟩
theorem aSc(hd:Vd d)(hr:r.size<=1048576):TX d (aA #[98,97,115,105,110]) r (tY d (aA #[98,97,115,105,110],r,[],[],())):=by
 obtain⟨p,e1,e0⟩:=aND hr;rw[aRV];unfold TX P15 DX yO xV;simp (decide:=true) only[bE];by_cases c:Fz r=true
 ·have h:LZ r=true:=e1.trans c;rw[π c,e0];exact⟨⟨p,trivial⟩,(π h).trans h,λ_=>π h,π h⟩
 ·have h:¬LZ r=true:=by lia
  rw[ν c];exact⟨⟨p,trivial⟩,(ν h).trans (cG.2 h),λk=>(by grind),ν h⟩
theorem aVn(hd:Vd d)(hr:r.size<=1048576):TX d (aA #[104,111,117,114]) r (tY d (aA #[104,111,117,114],r,[],[],())):=by
 obtain⟨p,e1,e0⟩:=aRJ hr;have hl:=(wH hd.2.2.1).1;rw[aVf hl];unfold TX P15 DX yO xV;simp (decide:=true) only[bE];by_cases c:zA r=true
 ·have h:¬(!uU r)=true:=by lia
  rw[π c,e0];by_cases q:(d.2.2.1.length:Int)=48
  ·have k:((d.2.2.1.length:Int)==48)=true:=beq_iff_eq.2 q;rw[π q,π q];exact⟨⟨p,(ν h).mpr ((π k).mpr ⟨(tJ _).1,trivial⟩)⟩,(ν h).trans (π k),λ_=>(ν h).trans ((π k).trans (EX _)),(ν h).trans (π k)⟩
  ·have k:¬((d.2.2.1.length:Int)==48)=true:=λh=>q (beq_iff_eq.1 h);rw[ν q,ν q];exact⟨⟨p,(ν h).mpr ((ν k).mpr ⟨by lia,by grind,(tJ _).1,trivial⟩)⟩,(ν h).trans (ν k),λ_=>(ν h).trans ((ν k).trans (EX _)),(ν h).trans (ν k)⟩
 ·have h:(!uU r)=true:=by lia
  rw[ν c];exact⟨⟨p,(π h).mpr trivial⟩,π h,λk=>(by grind),π h⟩
theorem aVo(hd:Vd d)(hr:r.size<=1048576):TX d (aA #[116,101,115,116]) r (tY d (aA #[116,101,115,116],r,[],[],())):=by
 obtain⟨p,_,e0,e1⟩:=aUV r hr;obtain⟨p2,f0,f1⟩:=bC9 hd.2.2.2.2.2.2.2.2.2.1 (qP r);rw[aVg];unfold TX P15 DX yO xV P40 X0 X1 X2;simp (decide:=true) only[bE];by_cases c:CH r=true
 ·have h:¬(!C0 r)=true:=by lia
  rw[π c, <- e0];by_cases q:Dr d.2.2.2.2.2.2.2.2.2.1 (qP r)=0
  ·have k:(zT d.2.2.2.2.2.2.2.2.2.1 (qP r)==0)=true:=beq_iff_eq.2 (f1.trans q);rw[π q, <- f0, <- f1];exact⟨⟨⟨p,(ν h).mpr ⟨p2,(π k).mpr ⟨(tJ _).1,trivial⟩⟩⟩,trivial⟩,(ν h).trans (π k),λ_=>(ν h).trans ((π k).trans (EX _)),(ν h).trans (π k)⟩
  ·have k:¬(zT d.2.2.2.2.2.2.2.2.2.1 (qP r)==0)=true:=λh=>q (f1.symm.trans (beq_iff_eq.1 h));rw[ν q, <- f1];exact⟨⟨⟨p,(ν h).mpr ⟨p2,(ν k).mpr ⟨(tJ _).1,trivial⟩⟩⟩,trivial⟩,(ν h).trans (ν k),λ_=>(ν h).trans ((ν k).trans (EX _)),(ν h).trans (ν k)⟩
 ·have h:(!C0 r)=true:=by lia
  rw[ν c];exact⟨⟨⟨p,(π h).mpr trivial⟩,trivial⟩,π h,λk=>(by grind),π h⟩
theorem aSd{l:Γ UInt8}{b:UInt8}(hb:b∈l)(h:b≠32):fE l 32≠[]:=λe=>by
 have e:=List.reverse_eq_nil_iff.1 e;have key:∀l:Γ UInt8,l.dropWhile (· == 32)=[]->∀b∈l,b=32:=λl=>by
  induction l with
  | nil=>simp
  | cons a r ih =>
   intro hd b hb;by_cases q:(a==32)=true
   ·rw[List.dropWhile_cons]at hd
    grind
   simp_all
 exact h (key _ e b (List.mem_reverse.2 hb))
theorem aLC(h:Γ Int){c:Δ}(r:Γ Δ){b:UInt8}(hb:b∈c.data.toList)(h32:b≠32):u6 h (c::r)≠aA #[]:=λe=>by
 have e:=congrArg (λx=>x.data.toList) e;refine aSd ?_ h32 (show fE (Lib.join ((sV h 0 (c::r)).map λx=>x.data.toList) [32,32]) 32=[] from e);rw[sV,dG,o7,Xz];simp[hb]
theorem aVp(xs:Γ c7):∀s∈Al xs,s≠aA #[]:=by
 intro s hs;unfold Al at hs;split at hs
 ·rename_i hv;rw[Ey]at hv;obtain⟨hl,ho⟩:=aGD hv;unfold EC at hs;split at hs
  ·grind
  ·unfold GQ at hs;split at hs
   ·grind
   ·obtain⟨r,hr,rfl⟩:=dK.1 hs;rcases aW.1 hr with rfl | hr
    ·exact aLC _ _ (b:=100) (by simp) (by lia)
    ·obtain⟨x,hx,rfl⟩:=dK.1 hr;obtain⟨a,b,c,e1,e2,p1,p2,ha,hb,hc⟩:=Rf (YB (ho x hx)).1;obtain⟨y,hy⟩:=List.exists_mem_of_length_pos (l:=(dT a b c).data.toList) (show 0<(dT a b c).size by simp[aUT]);have hz:=(aL7 (a:=a) hb (show c<=31 by lia)).1;unfold DT;rw[e1];refine aLC _ _ hy (λq=>?_);have:=hz (y.toNat:Int) (by unfold b9;grind);simp_all
 grind
theorem bCY(d:bV):∀s∈zO d,s≠aA #[]:=by
 intro s hs;unfold zO at hs;split at hs
 ·unfold RA Oa at hs;simp at hs;have k:∀(w:Δ) (n:Int),Ob w n≠aA #[]:=λw n e=>by
   have:=congrArg aG e;unfold Ob at this;rw[bD,bD]at this;have z:(aA #[32]).size=1:=rfl;have z2:(aA #[]).size=0:=rfl
   lia
  grind
 grind
theorem aVq(d:bV):(zO d).length<=9:=by
 unfold zO;split
 ·exact aT _
 simp
theorem aSe(x:bV):XO x=zO x/\XP x=JR x:=by
 have e:Ob=aQM:=rfl;have e1:RA=W29:=rfl;have e2:Oa x=N29 x:=rfl;unfold zO JR XO XP;rw[aJp]
 lia
abbrev NMS:Γ Δ:=[aA #[98,97,115,105,110],aA #[98,101,110,100],aA #[99,111,118,101,114],aA #[100,117,101],aA #[101,118,101,110,116],aA #[102,97,114,101],aA #[102,105,108,108],aA #[104,101,108,112],aA #[104,101,108,112,101,114],aA #[104,111,117,114],aA #[108,105,109,105,116],aA #[109,111,116,111,114],aA #[112,111,119,101,114],aA #[113,117,101,117,101],aA #[114,101,112,111,114,116],aA #[114,101,115,101,114,118,101],aA #[114,111,112,101],aA #[114,117,110,110,105,110,103],aA #[115,104,111,119],aA #[115,108,111,119,101,115,116],aA #[116,97,115,107],aA #[116,101,115,116],aA #[116,114,105,112,115],aA #[118,111,116,101],aA #[119,97,116,101,114],aA #[119,111,114,107,101,114]]
abbrev OTS:Γ Δ:=[aA #[118,111,116,101],aA #[116,114,105,112,115],aA #[113,117,101,117,101]]
abbrev TBL:Γ Δ:=[aA #[118,111,116,101],aA #[116,114,105,112,115],aA #[113,117,101,117,101],aA #[115,108,111,119,101,115,116],aA #[114,101,115,101,114,118,101],aA #[108,105,109,105,116],aA #[112,111,119,101,114],aA #[101,118,101,110,116],aA #[99,111,118,101,114],aA #[119,97,116,101,114],aA #[100,117,101]]
abbrev TXW:Γ Δ:=[aA #[98,101,110,100],aA #[114,111,112,101],aA #[104,111,117,114],aA #[109,111,116,111,114],aA #[119,111,114,107,101,114],aA #[98,97,115,105,110],aA #[102,97,114,101],aA #[116,101,115,116],aA #[104,101,108,112,101,114],aA #[116,97,115,107]]
abbrev ALW:Γ Δ:=[aA #[114,117,110,110,105,110,103],aA #[102,105,108,108],aA #[114,101,112,111,114,116],aA #[115,104,111,119],aA #[104,101,108,112]]
theorem Rk(w:Δ):S4 Es w=true↔w∈NMS:=by
 show decide (MK Es w>=0)=true↔_;rw[aXX,List.any_eq_true];exact⟨λ⟨y,hy,h⟩=>(bE _ _).1 h ▸ hy,λh=>⟨w,h,(bE _ _).2 rfl⟩⟩
def C7(d:bV)(x:Δ):Option (Γ Δ×bV):=if CB x=true then tY d (iE x)else none
def rc(d:bV)(p:CMD×Bool):Option (Γ Δ×bV):=if p.2=true then tY d p.1 else none
variable {x:Δ}
theorem bDb(h:400<x.size):C7 d x=none:=by
 unfold C7 CB OU;rw[π h];rfl
theorem bKk(h:¬400<x.size)(hn:(gH x).getD 0 aC ∉ NMS):C7 d x=none:=by
 unfold C7 CB OU;rw[ν h,π (cG.2 λq=>hn ((Rk _).1 q))];rfl
theorem bKl{x w:Δ}(h:¬400<x.size)(hw:(gH x).getD 0 aC=w)(hn:w∈NMS)(hk:dZ w=aA #[116]):C7 d x=if LL x (aA #[32])=true then tY d (w,gG x (aA #[32]),[],[],())else none:=by
 have hk:AM x=aA #[116]:=by grind [AM]
 have nf:¬S4 Es w=false:=λq=>SD (((Rk _).2 hn).symm.trans q);unfold C7 CB iE OU
 lia
theorem YG{x w k:Δ}(h:¬400<x.size)(hw:(gH x).getD 0 aC=w)(hn:w∈NMS)(hk:dZ w=k)(h1:k≠aA #[116]):AM x=k/\C7 d x=if(gH x).length=k.size+1 then rc d (aFx x (Kw x k.size 0 [] []))else none:=by
 have hk:AM x=k:=by grind [AM]
 have nf:¬S4 Es w=false:=λq=>SD (((Rk _).2 hn).symm.trans q);refine⟨hk,?_⟩;unfold C7 CB iE OU;rw[hw,hk,ν h,ν nf,ν h1];by_cases c:(gH x).length=k.size+1
 ·rw[π c,π c]<;>rfl
 ·rw[ν c,ν c]<;>rfl
theorem aSf(x1:Γ Δ):∀(k i:Nat) (n r:Γ Int),N1 x1 k i n=some r->r.length=n.length+k:=by
 intro k
 induction k with
 | zero=>intro i n r h;cases h;rfl
 | succ k ih =>
  grind [N1]
theorem bKm{c:Nat}(hj:∀j,j<c->CA x j=110):∀(k i:Nat) (n l:Γ Int),i+k=c->Kw x k i n l=(N1 (gH x) k (1+i) n).map (λr=>(r,l)):=by
 intro k
 induction k with
 | zero=>intro i n l _;rfl
 | succ k ih =>
  intro i n l hi;rw[Kw,N1]
  grind
theorem bDc{x w:Δ}(hw:(gH x).getD 0 aC=w)(o:Option (Γ Int)):rc d (aFx x (o.map λr=>(r,[])))=o.bind λn=>tY d (w,aA #[],n,[],()):=by
 subst hw;cases o with
 | none=>rfl
 | some n=>rfl
theorem sk{w v:Δ}{l:Γ Δ}{k n:Nat}(h:w ∉ l)(hv:v∈l):¬(w=v/\n=k):=λq=>h (q.1 ▸ hv)
theorem TC{x w k:Δ}{c:Nat}(h:¬400<x.size)(hw:(gH x).getD 0 aC=w)(hn:w∈NMS)(hk:dZ w=k)(h1:k≠aA #[116])(hs:k.size=c)(hj:∀j,j<c->((k.data.toList.getD j 0).toNat:Int)=110)
  (hp:∀n,fN d w n C5=if n.length=c then tY d (w,aA #[],n,[],())else none) (ho:w ∉ OTS) (hl:1<=(gH x).length):C7 d x=wJ d (gH x):=by
 obtain⟨e,r⟩:=YG (d:=d) h hw hn hk h1;have hj:∀j,j<c->CA x j=110:=λj q=>by grind [CA]
 rw[r,hs,bKm hj c 0 [] [] (bX _),bDc hw];unfold wJ Yq L5 L4 lE;rw[hw,ν (sk (v:=aA #[118,111,116,101]) ho (by simp)),ν (sk (v:=aA #[116,114,105,112,115]) ho (by simp)),ν (sk (v:=aA #[113,117,101,117,101]) ho (by simp))];by_cases q:(gH x).length=c+1
 ·rw[π q,show (gH x).length-1=c by lia];cases z:N1 (gH x) c 1 [] with
  | none=>rfl
  | some n =>
   have:=aSf _ _ _ _ _ z
   grind
 ·rw[ν q];cases z:N1 (gH x) ((gH x).length-1) 1 [] with
  | none=>rfl
  | some n =>
   have:=aSf _ _ _ _ _ z
   grind
theorem aSg{x1:Γ Δ}(h:x1.getD 0 aC ∉ TBL):wJ d x1=none:=by
 unfold wJ Yq L5 L4 lE;rw[ν (sk (v:=aA #[118,111,116,101]) h (by simp)),ν (sk (v:=aA #[116,114,105,112,115]) h (by simp)),ν (sk (v:=aA #[113,117,101,117,101]) h (by simp))];cases N1 x1 (x1.length-1) 1 [] with
 | none=>rfl
 | some n =>
  unfold C5;simp[fN];simp_all
theorem aJT(d:bV)(n:Γ Int):fN d (aA #[115,108,111,119,101,115,116]) n C5=if n.length=1 then tY d (aA #[115,108,111,119,101,115,116],aA #[],n,[],())else none:=by
 simp[C5,fN]
theorem aJU(d:bV)(n:Γ Int):fN d (aA #[114,101,115,101,114,118,101]) n C5=if n.length=1 then tY d (aA #[114,101,115,101,114,118,101],aA #[],n,[],())else none:=by
 simp[C5,fN]
theorem aSh(d:bV)(n:Γ Int):fN d (aA #[108,105,109,105,116]) n C5=if n.length=3 then tY d (aA #[108,105,109,105,116],aA #[],n,[],())else none:=by
 simp[C5,fN]
theorem aSi(d:bV)(n:Γ Int):fN d (aA #[112,111,119,101,114]) n C5=if n.length=2 then tY d (aA #[112,111,119,101,114],aA #[],n,[],())else none:=by
 simp[C5,fN]
theorem aSj(d:bV)(n:Γ Int):fN d (aA #[101,118,101,110,116]) n C5=if n.length=1 then tY d (aA #[101,118,101,110,116],aA #[],n,[],())else none:=by
 simp[C5,fN]
theorem aSk(d:bV)(n:Γ Int):fN d (aA #[99,111,118,101,114]) n C5=if n.length=2 then tY d (aA #[99,111,118,101,114],aA #[],n,[],())else none:=by
 simp[C5,fN]
theorem aSl(d:bV)(n:Γ Int):fN d (aA #[119,97,116,101,114]) n C5=if n.length=5 then tY d (aA #[119,97,116,101,114],aA #[],n,[],())else none:=by
 simp[C5,fN]
theorem bDd(d:bV)(n:Γ Int):fN d (aA #[100,117,101]) n C5=if n.length=2 then tY d (aA #[100,117,101],aA #[],n,[],())else none:=by
 simp[C5,fN]
theorem aCt{x w:Δ}(hw:(gH x).getD 0 aC=w)(n l:Γ Int):rc d (aFx x (some (n,l)))=tY d (w,aA #[],n,l,()):=by subst hw;rfl
theorem bDe(h:¬400<x.size)(hw:(gH x).getD 0 aC=aA #[118,111,116,101])(hl:1<=(gH x).length):C7 d x=wJ d (gH x):=by
 obtain⟨e,r⟩:=YG (d:=d) (k:=aA #[108,110]) h hw (by simp) (by simp[dZ]) (by lia);have k0:CA x 0=108:=by unfold CA;simp_all
 have k1:CA x 1=110:=by unfold CA;simp_all
 have s:(aA #[108,110]:Δ).size=2:=rfl;rw[r,s];unfold wJ Yq L5;by_cases q:(gH x).length=2+1
 ·rw[π q,π ⟨hw,q⟩];unfold aJS;simp (decide:=true) only[Kw,k0,k1,if_true,if_false];by_cases c0:uR (lE (gH x) 1)=true
  rotate_left
  ·rw[ν c0,ν c0];rfl
  rw[π c0,π c0];by_cases c1:jS (lE (gH x) 2)=true
  rotate_left
  ·rw[ν c1,ν c1];rfl
  grind [aCt]
 ·rw[ν q,ν (λh=>q h.2),ν (λq=>by lia),ν (λq=>by lia)];unfold L4;cases N1 (gH x) ((gH x).length-1) 1 [] with
  | none=>rfl
  | some n =>
   rw[hw];rfl
theorem aVr(h:¬400<x.size)(hw:(gH x).getD 0 aC=aA #[116,114,105,112,115])(hl:1<=(gH x).length):C7 d x=wJ d (gH x):=by
 obtain⟨e,r⟩:=YG (d:=d) (k:=aA #[108]) h hw (by simp) (by simp[dZ]) (by lia);have k0:CA x 0=108:=by unfold CA;simp_all
 have s:(aA #[108]:Δ).size=1:=rfl;rw[r,s];unfold wJ Yq L5;by_cases q:(gH x).length=1+1
 ·rw[π q,ν (λq=>by lia),π ⟨hw,q⟩];unfold aCr;simp (decide:=true) only[Kw,k0];by_cases c0:uR (lE (gH x) 1)=true
  rotate_left
  ·rw[ν c0,ν c0];rfl
  grind [aCt]
 ·rw[ν q,ν (λq=>by lia),ν (λh=>q h.2),ν (λq=>by lia)];unfold L4;cases N1 (gH x) ((gH x).length-1) 1 [] with
  | none=>rfl
  | some n =>
   rw[hw];rfl
theorem aVs(h:¬400<x.size)(hw:(gH x).getD 0 aC=aA #[113,117,101,117,101])(hl:1<=(gH x).length):C7 d x=wJ d (gH x):=by
 obtain⟨e,r⟩:=YG (d:=d) (k:=aA #[97,110,110]) h hw (by simp) (by simp[dZ,decide,bE,if_true,if_false]) (by lia);have k0:CA x 0=97:=by unfold CA;simp_all
 have k1:CA x 1=110:=by unfold CA;simp_all
 have k2:CA x 2=110:=by grind [CA]
 have s:(aA #[97,110,110]:Δ).size=3:=rfl;rw[r,s];unfold wJ Yq L5;by_cases q:(gH x).length=3+1
 ·rw[π q,ν (λq=>by lia),ν (λq=>by lia),π ⟨hw,q⟩];unfold aCs;simp (decide:=true) only[Kw,k0,k1,k2,if_true,if_false,List.nil_append];by_cases c0:xM (lE (gH x) 1)=true
  rotate_left
  ·rw[ν c0,ν c0];rfl
  rw[π c0,π c0];by_cases c1:jS (lE (gH x) 2)=true
  rotate_left
  ·rw[ν c1,ν c1];rfl
  rw[π c1,π c1];by_cases c2:jS (lE (gH x) 3)=true
  rotate_left
  ·rw[ν c2,ν c2];rfl
  grind [aCt]
 ·rw[ν q,ν (λq=>by lia),ν (λq=>by lia),ν (λh=>q h.2)];unfold L4;cases N1 (gH x) ((gH x).length-1) 1 [] with
  | none=>rfl
  | some n =>
   rw[hw];rfl
def AL(d:bV)(x:Δ)(a:Option (Γ Δ×bV)):Prop:=P14 d x/\Oq d x=a.isSome/\(a.isSome=true->Oo d x=aNJ a)/\aNI d a=d
theorem aJV(hd:Vd d):AL d (aA #[114,117,110,110,105,110,103]) (tY d (aA #[114,117,110,110,105,110,103],aA #[],[],[],())):=by
 have z:=PF (JG d.2.2.2.1 d.2.2.1) (bCT (x0:=d.2.2.2.1) (x1:=d.2.2.1));rw[aJQ];unfold AL P14 Oo Oq;simp (decide:=true) only[bE];exact⟨⟨z.1,trivial⟩,rfl,λ_=>z.2,rfl⟩
theorem aVt(hd:Vd d):AL d (aA #[102,105,108,108]) (tY d (aA #[102,105,108,108],aA #[],[],[],())):=by
 have z:=PF (Qq d.2.2.2.2.2.2.2.2.2.2.1 d.2.2.2.2.2.2.2.2.2.2.2.1) (aRF (x0:=d.2.2.2.2.2.2.2.2.2.2.1) (x1:=d.2.2.2.2.2.2.2.2.2.2.2.1) (by have:=aGe hd.2.2.2.2.2.2.2.2.2.2.1;lia) (by have:=aGf hd.2.2.2.2.2.2.2.2.2.2.2;lia));rw[aUZ];unfold AL P14 Oo Oq;simp (decide:=true) only[bE];exact⟨⟨z.1,trivial⟩,rfl,λ_=>z.2,rfl⟩
theorem aNN(hd:Vd d):AL d (aA #[114,101,112,111,114,116]) (tY d (aA #[114,101,112,111,114,116],aA #[],[],[],())):=by
 have z:=Gh (Al d.2.2.2.2.2.2.2.2.2.1) (JQ d.2.2.2.2.2.2.2.2.2.1) (by have:=(AU d.2.2.2.2.2.2.2.2.2.1).2.2.2.2;rw[(AU d.2.2.2.2.2.2.2.2.2.1).2.2.1];lia) (.inl (aVp _));rw[aNF];unfold AL P14 Oo Oq;simp (decide:=true) only[bE];rw[(AU d.2.2.2.2.2.2.2.2.2.1).2.2.1,(AU d.2.2.2.2.2.2.2.2.2.1).2.2.2.1]at *;exact⟨⟨(AU d.2.2.2.2.2.2.2.2.2.1).2.1,z.1,trivial⟩,rfl,λ_=>z.2,rfl⟩
theorem aVu(hd:Vd d):AL d (aA #[115,104,111,119]) (tY d (aA #[115,104,111,119],aA #[],[],[],())):=by
 have z:=Gh (zO d) (JR d) (by grind [aVq]) (.inl (bCY d));rw[aVa];unfold AL P14 Oo Oq;simp (decide:=true) only[bE];rw[(aSe d).1,(aSe d).2];exact⟨⟨z.1,trivial⟩,rfl,λ_=>z.2,rfl⟩
theorem aVv(hd:Vd d):AL d (aA #[104,101,108,112]) (tY d (aA #[104,101,108,112],aA #[],[],[],())):=by
 rw[aVb];unfold AL P14 Oo Oq;simp (decide:=true) only[bE];exact⟨trivial,rfl,λ_=>rfl,rfl⟩
theorem aVw(h:x ∉ ALW):AL d x none:=by
 simp at h;obtain⟨h1,h2,h3,h4,h5⟩:=h;unfold AL P14 Oo Oq;simp only[bE,h1,h2,h3,h4,h5];exact⟨trivial,rfl,λk=>(by rfl),rfl⟩
theorem aVx{w r:Δ}(h:w ∉ TXW):TX d w r none:=by
 simp at h;obtain⟨h1,h2,h3,h4,h5,h6,h7,h8,h9,h10⟩:=h;unfold TX P15 DX yO xV P40 X0 X1 X2;simp only[bE,h1,h2,h3,h4,h5,h6,h7,h8,h9,h10];exact⟨⟨trivial,trivial⟩,rfl,λk=>(by rfl),rfl⟩
theorem bDf(hd:Vd d){w r:Δ}(hr:r.size<=1048576)(h:w∈TXW):TX d w r (tY d (w,r,[],[],())):=by
 simp at h;rcases h with rfl | rfl | rfl | rfl | rfl | rfl | rfl | rfl | rfl | rfl
 ·grind [aVj]
 ·grind [aVm]
 ·grind [aVn]
 ·grind [aSb]
 all_goals grind [aNL,aSc,aVk,aVo,aNM,aVl]
theorem aSm{x w:Δ}(h:¬400<x.size)(hw:(gH x).getD 0 aC=w)(ht:w∈TXW):C7 d x=if LL x (aA #[32])=true then tY d (w,gG x (aA #[32]),[],[],())else none:=by
 simp at ht;rcases ht with rfl | rfl | rfl | rfl | rfl | rfl | rfl | rfl | rfl | rfl <;> exact bKl h hw (by simp) (by simp[dZ])
theorem aLD{x w:Δ}(h:¬400<x.size)(hw:(gH x).getD 0 aC=w)(ht:w∈ALW):C7 d x=if(gH x).length=1 then tY d (w,aA #[],[],[],())else none:=by
 have key:dZ w=aA #[]/\w∈NMS:=by
  simp at ht;rcases ht with rfl | rfl | rfl | rfl | rfl <;> exact⟨by simp[dZ],by simp⟩
 rw[(YG (d:=d) h hw key.2 key.1 (by lia)).2];by_cases c:(gH x).length=1
 ·rw[π c,π (show (gH x).length=(aA #[]).size+1 from c)];exact aCt hw [] []
 ·rw[ν c,ν (show ¬(gH x).length=(aA #[]).size+1 from c)]
theorem aLE(h:¬400<x.size)(hl:1<=(gH x).length)(ht:(gH x).getD 0 aC∈TBL):C7 d x=wJ d (gH x):=by
 simp at ht;rcases ht with ht | ht | ht | ht | ht | ht | ht | ht | ht | ht | ht
 ·grind [bDe]
 ·grind [aVr]
 ·grind [aVs]
 ·exact TC (k:=aA #[110]) (c:=1) h ht (by simp) (by simp[dZ,decide,bE,if_true]) (by lia) rfl (by simp) (aJT d) (by simp) hl
 ·exact TC (k:=aA #[110]) (c:=1) h ht (by simp) (by simp[dZ,decide,if_false]) (by lia) rfl (by simp) (aJU d) (by simp) hl
 ·exact TC (k:=aA #[110,110,110]) (c:=3) h ht (by simp) (by simp[dZ,bE,if_true]) (by lia) rfl (by decide) (aSh d) (by simp) hl
 ·exact TC (k:=aA #[110,110]) (c:=2) h ht (by simp) (by simp[dZ,decide,bE,if_true,if_false]) (by lia) rfl (by decide) (aSi d) (by simp) hl
 ·exact TC (k:=aA #[110]) (c:=1) h ht (by simp) (by simp[dZ,decide,bE,if_true,if_false]) (by lia) rfl (by simp) (aSj d) (by simp) hl
 ·exact TC (k:=aA #[110,110]) (c:=2) h ht (by simp) (by simp[dZ,decide,bE,if_false]) (by lia) rfl (by decide) (aSk d) (by simp) hl
 ·exact TC (k:=aA #[110,110,110,110,110]) (c:=5) h ht (by simp) (by simp[dZ,decide,bE,if_true,if_false]) (by lia) rfl (by decide) (aSl d) (by simp) hl
 ·exact TC (k:=aA #[110,110]) (c:=2) h ht (by simp) (by simp[dZ,decide,bE,if_true,if_false]) (by lia) rfl (by decide) (bDd d) (by simp) hl
theorem bKn{x1:Γ Δ}(h:x1.length=1):wJ d x1=none:=by
 unfold wJ Yq L5 L4;rw[h,ν (λq=>absurd q.2 (by lia)),ν (λq=>absurd q.2 (by lia)),ν (λq=>absurd q.2 (by lia))];show fN d (x1.getD 0 aC) [] C5=none;simp[C5,fN]
theorem aGJ{w:Δ}(h:w∈NMS):w∈TXW\/w∈ALW\/w∈TBL:=by
 simp at h;simp;lia
theorem bKo{w:Δ}(h:w∈TXW):w ∉ TBL:=by
 simp at h;rcases h with rfl | rfl | rfl | rfl | rfl | rfl | rfl | rfl | rfl | rfl <;> simp (decide:=true)
theorem bDg(hd:Vd d)(h:¬400<x.size)(hw:gH x=[x])(hc:LL x (aA #[32])=false):AL d x (C7 d x):=by
 have h0:(gH x).getD 0 aC=x:=by grind
 have hl:(gH x).length=1:=by grind
 by_cases c:x∈ALW
 ·rw[aLD h h0 c]
  all_goals grind [aJV,aVt,aNN,aVu,aVv]
 ·have e:C7 d x=none:=by
   by_cases t:x∈TXW
   ·rw[aSm h h0 t,hc];rfl
   ·all_goals grind [aLE,bKn,bKk,aGJ]
  grind [aVw]
theorem aVy(x:Δ):cD x 32=gH x:=(vC 32 x).symm
def DOP(d:bV)(x:Δ)(a:Option (Γ Δ×bV)):Prop:=P8 d x/\aSa d x=a.isSome/\(a.isSome=true->C6 d x=aNJ a)/\Gi d x=aNI d a
theorem bDh(hd:Vd d)(hx:x.size<=1048576):DOP d x (C7 d x):=by
 unfold DOP P8 C6 aSa Gi;by_cases h:400<x.size
 ·have hq:decide ((x.size:Int)>400)=true:=decide_eq_true (by lia);rw[bDb h];exact⟨(π hq).mpr trivial,π hq,λk=>(by grind),π hq⟩
 have hq:¬decide ((x.size:Int)>400)=true:=by lia
 have p6:P6 x 32:=⟨by lia,by lia,by lia⟩;rw[aVy];obtain⟨⟨l⟩⟩:=x;by_cases hs:(32:UInt8)∈l
 ·obtain⟨p,q,rfl,hp⟩:=List.eq_append_cons_of_mem hs;have hcut:lF (aA ⟨p++32::q⟩).data.toList (aA #[32]).data.toList=(p,q,true):=Tl 32 q hp;have hc1:gG ⟨⟨p++32::q⟩⟩ (aA #[32])=⟨⟨q⟩⟩:=by grind [gG]
  have hc2:LL ⟨⟨p++32::q⟩⟩ (aA #[32])=true:=by grind [LL]
  have hz:(aA ⟨p++32::q⟩).size=p.length+(q.length+1):=by show (p++32::q).length=_;simp
  have hzp:(aA ⟨p⟩).size=p.length:=rfl;have hr:(aA ⟨q⟩).size<=1048576:=by show q.length<=_;lia
  have hw:gH ⟨⟨p++32::q⟩⟩=⟨⟨p⟩⟩::bss (cH 32 q):=by
   rw[<- aVy];show bss (cH 32 (p++32::q))=_;rw[nS 32 q hp];rfl
  have e0:(gH ⟨⟨p++32::q⟩⟩).getD 0 aC=⟨⟨p⟩⟩:=by grind
  have hparts:∀y∈gH ⟨⟨p++32::q⟩⟩,y.size<=1048576:=λy hy=>by
   have:=sG (aA #[32]) 0 _ _ _ hy
   lia
  have hlen:(gH ⟨⟨p++32::q⟩⟩).length<=1048576:=by
   rw[<- aVy];show (bss (cH 32 (p++32::q))).length<=_;have hb:(bss (cH 32 (p++32::q))).length=(cH 32 (p++32::q)).length:=cM ..
   grind [A6,nJ,List.length_append,cL]
  have h2:2<=(gH ⟨⟨p++32::q⟩⟩).length:=by
   grind [cL,bss,cH,cM,nJ]
  have hex:aN ⟨⟨p++32::q⟩⟩ (aE (((aA ⟨p⟩).size:Int)+1)) (aE ((aA ⟨p++32::q⟩).size:Int))=⟨⟨q⟩⟩:=by
   have e1:aE (((aA ⟨p⟩).size:Int)+1)=p.length+1:=by lia
   have e2:aE ((aA ⟨p++32::q⟩).size:Int)=p.length+(q.length+1):=by lia
   rw[e1,e2,Lib.extract_mk];have e3:(p++32::q).drop (p.length+1)=q:=by
    simp
   rw[e3,List.take_of_length_le (by lia)]
  have hn1:¬(((gH ⟨⟨p++32::q⟩⟩).length:Int)==1)=true:=by lia
  generalize hW:gH ⟨⟨p++32::q⟩⟩=W at *;rw[e0,hex];obtain⟨a,ha,h1,h3⟩:∃a,TX d ⟨⟨p⟩⟩ ⟨⟨q⟩⟩ a/\(a.isSome=true->C7 d ⟨⟨p++32::q⟩⟩=a)/\(a=none->C7 d ⟨⟨p++32::q⟩⟩=wJ d W):=by
   have e0':(gH ⟨⟨p++32::q⟩⟩).getD 0 aC=⟨⟨p⟩⟩:=by lia
   by_cases t:(⟨⟨p⟩⟩:Δ)∈TXW
   ·have r:=aSm (d:=d) h e0' t;rw[π hc2,hc1]at r
    grind [bDf,aSg,bKo]
   ·refine⟨none,aVx t,λk=>(by grind),λ_=>?_⟩;by_cases b:(⟨⟨p⟩⟩:Δ)∈TBL
    ·grind [aLE]
    ·rw[aSg (by lia)];by_cases c:(⟨⟨p⟩⟩:Δ)∈ALW
     ·rw[aLD h e0' c,ν (by lia)]
     grind [bKk,aGJ]
  obtain⟨a1,a2,a3,a4⟩:=ha;have b1:bA .i64 (((aA ⟨p⟩).size:Int)+1):=by grind [aK]
  have b2:(0:Int)<=((aA ⟨p⟩).size:Int)+1:=by lia
  have b3:((aA ⟨p⟩).size:Int)+1<=((aA ⟨p++32::q⟩).size:Int):=by lia
  have b0:(0:Int)<(W.length:Int):=by lia
  cases a with
  | some v =>
   grind
  | none =>
   have g:¬yO d ⟨⟨p⟩⟩ ⟨⟨q⟩⟩=true:=by grind
   have a4:xV d ⟨⟨p⟩⟩ ⟨⟨q⟩⟩=d:=a4;rw[h3 rfl,a4];exact⟨(ν hq).mpr ⟨p6,(ν hn1).mpr ⟨b0,b0,b1,b2,b3,a1,(ν g).mpr ⟨⟨hd,⟨by lia,hlen⟩,hparts⟩,trivial⟩⟩⟩,(ν hq).trans ((ν hn1).trans (ν g)),λ_=>(ν hq).trans ((ν hn1).trans (ν g)),(ν hq).trans ((ν hn1).trans (ν g))⟩
 ·have hcut:lF (aA ⟨l⟩).data.toList (aA #[32]).data.toList=(l,[],false):=VF 32 hs;have hc2:LL ⟨⟨l⟩⟩ (aA #[32])=false:=by grind [LL]
  have hw:gH ⟨⟨l⟩⟩=[⟨⟨l⟩⟩]:=by
   rw[<- aVy];show bss (cH 32 l)=_;rw[lG 32 hs];rfl
  have h1:(((gH ⟨⟨l⟩⟩).length:Int)==1)=true:=by grind
  obtain⟨a1,a2,a3,a4⟩:=bDg hd h hw hc2
  lia
def lnz(ps:Γ (Γ UInt8)):Γ Δ:=(ps.take (ps.length-1)).map (λl=>⟨⟨l⟩⟩)++(if ps.getD (ps.length-1) []=[] then [] else [⟨⟨ps.getD (ps.length-1) []⟩⟩])
def lns(l:Γ UInt8):Γ Δ:=lnz (cH 10 l)
theorem aSn(x:Δ):CO x=lns x.data.toList:=by
 have hs:bJ x (aA #[10])=bss (cH 10 x.data.toList):=vC 10 x;unfold CO Yk QX lns lnz;rw[hs];have hne:=wD 10 x.data.toList;generalize cH 10 x.data.toList=ps at *;have hl:(bss ps).length=ps.length:=by simp[bss]
 have e1:(((bss ps).length:Int)-1).toNat=ps.length-1:=by lia
 have e2:(bss ps).getD (ps.length-1) aC=⟨⟨ps.getD (ps.length-1) []⟩⟩:=by
  simp[bss]
 rw[e1,e2,bX,gP]
 congr 1
 ·unfold bss;rw[List.map_take]
 ·by_cases c:ps.getD (ps.length-1) []=[]
  ·rw[c,π rfl,π rfl]
  ·rw[ν c,ν];intro e;exact c (by injection e with e;injection e)
theorem aGK{ps:Γ (Γ UInt8)}{M:Nat}(h:∀p∈ps,p.length<=M):∀s∈lnz ps,s.size<=M:=by
 intro s hs;rcases cY.1 hs with hs | hs
 ·obtain⟨p,hp,rfl⟩:=dK.1 hs;exact h p (List.mem_of_mem_take hp)
 ·split at hs
  ·grind
  ·simp at hs;rw[hs];by_cases c:ps.length-1<ps.length
   ·exact h _ (bY ps _ [] c)
   grind
theorem Jp(c:UInt8):∀(l:Γ UInt8),∀p∈cH c l,p.length<=l.length
 | [],p,h=>by grind [cH]
 | b::r,p,h=>by
  have ih:=Jp c r;unfold cH at h
  grind
theorem bDi:Vd VI:=(Xw _).1 (by rfl)
theorem aJW{ls:Γ Δ}(hz:∀l∈ls,l.size<=1048576):∀k,k<=ls.length->Vd (DU ls k).1
 | 0,_=>bDi
 | k+1,hk=>by
  have ih:=aJW hz k (by lia);have hd:=(aCj ((Xw _).2 ih) (hz _ (bY ls k aC (by lia)))).2;rw[Oc ls k (by lia)];unfold st5;split
  ·rcases hd.2 with h | ⟨_,h,_⟩
   all_goals lia
  lia
noncomputable section
def d4:jB:=D0 Tryz.func4 [.v (.str)] [.str,.int .i64] [kx6,kx7,kx8]
mutual
def R4:Nat->Δ->Γ aS->Prop
 | 0,_,_=>False
 | n+1,x0,ds=>P6 x0 10/\bA .i64 ((↑(aF (cD x0 10)):Int)-1)/\0<=(↑(aF (cD x0 10)):Int)-1/\(↑(aF (cD x0 10)):Int)-1<(↑(aF (cD x0 10)):Int)/\if aB (aD (cD x0 10) (aE ((↑(aF (cD x0 10)):Int)-1)) aC)==aB (aA #[])then bA .i64 ((↑(aF (cD x0 10)):Int)-1)/\if decide ((↑(aF (cD x0 10)):Int)-1>60)then ds=[aJ .str (aA #[]),aJ (.int .i64) 5] else aAE n ((↑(aF (cD x0 10)):Int)-1) (aA #[]) 0 1000000 2000 120 300000 50000 20000 100 0 0 0 3000 20 60000 100 VI.1 VI.2.2.1 VI.2.2.2.1 VI.2.2.2.2.2.2.1 VI.2.2.2.2.2.2.2.2.1 VI.2.2.2.2.2.2.2.2.2.1 VI.2.2.2.2.2.2.2.2.2.2.1 VI.2.2.2.2.2.2.2.2.2.2.2.1 x0 ds else if decide ((↑(aF (cD x0 10)):Int)>60)then ds=[aJ .str (aA #[]),aJ (.int .i64) 5] else aAE n ((↑(aF (cD x0 10)):Int)) (aA #[]) 0 1000000 2000 120 300000 50000 20000 100 0 0 0 3000 20 60000 100 VI.1 VI.2.2.1 VI.2.2.2.1 VI.2.2.2.2.2.2.1 VI.2.2.2.2.2.2.2.2.1 VI.2.2.2.2.2.2.2.2.2.1 VI.2.2.2.2.2.2.2.2.2.2.1 VI.2.2.2.2.2.2.2.2.2.2.2.1 x0 ds
def aAE:Nat->Int->Δ->Int->Int->Int->Int->Int->Int->Int->Int->Int->Int->Int->Int->Int->Int->Int->Γ eR->Γ c7->Γ c7->Γ b6->Γ eR->Γ c7->Γ b6->Γ b6->Δ->Γ aS->Prop
 | 0,_,_,_,_,_,_,_,_,_,_,_,_,_,_,_,_,_,_,_,_,_,_,_,_,_,_,_=>False
 | n+1,v5,v7,v8,h1l1,h1l2,h1l3,h1l4,h1l7,h1l8,h1l9,h1l10,h1l11,h1l12,h1l14,h1l15,h1l16,h1l17,h2,h3,h4,h5,h6,h7,h8,h9,x0,ds=>if decide (v8<v5)then 0<=v8/\v8<(↑(aF (cD x0 10)):Int)/\P8 (h2,(h1l1,h1l2,h1l3,h1l4,()),h3,h4,(h1l7,h1l8,h1l9,()),(h1l10,h1l11,h1l12,()),h5,(h1l14,h1l15,h1l16,h1l17,()),h6,h7,h8,h9,()) (aD (cD x0 10) (aE v8) aC)/\if !aSa (h2,(h1l1,h1l2,h1l3,h1l4,()),h3,h4,(h1l7,h1l8,h1l9,()),(h1l10,h1l11,h1l12,()),h5,(h1l14,h1l15,h1l16,h1l17,()),h6,h7,h8,h9,()) (aD (cD x0 10) (aE v8) aC)then aG v7+2<=9223372036854775807/\bA .i64 (v8+1)/\(λu=>aAE n v5 (v7++aA #[63,10]) (v8+1) u.2.1.1 u.2.1.2.1 u.2.1.2.2.1 u.2.1.2.2.2.1 u.2.2.2.2.1.1 u.2.2.2.2.1.2.1 u.2.2.2.2.1.2.2.1 u.2.2.2.2.2.1.1 u.2.2.2.2.2.1.2.1 u.2.2.2.2.2.1.2.2.1 u.2.2.2.2.2.2.2.1.1 u.2.2.2.2.2.2.2.1.2.1 u.2.2.2.2.2.2.2.1.2.2.1 u.2.2.2.2.2.2.2.1.2.2.2.1 u.1 u.2.2.1 u.2.2.2.1 u.2.2.2.2.2.2.1 u.2.2.2.2.2.2.2.2.1 u.2.2.2.2.2.2.2.2.2.1 u.2.2.2.2.2.2.2.2.2.2.1 u.2.2.2.2.2.2.2.2.2.2.2.1 x0 ds) (Gi (h2,(h1l1,h1l2,h1l3,h1l4,()),h3,h4,(h1l7,h1l8,h1l9,()),(h1l10,h1l11,h1l12,()),h5,(h1l14,h1l15,h1l16,h1l17,()),h6,h7,h8,h9,()) (aD (cD x0 10) (aE v8) aC))else aLF n v7 0 v5 v8 x0 h2 h1l1 h1l2 h1l3 h1l4 h3 h4 h1l7 h1l8 h1l9 h1l10 h1l11 h1l12 h5 h1l14 h1l15 h1l16 h1l17 h6 h7 h8 h9 ds else ds=[aJ .str v7,aJ (.int .i64) 0]
def aLF:Nat->Δ->Int->Int->Int->Δ->Γ eR->Int->Int->Int->Int->Γ c7->Γ c7->Int->Int->Int->Int->Int->Int->Γ b6->Int->Int->Int->Int->Γ eR->Γ c7->Γ b6->Γ b6->Γ aS->Prop
 | 0,_,_,_,_,_,_,_,_,_,_,_,_,_,_,_,_,_,_,_,_,_,_,_,_,_,_,_,_=>False
 | n+1,v7,v11,v5,v8,x0,h2,h1l1,h1l2,h1l3,h1l4,h3,h4,h1l7,h1l8,h1l9,h1l10,h1l11,h1l12,h5,h1l14,h1l15,h1l16,h1l17,h6,h7,h8,h9,ds=>if decide (v11<(↑(aF (C6 (h2,(h1l1,h1l2,h1l3,h1l4,()),h3,h4,(h1l7,h1l8,h1l9,()),(h1l10,h1l11,h1l12,()),h5,(h1l14,h1l15,h1l16,h1l17,()),h6,h7,h8,h9,()) (aD (cD x0 10) (aE v8) aC))):Int))then 0<=v11/\v11<(↑(aF (C6 (h2,(h1l1,h1l2,h1l3,h1l4,()),h3,h4,(h1l7,h1l8,h1l9,()),(h1l10,h1l11,h1l12,()),h5,(h1l14,h1l15,h1l16,h1l17,()),h6,h7,h8,h9,()) (aD (cD x0 10) (aE v8) aC))):Int)/\aG (aD (C6 (h2,(h1l1,h1l2,h1l3,h1l4,()),h3,h4,(h1l7,h1l8,h1l9,()),(h1l10,h1l11,h1l12,()),h5,(h1l14,h1l15,h1l16,h1l17,()),h6,h7,h8,h9,()) (aD (cD x0 10) (aE v8) aC)) (aE v11) aC)+1<=9223372036854775807/\aG v7+aG (aD (C6 (h2,(h1l1,h1l2,h1l3,h1l4,()),h3,h4,(h1l7,h1l8,h1l9,()),(h1l10,h1l11,h1l12,()),h5,(h1l14,h1l15,h1l16,h1l17,()),h6,h7,h8,h9,()) (aD (cD x0 10) (aE v8) aC)) (aE v11) aC++aA #[10])<=9223372036854775807/\bA .i64 (v11+1)/\aLF n (v7++(aD (C6 (h2,(h1l1,h1l2,h1l3,h1l4,()),h3,h4,(h1l7,h1l8,h1l9,()),(h1l10,h1l11,h1l12,()),h5,(h1l14,h1l15,h1l16,h1l17,()),h6,h7,h8,h9,()) (aD (cD x0 10) (aE v8) aC)) (aE v11) aC++aA #[10])) (v11+1) v5 v8 x0 h2 h1l1 h1l2 h1l3 h1l4 h3 h4 h1l7 h1l8 h1l9 h1l10 h1l11 h1l12 h5 h1l14 h1l15 h1l16 h1l17 h6 h7 h8 h9 ds else bA .i64 (v8+1)/\(λu=>aAE n v5 v7 (v8+1) u.2.1.1 u.2.1.2.1 u.2.1.2.2.1 u.2.1.2.2.2.1 u.2.2.2.2.1.1 u.2.2.2.2.1.2.1 u.2.2.2.2.1.2.2.1 u.2.2.2.2.2.1.1 u.2.2.2.2.2.1.2.1 u.2.2.2.2.2.1.2.2.1 u.2.2.2.2.2.2.2.1.1 u.2.2.2.2.2.2.2.1.2.1 u.2.2.2.2.2.2.2.1.2.2.1 u.2.2.2.2.2.2.2.1.2.2.2.1 u.1 u.2.2.1 u.2.2.2.1 u.2.2.2.2.2.2.1 u.2.2.2.2.2.2.2.2.1 u.2.2.2.2.2.2.2.2.2.1 u.2.2.2.2.2.2.2.2.2.2.1 u.2.2.2.2.2.2.2.2.2.2.2.1 x0 ds) (Gi (h2,(h1l1,h1l2,h1l3,h1l4,()),h3,h4,(h1l7,h1l8,h1l9,()),(h1l10,h1l11,h1l12,()),h5,(h1l14,h1l15,h1l16,h1l17,()),h6,h7,h8,h9,()) (aD (cD x0 10) (aE v8) aC))
end
def bNo(ds:Γ aS)(K:gU)(q:Nat->Value):∀n,(∀ {x0},R4 n x0 ds->St d4 (x0,()) ds [] K q)/\(∀ {v5 v7 v8 h1l1 h1l2 h1l3 h1l4 h1l7 h1l8 h1l9 h1l10 h1l11 h1l12 h1l14 h1l15 h1l16 h1l17 h2 h3 h4 h5 h6 h7 h8 h9 x0},aAE n v5 v7 v8 h1l1 h1l2 h1l3 h1l4 h1l7 h1l8 h1l9 h1l10 h1l11 h1l12 h1l14 h1l15 h1l16 h1l17 h2 h3 h4 h5 h6 h7 h8 h9 x0 ds->Cu d4 10 ([eW 4 0,eI 5 v5,eP 6 1 0 iU,eS 7 v7,eI 8 v8],[cN .str (cD x0 10),hB_ iU [lO_ 2,Pk h1l1,Pk h1l2,Pk h1l3,Pk h1l4,lO_ 3,lO_ 4,Pk h1l7,Pk h1l8,Pk h1l9,Pk h1l10,Pk h1l11,Pk h1l12,lO_ 5,Pk h1l14,Pk h1l15,Pk h1l16,Pk h1l17,lO_ 6,lO_ 7,lO_ 8,lO_ 9],cN fQ h2,cN dX h3,cN dX h4,cN eC h5,cN fQ h6,cN dX h7,cN eC h8,cN eC h9]) ds [] K q)/\(∀ {v7 v11 v5 v8 x0 h2 h1l1 h1l2 h1l3 h1l4 h3 h4 h1l7 h1l8 h1l9 h1l10 h1l11 h1l12 h5 h1l14 h1l15 h1l16 h1l17 h6 h7 h8 h9},aLF n v7 v11 v5 v8 x0 h2 h1l1 h1l2 h1l3 h1l4 h3 h4 h1l7 h1l8 h1l9 h1l10 h1l11 h1l12 h5 h1l14 h1l15 h1l16 h1l17 h6 h7 h8 h9 ds->Cu d4 16 ([eW 4 0,eI 5 v5,eP 6 1 0 iU,eS 7 v7,eI 8 v8,eW 9 2,eI 11 v11],[cN .str (cD x0 10),QW (Gi (h2,(h1l1,h1l2,h1l3,h1l4,()),h3,h4,(h1l7,h1l8,h1l9,()),(h1l10,h1l11,h1l12,()),h5,(h1l14,h1l15,h1l16,h1l17,()),h6,h7,h8,h9,()) (aD (cD x0 10) (aE v8) aC)) 3 4 5 6 7 8 9 10,cN .str (C6 (h2,(h1l1,h1l2,h1l3,h1l4,()),h3,h4,(h1l7,h1l8,h1l9,()),(h1l10,h1l11,h1l12,()),h5,(h1l14,h1l15,h1l16,h1l17,()),h6,h7,h8,h9,()) (aD (cD x0 10) (aE v8) aC)),cN fQ (Gi (h2,(h1l1,h1l2,h1l3,h1l4,()),h3,h4,(h1l7,h1l8,h1l9,()),(h1l10,h1l11,h1l12,()),h5,(h1l14,h1l15,h1l16,h1l17,()),h6,h7,h8,h9,()) (aD (cD x0 10) (aE v8) aC)).1,cN dX (Gi (h2,(h1l1,h1l2,h1l3,h1l4,()),h3,h4,(h1l7,h1l8,h1l9,()),(h1l10,h1l11,h1l12,()),h5,(h1l14,h1l15,h1l16,h1l17,()),h6,h7,h8,h9,()) (aD (cD x0 10) (aE v8) aC)).2.2.1,cN dX (Gi (h2,(h1l1,h1l2,h1l3,h1l4,()),h3,h4,(h1l7,h1l8,h1l9,()),(h1l10,h1l11,h1l12,()),h5,(h1l14,h1l15,h1l16,h1l17,()),h6,h7,h8,h9,()) (aD (cD x0 10) (aE v8) aC)).2.2.2.1,cN eC (Gi (h2,(h1l1,h1l2,h1l3,h1l4,()),h3,h4,(h1l7,h1l8,h1l9,()),(h1l10,h1l11,h1l12,()),h5,(h1l14,h1l15,h1l16,h1l17,()),h6,h7,h8,h9,()) (aD (cD x0 10) (aE v8) aC)).2.2.2.2.2.2.1,cN fQ (Gi (h2,(h1l1,h1l2,h1l3,h1l4,()),h3,h4,(h1l7,h1l8,h1l9,()),(h1l10,h1l11,h1l12,()),h5,(h1l14,h1l15,h1l16,h1l17,()),h6,h7,h8,h9,()) (aD (cD x0 10) (aE v8) aC)).2.2.2.2.2.2.2.2.1,cN dX (Gi (h2,(h1l1,h1l2,h1l3,h1l4,()),h3,h4,(h1l7,h1l8,h1l9,()),(h1l10,h1l11,h1l12,()),h5,(h1l14,h1l15,h1l16,h1l17,()),h6,h7,h8,h9,()) (aD (cD x0 10) (aE v8) aC)).2.2.2.2.2.2.2.2.2.1,cN eC (Gi (h2,(h1l1,h1l2,h1l3,h1l4,()),h3,h4,(h1l7,h1l8,h1l9,()),(h1l10,h1l11,h1l12,()),h5,(h1l14,h1l15,h1l16,h1l17,()),h6,h7,h8,h9,()) (aD (cD x0 10) (aE v8) aC)).2.2.2.2.2.2.2.2.2.2.1,cN eC (Gi (h2,(h1l1,h1l2,h1l3,h1l4,()),h3,h4,(h1l7,h1l8,h1l9,()),(h1l10,h1l11,h1l12,()),h5,(h1l14,h1l15,h1l16,h1l17,()),h6,h7,h8,h9,()) (aD (cD x0 10) (aE v8) aC)).2.2.2.2.2.2.2.2.2.2.2.1]) ds [] K q):=nI ⟨aH,aH,aH⟩ λn ⟨i,i10,i16⟩=>⟨aO<|aO<|eE<|bU (aO<|bU dR<|bS<|cX i10)<|bU dR<|bS<|cX i10,
  bU (eE<|aO<|bU (aO<|aO<|cX i10)<|cX i16) dR,
  bU (eE<|aO<|aO<|aO<|cX i16)<|aO<|cX i10⟩
def aGL(x0:Δ):Δ:=T3 x0
def aGM(x0:Δ):Int:=T4 x0
def PH(x0:Δ)(i:Int):Δ:=(cD x0 10).getD i.toNat aC
def ra4(n:Nat)(v5:Int)(v7:Δ)(v8:Int)(d:DT5)(x0:Δ)(ds:Γ aS):Prop:=aAE n v5 v7 v8 d.2.1.1 d.2.1.2.1 d.2.1.2.2.1 d.2.1.2.2.2.1 d.2.2.2.2.1.1 d.2.2.2.2.1.2.1 d.2.2.2.2.1.2.2.1 d.2.2.2.2.2.1.1 d.2.2.2.2.2.1.2.1 d.2.2.2.2.2.1.2.2.1 d.2.2.2.2.2.2.2.1.1 d.2.2.2.2.2.2.2.1.2.1 d.2.2.2.2.2.2.2.1.2.2.1 d.2.2.2.2.2.2.2.1.2.2.2.1 d.1 d.2.2.1 d.2.2.2.1 d.2.2.2.2.2.2.1 d.2.2.2.2.2.2.2.2.1 d.2.2.2.2.2.2.2.2.2.1 d.2.2.2.2.2.2.2.2.2.2.1 d.2.2.2.2.2.2.2.2.2.2.2.1 x0 ds
def rb4(n:Nat)(v7:Δ)(v11 v5 v8:Int)(x0:Δ)(d:DT5)(ds:Γ aS):Prop:=aLF n v7 v11 v5 v8 x0 d.1 d.2.1.1 d.2.1.2.1 d.2.1.2.2.1 d.2.1.2.2.2.1 d.2.2.1 d.2.2.2.1 d.2.2.2.2.1.1 d.2.2.2.2.1.2.1 d.2.2.2.2.1.2.2.1 d.2.2.2.2.2.1.1 d.2.2.2.2.2.1.2.1 d.2.2.2.2.2.1.2.2.1 d.2.2.2.2.2.2.1 d.2.2.2.2.2.2.2.1.1 d.2.2.2.2.2.2.2.1.2.1 d.2.2.2.2.2.2.2.1.2.2.1 d.2.2.2.2.2.2.2.1.2.2.2.1 d.2.2.2.2.2.2.2.2.1 d.2.2.2.2.2.2.2.2.2.1 d.2.2.2.2.2.2.2.2.2.2.1 d.2.2.2.2.2.2.2.2.2.2.2.1 ds
theorem aSo(n:Nat)(v5:Int)(v7:Δ)(v8:Int)(d:DT5)(x0:Δ)(ds:Γ aS):ra4 (n+1) v5 v7 v8 d x0 ds=(if decide (v8<v5)=true then(0<=v8)/\(v8<((cD x0 10).length:Int))/\(P8 d (PH x0 v8)/\(if(!aSa d (PH x0 v8))=true then(v7.size+2<=9223372036854775807)/\bA .i64 (v8+1)/\ra4 n v5 (v7++aA #[63,10]) (v8+1) (Gi d (PH x0 v8)) x0 ds else rb4 n v7 0 v5 v8 x0 d ds))else ds=[aJ .str v7,aJ (.int .i64) 0]):=by
 rfl
theorem aXr(n:Nat)(v7:Δ)(v11 v5 v8:Int)(x0:Δ)(d:DT5)(ds:Γ aS):rb4 (n+1) v7 v11 v5 v8 x0 d ds=(if decide (v11<((C6 d (PH x0 v8)).length:Int))=true then(0<=v11)/\(v11<((C6 d (PH x0 v8)).length:Int))/\(((C6 d (PH x0 v8)).getD v11.toNat aC).size+1<=9223372036854775807)/\(v7.size+((C6 d (PH x0 v8)).getD v11.toNat aC++aA #[10]).size<=9223372036854775807)/\bA .i64 (v11+1)/\rb4 n (v7++((C6 d (PH x0 v8)).getD v11.toNat aC++aA #[10])) (v11+1) v5 v8 x0 d ds else bA .i64 (v8+1)/\ra4 n v5 v7 (v8+1) (Gi d (PH x0 v8)) x0 ds):=by
 rfl
theorem aGN:∀(l:Γ Δ) (o:Δ),(∀s∈l,s.size<=50000000)->(nl5 o l).size<=o.size+l.length*50000001
 | [],o,_=>aT _
 | a::r,o,h=>by
  have:=aGN r (o++(a++aA #[10])) (λs hs=>h s (aM _ hs));have h1:(aA #[10]).size=1:=rfl
  grind [nl5]
theorem bDj(x0:Δ)(d:DT5)(v5:Int)(i:Nat)(hi:(i:Int)<1000)(ds:Γ aS)(N:Nat)(hs:∀s∈C6 d (PH x0 i),s.size<=50000000)(hl:(C6 d (PH x0 i)).length<=1000):∀(k j:Nat) (v7:Δ),j+k=(C6 d (PH x0 i)).length->v7.size+k*50000001<=9000000000000000000 ->
  ra4 N v5 (nl5 v7 ((C6 d (PH x0 i)).drop j)) ((i:Int)+1) (Gi d (PH x0 i)) x0 ds->rb4 (N+k+1) v7 (j:Int) v5 (i:Int) x0 d ds:=by
 intro k
 induction k with
 | zero =>
  intro j v7 hj hv hr;rw[aXr,ν (by lia)];rw[List.drop_of_length_le (by lia)]at hr;exact⟨by grind [aK],hr⟩
 | succ k ih =>
  intro j v7 hj hv hr;have hlt:j<(C6 d (PH x0 i)).length:=by lia
  have e3:(j:Int)+1=((j+1:Nat):Int):=by lia
  have hz:=hs _ (bY (C6 d (PH x0 i)) j aC hlt);have h1:(aA #[10]).size=1:=rfl;have e:((C6 d (PH x0 i)).getD j aC++aA #[10]).size=((C6 d (PH x0 i)).getD j aC).size+1:=by grind
  rw[eD _ j aC hlt]at hr;rw[aXr,π (by lia),aI];exact⟨by lia,by lia,by lia,by lia,by grind [aK],ih (j+1) _ (by lia) (by grind) hr⟩
theorem bNp(x0:Δ)(hx:x0.size<=1048576)(ls:Γ Δ)(hz:∀l∈ls,l.size<=1048576)(h60:ls.length<=60)(hw:∀i,i<ls.length->PH x0 (i:Int)=ls.getD i aC)(hlen:ls.length<=(cD x0 10).length):∀(k i:Nat),i+k=ls.length->(DU ls i).2.size<=i*100000000000 ->
  ∃N,ra4 N (ls.length:Int) (DU ls i).2 (i:Int) (DU ls i).1 x0 [aJ .str (DU ls ls.length).2,aJ (.int .i64) 0]:=by
 intro k
 induction k with
 | zero =>
  intro i hi _;obtain rfl:i=ls.length:=by lia
  exact⟨1,by simp[aSo,ν,ε]⟩
 | succ k ih =>
  intro i hi hv;have hlt:i<ls.length:=by lia
  have hd:=aJW hz i (by lia);have hv0:=(Xw _).2 hd;have hwz:=hz _ (bY ls i aC hlt);have hwi:=hw i hlt;obtain⟨p,q⟩:=aCj hv0 hwz;obtain⟨f1,f2⟩:=q.1;obtain⟨d1,d2,d3,d4⟩:=bDh hd hwz;obtain⟨c1,c2⟩:=aUW hv0 (ls.getD i aC);have es:=Oc ls i hlt;have e3:(i:Int)+1=((i+1:Nat):Int):=by lia
  have ii:bA .i64 ((i+1:Nat):Int):=by grind [aK]
  rw[<- hwi]at d1 d2 d3 d4 c1 c2 es f1 f2;cases hr:C7 (DU ls i).1 (PH x0 i)with
  | none =>
   have k8:JS (DU ls i).1 (PH x0 i)=8:=c2 (by
    unfold C7 at hr
    lia)
   rw[hr]at d2 d4;have es:DU ls (i+1)=((DU ls i).1,(DU ls i).2++aA #[63,10]):=by
    rw[es];unfold st5
    lia
   have sz:((DU ls i).2++aA #[63,10]).size=(DU ls i).2.size+2:=by rw[bD];rfl
   obtain⟨N,hN⟩:=ih (i+1) (by lia) (by lia);refine⟨N+1,?_⟩;rw[es]at hN;have d4:Gi (DU ls i).1 (PH x0 i)=(DU ls i).1:=d4;rw[aSo,π (by lia),π (by grind),d4,e3]
   lia
  | some a =>
   have k0:JS (DU ls i).1 (PH x0 i)=0/\CN (DU ls i).1 (PH x0 i)=a.1/\LO (DU ls i).1 (PH x0 i)=a.2:=by
    unfold C7 at hr
    grind
   rw[hr]at d2 d3 d4;have d3:C6 (DU ls i).1 (PH x0 i)=a.1:=d3 rfl;have d4:Gi (DU ls i).1 (PH x0 i)=a.2:=d4;rw[k0.2.1]at f1 f2;have es:DU ls (i+1)=(a.2,nl5 (DU ls i).2 a.1):=by
    rw[es];unfold st5
    lia
   have sz:=aGN a.1 (DU ls i).2 f2;obtain⟨N,hN⟩:=ih (i+1) (by lia) (by lia);rw[es]at hN;refine⟨N+a.1.length+1+1,?_⟩;rw[aSo,π (by lia),ν (by grind)];refine⟨by lia,by lia,d1,bDj x0 _ _ i (by lia) _ N (by grind) (by lia) a.1.length 0 _ (by lia) (by lia) ?_⟩
   grind
theorem bDk(x0:Δ):let W:=cD x0 10; 1<=W.length/\(W.getD (W.length-1) aC=aA #[]->(CO x0).length=W.length-1)/\(W.getD (W.length-1) aC≠aA #[]->(CO x0).length=W.length)/\∀i,i<(CO x0).length->W.getD i aC=(CO x0).getD i aC:=by
 rw[aSn];show let W:=bss (cH 10 x0.data.toList); 1<=W.length/\(W.getD (W.length-1) aC=aA #[]->(lnz (cH 10 x0.data.toList)).length=W.length-1)/\(W.getD (W.length-1) aC≠aA #[]->(lnz (cH 10 x0.data.toList)).length=W.length)/\∀i,i<(lnz (cH 10 x0.data.toList)).length->W.getD i aC=(lnz (cH 10 x0.data.toList)).getD i aC;have hne:=wD 10 x0.data.toList;generalize cH 10 x0.data.toList=ps at *;obtain⟨qs,b,rfl⟩:∃qs b,ps=qs++[b]:=⟨ps.dropLast,ps.getLast hne,(List.dropLast_concat_getLast hne).symm⟩;have e1:bss (qs++[b])=qs.map (λl=>aA ⟨l⟩)++[aA ⟨b⟩]:=by
  show (qs++[b]).map (λl=>aA ⟨l⟩)=_;simp
 have e3:lnz (qs++[b])=qs.map (λl=>aA ⟨l⟩)++(if b=[] then [] else [aA ⟨b⟩]):=by
  unfold lnz;simp
 grind
theorem bNq(x0:Δ)(hx:x0.size<=1048576):∃n,R4 n x0 [⟨.str,aGL x0⟩,⟨.int .i64,aGM x0⟩]:=by
 obtain⟨s1,s2,s3,s4⟩:=bDk x0;have p6:P6 x0 10:=⟨by omega,by decide,by decide⟩;have hz:∀l∈CO x0,l.size<=1048576:=λl hl=>by
  rw[aSn]at hl;exact aGK (M:=1048576) (λp hp=>dV (Jp 10 x0.data.toList p hp) hx) l hl
 have hb:(cD x0 10).length<=1048577:=by
  show (bss (cH 10 x0.data.toList)).length<=_;have hb:(bss (cH 10 x0.data.toList)).length=(cH 10 x0.data.toList).length:=cM ..;have:=A6 (a:=(10:UInt8)) (l:=x0.data.toList);rw[hb,nJ];have hs:x0.data.toList.length=x0.size:=rfl;omega
 have hw:∀i,i<(CO x0).length->PH x0 (i:Int)=(CO x0).getD i aC:=λi hi=>by
  unfold PH;rw[aI];exact s4 i hi
 have q1:aE (((cD x0 10).length:Int)-1)=(cD x0 10).length-1:=by omega
 have fin:∀(h60:(CO x0).length<=60) (hle:(CO x0).length<=(cD x0 10).length),∃N,ra4 N ((CO x0).length:Int) (aA #[]) 0 VI x0 [⟨.str,aGL x0⟩,⟨.int .i64,aGM x0⟩]:=λh60 hle=>by
  have r:=bNp x0 hx _ hz h60 hw hle (CO x0).length 0 (bX _) (bG _);unfold aGL aGM T3 T4;rw[ν (by omega),ν (by omega)];exact r
 by_cases e:(cD x0 10).getD ((cD x0 10).length-1) aC=aA #[]
 ·have l1:=s2 e;by_cases h60:(CO x0).length<=60
  ·obtain⟨N,hN⟩:=fin h60 (by omega);refine⟨N+1,?_⟩;rw[R4,q1,π ((bE _ _).2 e),ν (by simp only[ε];omega)];rw[show ((CO x0).length:Int)=((cD x0 10).length:Int)-1 by omega]at hN;exact⟨p6,by rw[aK];omega,by omega,by omega,by rw[aK];omega,hN⟩
  ·refine⟨1,?_⟩;unfold aGL aGM T3 T4;rw[π (by omega),π (by omega),R4,q1,π ((bE _ _).2 e),π (by simp only[ε];omega)];exact⟨p6,by rw[aK];omega,by omega,by omega,by rw[aK];omega,rfl⟩
 ·have l1:=s3 e;by_cases h60:(CO x0).length<=60
  ·obtain⟨N,hN⟩:=fin h60 (by omega);refine⟨N+1,?_⟩;rw[R4,q1,ν (λh=>e ((bE _ _).1 h)),ν (by simp only[ε];omega)];rw[show ((CO x0).length:Int)=((cD x0 10).length:Int)by omega]at hN;exact⟨p6,by rw[aK];omega,by omega,by omega,hN⟩
  ·refine⟨1,?_⟩;unfold aGL aGM T3 T4;rw[π (by omega),π (by omega),R4,q1,ν (λh=>e ((bE _ _).1 h)),π (by simp only[ε];omega)];exact⟨p6,by rw[aK];omega,by omega,by omega,rfl⟩
def kx4:KK:=mL d4 (DO Tryz.func4) P67 (aGL,aGM,()) (λ⟨x0,_⟩ h hwf K q =>
 let ⟨n,hn⟩:=bNq x0 h
 (bNo _ K q n).1 hn)
def d3:jB:=D0 Tryz.func3 [.v (.str)] [.bool] [kx4,kx5]
def P3(x0:Δ):Prop:=if decide ((↑(aG x0):Int)>1048576)then True else P67 x0/\P5 x0/\True
def aV0(x0:Δ):Bool:=if decide ((↑(aG x0):Int)>1048576)then true else if !aB (T3 x0)==aB (aGL x0)then false else if T4 x0 != aGM x0 then false else true
def kx3:KK:=mA d3 (DO Tryz.func3) P3 (aV0,()) λ_=>tH pr<|aO<|aO<|fP (j0 pr)<|fP pr pr
end
theorem aSp{x:Δ}(hx:x.size<=1048576):P5 x:=by
 have hz:∀l∈CO x,l.size<=1048576:=λl hl=>by
  rw[aSn]at hl;exact aGK (M:=1048576) (λp hp=>dV (Jp 10 x.data.toList p hp) hx) l hl
 have hc:=Lib.countB_le (aA #[10]) (by decide) x.size x (aT _);have hl:=aRo x (aA #[10]) (by decide);refine⟨?_,?_,λh60 k hk=>?_⟩
 ·exact⟨⟨by omega,by decide⟩,by rw[aK];omega,by omega,by omega,by omega,by omega,trivial⟩
 ·unfold Yk;rw[gP,List.length_take];exact dV (Nat.min_le_right _ _) (by omega)
 ·have hv:=aJW hz k (by omega);obtain⟨p,q⟩:=aCj ((Xw _).2 hv) (hz _ (bY (CO x) k aC hk));exact⟨p,q.1⟩
theorem bNr(x:Δ)(hw:Wf .str x):P3 x/\aV0 x=true:=by
 unfold P3 aV0;by_cases h:(x.size:Int)>1048576
 ·simp only[h,decide_true,if_true,and_self]
 ·have hx:x.size<=1048576:=by omega
  have p1:P67 x:=hx;have p2:=aSp hx;have e0:aGL x=T3 x:=rfl;have e1:aGM x=T4 x:=rfl;simp only[h,decide_false,fU,if_false,e0,e1,p1,p2,decide_true,u0,bne_self_eq_false,beq_self_eq_true,Bool.not_beq_self,Bool.beq_not_self,true_and,and_self]
end Go.Proofs.YtgfpjekjhnkbfaaGreatDoor
