/- The functions that this law reaches, and their laws. -/
import Derived.Test.YtgfpjekjhnkbfaaGreatDoorZ3D
import Derived.Lib.ParseIntBCases
set_option linter.unusedVariables false
set_option linter.unusedSimpArgs false
set_option linter.defProp false
open Array renaming toList->cE,toList_append->BG
open BitVec renaming ofInt->gD,toNat->yB
open Bool renaming and_eq_true->aV,eq_false_iff->cG,eq_iff_iff->mK,not_eq_true->Rz,not_eq_true'->eX,true_and->rI
open ByteArray renaming data->bO,data_append->rO,empty->aC,extract->aN,mk->aA,size->aG,size_append->bD,size_extract->nA,toList->aB
open Classical renaming byContradiction->jA
open False renaming elim->aH
open Go.Am.aS renaming mk->aJ
open Go.Am.jC renaming mk->fO
open Go.IntKind renaming i64->eY,u64->aHA,wrap->mZ
open Go.Lib renaming decDigits->bN,itoa->Cd,parseUintB->Y5,parseUintM->Y4,trimPrefix->Ck,trimRightB->fE
open Go.Op renaming bytesLess->bK
open Go.Proofs.Tryz renaming func107->aDY,func197->aDU,func199->aDV,func201->aDX,func24->aHw,func26->aH2,func27->aH5,func28->aHz,func29->aH6,func314->aDW,func318->aEa,func33->aH8,func38->aH9,func390->aDZ,func84->aHy,func87->aH0,func88->aH1,func92->aHx,func94->aH4,func99->aH7,prog->aL
open Int renaming ediv_le_self->FY,eq_ofNat_of_zero_le->eU,fdiv->cT,le_refl->dO,tdiv->aP,tmod->cP,tmod_eq_emod_of_nonneg->gR,toNat->aE,toNat_natCast->aI
open List renaming any_eq_false->fG,append_assoc->bZ,append_nil->cK,count_cons->Hm,count_pos_iff->qU,drop->aY,dropWhile_cons->BH,drop_eq_nil_of_le->bT,drop_zero->gP,filter_append->Co,filter_cons->tK,filter_eq_nil_iff->q7,filter_eq_self->BI,foldl_cons->fR,getD->aD,getD_eq_getElem?_getD->bC,getElem?_eq_getElem->aX,getElem?_eq_none->iG,getElem_map->FZ,getElem_of_mem->pG,length->aF,length_append->aU,length_cons->cL,length_drop->gQ,length_map->cM,length_nil->Aw,length_replicate->rN,length_set->iR,length_singleton->bP,length_take->bW,map->A5,map_append->iQ,map_congr_left->pF,map_cons->dG,map_id->D6,map_map->oM,map_nil->tQ,map_singleton->Nj,mem_append->cY,mem_cons->aW,mem_cons_of_mem->aM,mem_cons_self->aR,mem_iff_getElem->AW,mem_map->dK,mem_nil_iff->dH,mem_range->Cm,nil_append->dL,nodup_cons->jJ,nodup_range->Ry,pairwise_append->KN,pairwise_cons->vZ,pairwise_iff_getElem->Cw,pairwise_map->Ph,range->Gp,range'->aH3,replicate->aQ,reverse_append->uJ,set->fF,take->aZ,take_add_one->eG,take_of_length_le->cW,zipWith->tS
open Min renaming min->yA
open Nat renaming add_zero->iX,le_refl->aT,not_lt_zero->Hc,pow_succ->BY,strongRecOn->Hl,zero_add->bX,zero_le->bG
open Prod renaming fst->dB
open UInt8 renaming ofNat->jU,toNat->cR,toNat_inj->jL,toNat_ofNat'->qZ
set_option maxRecDepth 100000
namespace Go.Proofs.YtgfpjekjhnkbfaaGreatDoor
open Go Go.Am Go.Proofs
theorem Wx:∀(l:Γ UInt8) (n:Int),(vT l n).2=false->(vT l n).1=0
 | [],n,h=>by cases h
 | c::r,n,h=>by
  unfold vT at h ⊢;split at h
  ·rename_i hd;rw[π hd];exact Wx r _ h
  lia
theorem Oi(b:UInt8)(r:Γ UInt8):aAq (b::r)=if b.toNat=45 then(if r.length=0\/18<r.length\/(r.getD 0 0).toNat=48 then(0,false)else H8 1 (vT r 0))
  else if 18<r.length+1\/(b.toNat=48/\0<r.length)then(0,false)else H8 0 (vT (b::r) 0):=rfl
theorem aKT:∀(l:Γ UInt8) (m:Nat),(∀b∈l,CW b)->xU l m<(m+1)*10^l.length
 | [],m,_=>by simp[xU]
 | b::r,m,hd=>by
  have hb:CW b:=hd b (aR ..);unfold CW at hb;have ih:=aKT r (10*m+(b.toNat-48)) (λc hc=>hd c (aM _ hc));show xU r (10*m+(b.toNat-48))<_;rw[cL,BY];have h1:(10*m+(b.toNat-48)+1)*10^r.length<=(10*(m+1))*10^r.length:=Nat.mul_le_mul_right _ (by lia)
  lia
theorem aKU:∀(l:Γ UInt8) (m:Nat),m<=xU l m
 | [],m=>aT _
 | b::r,m=>by
  have:=aKU r (10*m+(b.toNat-48));show m<=xU r (10*m+(b.toNat-48));omega
def N18(n:Int):Prop := -1000000000000000000<n/\n<1000000000000000000
def Kf{n:Nat}:(bN n).length<=18↔n<1000000000000000000:=by
 constructor
 ·intro h;obtain⟨d1,d2,_⟩:=pN n;have:=aKT (bN n) 0 d1;have hp:10^(bN n).length<=10^18:=Nat.pow_le_pow_right (by lia) h
  lia
 ·intro h;exact aBF 17 n (by lia)
variable {n:Int}
theorem J8(h:n<0):l5 n=⟨⟨45::bN n.natAbs⟩⟩:=by unfold l5 Cd;lia
theorem J9(h:¬n<0):l5 n=⟨⟨bN n.toNat⟩⟩:=by unfold l5 Cd;lia
def Wy{n:Nat}:∃b r,bN n=b::r/\CW b/\(b.toNat=48->r=[]):=by
 obtain⟨d1,d2,d3,d4⟩:=pN n;have hz:bN 0=[48]:=by simp[bN]
 cases hd:bN n with
 | nil=>grind
 | cons b r =>
  grind
theorem aQx(h:N18 n):nK (l5 n)=n/\wG (l5 n)=true:=by
 obtain⟨h1,h2⟩:=h;have e:aAq (l5 n).data.toList=(n,true):=by
  by_cases hn:n<0
  ·rw[J8 hn];obtain⟨d1,d2,d3,d4⟩:=pN n.natAbs;have hl:=(Kf (n:=n.natAbs)).2 (by lia);rw[Oi];unfold H8;have:=Wt (bN n.natAbs) 0 d1
   grind
  ·rw[J9 hn];obtain⟨d1,d2,d3,d4⟩:=pN n.toNat;have hl:=(Kf (n:=n.toNat)).2 (by lia);obtain⟨b,r,hd,hb,h48⟩:=Wy (n:=n.toNat);rw[hd]at d1 d2 d3 d4 hl ⊢;unfold CW at hb;rw[Oi];unfold H8;have:=Wt (b::r) 0 d1
   grind
 unfold nK wG
 lia
variable {x:Δ}
def bAZ(h:wG x=true):∃n:Int,N18 n/\x=l5 n:=by
 obtain⟨⟨p⟩⟩:=x;unfold wG at h;cases p with
 | nil=>cases h
 | cons b r =>
  rw[Oi]at h;split at h
  ·have hb':b=45:=by rw[<- jL];lia
   split at h
   ·lia
   ·rename_i hc;have hall:=Wu r 0 h;cases r with
    | nil=>grind
    | cons c q =>
     have hcd:CW c:=hall c (aR ..);unfold CW at hcd;have hc2:c.toNat≠48:=λe=>hc (.inr (.inr e));have hp:1<=xU (c::q) 0:=Ws q _ (by lia);have hcan:=RH (c::q).length (c::q) rfl hall (by lia) (.inl hc2);have hlt:=Kf.1 (by rw[hcan];lia);refine⟨-(xU (c::q) 0:Int),⟨by lia,by lia⟩,?_⟩
     grind [J8]
  ·split at h
   ·lia
   ·have hall:=Wu (b::r) 0 h;have hcan:=RH (b::r).length (b::r) rfl hall (by simp) (by
     grind)
    have hlen:(b::r).length<=18:=by
     grind
    have hlt:=Kf.1 (by rw[hcan];lia);refine⟨(xU (b::r) 0:Int),⟨by lia,by lia⟩,?_⟩
    grind [J9]
theorem bBa(h:wG x=false):nK x=0:=by
 obtain⟨⟨p⟩⟩:=x;unfold wG at h;unfold nK;cases p with
 | nil=>rfl
 | cons b r =>
  rw[Oi]at h ⊢;split at h
  ·split at h
   ·lia
   ·unfold H8 at h ⊢
    grind [Wx]
  ·split at h
   ·lia
   ·rename_i hc;rw[ν hc];unfold H8 at h ⊢
    grind [Wx]
theorem aAs:∀(l:Γ UInt8) (m:Nat),(∀b∈l,CW b)->xU l m<1000000000000000000->Y4 18446744073709551615 m l = .ok (xU l m)
 | [],_,_,_=>rfl
 | b::r,m,hd,h=>by
  have hb:CW b:=hd b (aR ..);unfold CW at hb;have hle:=aKU r (10*m+(b.toNat-48));have h':xU r (10*m+(b.toNat-48))<1000000000000000000:=h;unfold Y4;rw[π hb,ν (by lia),ν (by lia),Nat.mul_comm m 10];exact aAs r _ (λc hc=>hd c (aM _ hc)) h'
theorem aGa{n:Nat}(h:n<1000000000000000000):Y5 64 (bN n) = .ok n:=by
 obtain⟨d1,d2,d3,_⟩:=pN n;unfold Y5
 grind [aAs]
theorem aNt(h:N18 n):Lib.parseIntB 64 (l5 n).data.toList = .ok n:=by
 obtain⟨h1,h2⟩:=h;have e63:(2:Nat)^(64-1)=9223372036854775808:=by lia
 by_cases hn:n<0
 ·rw[J8 hn];rw[Lib.parseIntB_minus,aGa (by lia)];unfold Lib.signedC
  grind
 ·rw[J9 hn];have hu:=aGa (n:=n.toNat) (by lia);obtain⟨b,r,hd,hb,_⟩:=Wy (n:=n.toNat);unfold CW at hb;rw[hd]at hu ⊢;rw[Lib.parseIntB_plain _ _ _ (by lia) (by lia)];unfold Lib.signlessC
  grind
theorem aGb:(y9 (l5 n) ⟨#[45]⟩).size=(bN n.natAbs).length:=by
 show (Ck (l5 n).data.toList [45]).length=_;unfold Ck Lib.hasPrefix;by_cases hn:n<0
 ·grind [J8]
 ·rw[J9 hn];obtain⟨b,r,hd,hb,_⟩:=Wy (n:=n.toNat);unfold CW at hb;have hne:(45:UInt8)≠b:=λe=>by rw[<- e]at hb;lia
  grind
theorem aQy(h:N18 n):jR (l5 n)=n/\jS (l5 n)=true:=by
 have hl:=(Kf (n:=n.natAbs)).2 (by grind [N18]);have h0:=(pN n.natAbs).2.2.1;have e:VQ (l5 n)=some n:=by
  unfold VQ aBn;rw[aGb,aNt h]
  lia
 unfold jR jS
 grind
def aWK(h:jS x=true):∃n:Int,N18 n/\x=l5 n:=by
 unfold jS VQ at h;split at h
 ·grind
 ·rename_i hl;split at h
  ·rename_i v hv;split at h
   ·rename_i he;unfold aBn at hl;rw[<- he,aGb]at hl;have:(bN v.natAbs).length<=18:=by
     lia
    have:=Kf.1 this;exact⟨v,⟨by lia,by lia⟩,he.symm⟩
   grind
  grind
theorem aQz(h:jS x=false):jR x=0:=by
 grind [jS,jR,VQ]
theorem AQ(x:Δ):nK x=jR x/\wG x=jS x:=by
 cases hs:wG x with
 | true =>
  obtain⟨n,hn,rfl⟩:=bAZ hs;obtain⟨i0,i1⟩:=aQy hn;rw[(aQx hn).1]
  lia
 | false =>
  cases hi:jS x with
  | true =>
   obtain⟨n,hn,rfl⟩:=aWK hi
   grind [aQx]
  | false=>exact⟨(bBa hs).trans (aQz hi).symm,rfl⟩
def aBJ(x:Δ):∃n:Int,N18 n/\jR x=n/\(jS x=true↔x=l5 n):=by
 cases hi:jS x with
 | true =>
  obtain⟨n,hn,rfl⟩:=aWK hi;exact⟨n,hn,(aQy hn).1,⟨λ_=>rfl,λ_=>rfl⟩⟩
 | false =>
  grind [N18,aQz,aQy]
theorem Wz{k:UInt8}(h1:¬CW k)(h2:k≠45):k ∉ (l5 n).data.toList:=by
 intro hm;by_cases hn:n<0
 ·rw[J8 hn]at hm;rcases aW.1 hm with h | h
  ·exact h2 h
  ·exact h1 ((pN _).1 _ h)
 ·rw[J9 hn]at hm;exact h1 ((pN _).1 _ hm)
def LR(n:Int):Prop := -1000000000000<=n/\n<=1000000000000
theorem Hq(h:LR n):N18 n:=by unfold LR at h;exact⟨by lia,by lia⟩
theorem bHU:cJ n (-1000000000000) 1000000000000=true↔LR n:=by
 simp[cJ,LR]
theorem aQ0:QY n=true↔LR n:=bHU
theorem aGc(l:Γ Int):vE l=l.any λn => !QY n:=VS l
theorem RJ{l:Γ Int}(h0:l≠[])(h1:l.length<=64)(h2:∀n∈l,LR n):iF l=qM (l.map l5) (aA #[44]):=by
 have e:(l.map dF)=l.map l5:=rfl;unfold iF
 grind [aGc,aQ0]
theorem aNu{l:Γ Int}(h:¬(l.length<=64/\∀n∈l,LR n)):iF l=aA #[]:=by
 unfold iF;by_cases h1:l.length>64
 ·lia
 ·rw[aGc]
  grind [aQ0]
theorem aQ1(p q:Γ UInt8)(r:Γ (Γ UInt8))(k:UInt8):[k].intercalate (p::q::r)=p++k :: [k].intercalate (q::r):=by
 rfl
theorem NE(k:UInt8):∀(ps:Γ (Γ UInt8)),ps≠[]->(∀p∈ps,k ∉ p)->cH k ([k].intercalate ps)=ps
 | [],h,_=>absurd rfl h
 | [p],_,h=>by
  have:[k].intercalate [p]=p:=by simp
  grind [lG]
 | p::q::r,_,h=>by
  rw[aQ1,nS k _ (h p (aR ..)),NE k (q::r) (by simp) λx hx=>h x (aM _ hx)]
theorem RL(l:Γ Δ):(qM l (aA #[44])).data.toList=[44].intercalate (l.map λx=>x.data.toList):=rfl
def aBK(x:Δ):bJ x (aA #[44])=bss (cH 44 x.data.toList):=vC 44 x
theorem bBb(x:Δ):bss (cH 44 x.data.toList)≠[]:=by
 simp[bss,wD]
theorem aAt(ls:Γ (Γ UInt8)):(bss ls).map (λx=>x.data.toList)=ls:=by
 unfold bss;rw[oM]
 conv=>rhs;rw[<- D6 ls]
 rfl
theorem XA(x:Δ):iF (oW x)=x↔((AK x).length<=64/\∀w∈AK x,jS w=true/\LR (jR w)):=by
 have ew:AK x=bss (cH 44 x.data.toList):=aBK x;have hlen:(oW x).length=(AK x).length:=by simp[oW]
 have hne:oW x≠[]:=λh=>bBb x (by
  grind)
 constructor
 ·intro ht;have hok:(oW x).length<=64/\∀n∈oW x,LR n:=by
   apply jA;intro hc;rw[aNu hc]at ht;subst ht;apply hc;have e1:AK (aA #[])=[aA #[]]:=by rfl
   have hf:jS (aA #[])=false:=by
    rfl
   unfold oW;rw[e1];simp[aQz hf];simp[LR]
  rw[RJ hne hok.1 hok.2]at ht;have hd:=congrArg (λb:Δ=>cH 44 b.data.toList) ht;simp[RL]at hd;rw[NE 44 _ (by simp_all) (λp hp=>by
   grind [Wz,CW])]at hd
  have hw:AK x=(oW x).map l5:=by
   rw[ew, <- hd];simp[bss]
  refine⟨by lia,?_⟩;have key:∀w∈AK x,w=l5 (jR w):=by
   unfold oW at hw;intro w hw';obtain⟨i,hi⟩:=List.getElem?_of_mem hw'
   grind
  intro w hw';obtain⟨n,hn,e0,e1⟩:=aBJ w;refine⟨e1.2 (by grind),?_⟩;exact hok.2 _ (dK.2 ⟨w,hw',rfl⟩)
 ·rintro⟨h1,h2⟩;have hv:∀n∈oW x,LR n:=λn hn=>by
   obtain⟨w,hw,rfl⟩:=dK.1 hn
   grind
  rw[RJ hne (by lia) hv];refine zQ ?_;rw[RL];have hm:(oW x).map l5=AK x:=by
   unfold oW;rw[oM]
   conv=>rhs;rw[<- D6 (AK x)]
   refine pF λw hw=>?_;obtain⟨n,hn,e0,e1⟩:=aBJ w
   grind
  grind [aAt,AI]
open Classical in
theorem aBL:∀(ws:Γ Δ),Wv ws=if(∀w∈ws,jS w=true/\LR (jR w))then some (ws.map jR)else none
 | []=>by simp[Wv]
 | w::r=>by
  obtain⟨e0,e1⟩:=AQ w;rw[Wv,aBL r];have hk:aFZ w=true↔(jS w=true/\LR (jR w)):=by
   unfold aFZ;rw[e0,e1,aV,bHU]
  by_cases h:aFZ w=true
  ·rw[π h];by_cases hr:∀w∈r,jS w=true/\LR (jR w)
   ·rw[π hr,π (λy hy=>by
     rcases aW.1 hy with rfl | hy
     ·exact hk.1 h
     ·exact hr y hy)]
    simp[e0]
   ·rw[ν hr,ν (λhh=>hr λy hy=>hh y (aM _ hy))]
  ·rw[ν h,ν (λhh=>h (hk.2 (hh w (aR ..))))]
theorem rF(x:Δ):dJ x=iK x/\pO x=uR x:=by
 have e:Ww x=LM x:=by
  unfold Ww LM;by_cases h0:x=aA #[45]
  ·lia
  ·have ew:ND x=AK x:=(aBK x).symm;rw[ew,aBL];have hi:=XA x;by_cases h1:(AK x).length>64
   ·lia
   ·rw[ν h1];by_cases h2:∀w∈AK x,jS w=true/\LR (jR w)
    ·rw[π h2,π (hi.2 ⟨by lia,h2⟩)];rfl
    grind
 unfold dJ iK pO uR
 lia
theorem aAu{k:UInt8}(h1:¬CW k)(h2:k≠45)(h3:k≠44)(h:iK x≠[]):k ∉ x.data.toList:=by
 unfold iK LM at h;split at h
 ·grind
 ·split at h
  ·rename_i ht;obtain⟨_,h5⟩:=(XA x).1 ht;have ew:AK x=bss (cH 44 x.data.toList):=aBK x;intro hm;rw[<- AI 44 x.data.toList]at hm;have key:∀ps:Γ (Γ UInt8),(∀p∈ps,k ∉ p)->k ∉ [(44:UInt8)].intercalate ps:=by
    intro ps
    induction ps with
    | nil=>simp
    | cons p r ih =>
     cases r with
     | nil =>
      simp_all
     | cons q r =>
      simp_all
   refine key _ (λp hp=>?_) hm;have hmem:(⟨p.toArray⟩:Δ)∈AK x:=by
    rw[ew];exact dK.2 ⟨p,hp,rfl⟩
   obtain⟨n,_,e0,e1⟩:=aBJ ⟨p.toArray⟩;have he:=e1.1 (h5 _ hmem).1;have:p=(l5 n).data.toList:=by
    lia
   grind [Wz]
  grind
theorem RM(h:iK x≠[]):uR x=true/\iF (iK x)=x:=by
 unfold iK uR at *;cases ha:LM x with
 | none=>grind
 | some l =>
  rw[ha]at h;unfold LM at ha
  grind
theorem Kg{x:c7}(h:sK x=true):(0<=x.1/\x.1<=36524)/\(0<=x.2.1/\x.2.1<=24000)/\(0<=x.2.2.1/\x.2.2.1<=1000):=by
 unfold sK at h;split at h
 ·rename_i h0;split at h
  ·rename_i h1;exact⟨win.1 h0,win.1 h1,win.1 h⟩
  lia
 lia
theorem Kh(h:0<=n/\n<=36524):∃a b c:Nat,oY n=dT a b c/\MY n/\aM2 (dT a b c)/\rJ (dT a b c)=n/\uC (dT a b c)=true/\(32:UInt8) ∉ (dT a b c).data.toList:=by
 obtain⟨y,m,d,hd,e⟩:=aFY h;have hp:=J6 hd;obtain⟨⟨y1,y2⟩,⟨m1,m2⟩,d1,d2⟩:=id hd;obtain⟨a,rfl⟩:=eU (show 0<=y by lia);obtain⟨b,rfl⟩:=eU (show 0<=m by lia);obtain⟨c,rfl⟩:=eU (show 0<=d by lia);have hc:mW (a:Int) (b:Int)<=31:=by
  grind [mW]
 have ht:=Ez hd (by lia) (by lia) (by lia);obtain⟨r0,r1⟩:=Tv hd (by lia) (by lia) (by lia);rw[e]at hp ht r0;refine⟨a,b,c,ht,hp,aKS _ (by show (10:Nat)<=1048576;lia),r0,r1,?_⟩;have hD:∀n,n<10->(32:UInt8)≠mQ n:=λn hn e=>by
  have:=congrArg cR e;rw[pB hn]at this
  lia
 show (32:UInt8) ∉ [50,48,mQ (a%100/10),mQ (a%10)]++45::([mQ (b/10),mQ (b%10)]++45 :: [mQ (c/10),mQ (c%10)])
 grind
abbrev Hx:Se:=((0:Int),(0:Int),(0:Int),())
theorem aKV{p:Nat->Se->Bool}:∀(l:Γ Se) (k:Nat),nL p k l=true->∀i,i<l.length->p (k+i) (l.getD i Hx)=true
 | [],k,_,i,hi=>by grind
 | x::r,k,h,i,hi=>by
  rw[nL,aV]at h;cases i with
  | zero=>grind
  | succ i =>
   have:=aKV r (k+1) h.2 i (by simpa using hi);rw[show k+(i+1)=k+1+i by omega];exact this
theorem Oj{xs:Γ Se}(h:jG xs=true):xs.length<=24/\Dn xs=true:=by
 unfold jG at h
 lia
theorem XB{xs:Γ Se}(h:Dn xs=true):(∀i,i<xs.length->sK (xs.getD i Hx)=true)/\∀i,i+1<xs.length->(xs.getD i Hx).1<(xs.getD (i+1) Hx).1/\(xs.getD i Hx).2.1<=(xs.getD (i+1) Hx).2.1:=by
 have hk:=aKV xs 0 h;refine⟨λi hi=>?_,λi hi=>?_⟩
 ·have:=hk i hi;unfold VN at this
  lia
 ·have:=hk (i+1) hi;unfold VN at this;rw[aV]at this;have h2:=this.2;unfold aIw at h2
  lia
theorem RN{xs:Γ Se}(h:∀i,i+1<xs.length->(xs.getD i Hx).1<(xs.getD (i+1) Hx).1/\(xs.getD i Hx).2.1<=(xs.getD (i+1) Hx).2.1):∀n,n+1<xs.length->(xs.getD 0 Hx).1<(xs.getD (n+1) Hx).1/\(xs.getD 0 Hx).2.1<=(xs.getD (n+1) Hx).2.1
 | 0,hn=>h 0 hn
 | n+1,hn=>by
  have h1:=RN h n (by lia)
  grind
theorem aQ2{a b:Int}(ha:0<=a/\a<=24000000)(hb:1<=b/\b<=36524):Qe a b/\0<=o6 a b/\o6 a b<=30000000:=by
 have t1:aP a b=a/b:=Int.tdiv_eq_ediv_of_nonneg ha.1;have t2:cP a b=a%b:=gR ha.1;have d1:0<=a/b:=Int.ediv_nonneg ha.1 (by lia);have d2:a/b<=a:=FY _ ha.1;have m1:0<=a%b:=Int.emod_nonneg _ (by lia);have m2:a%b<b:=Int.emod_lt_of_pos _ (by lia);have a1:mX b=b:=by
  unfold mX
  lia
 have a2:mX (a%b)=a%b:=by
  unfold mX
  lia
 have p1:T1 b:=by
  unfold T1
  lia
 have p2:T1 (a%b):=by
  unfold T1
  lia
 have c0:decide (a<0)=false:=decide_eq_false (by lia);have c1:decide (b<0)=false:=decide_eq_false (by lia);unfold Qe o6;rw[t1,t2];generalize a/b=q at *;generalize a%b=m at *;have i1:bA .i64 q:=by grind [aK]
 have i2:bA .i64 m:=by grind [aK]
 have i3:bA .i64 (b-m):=by grind [aK]
 have i4:bA .i64 (q+1):=by grind [aK]
 lia
theorem NF(xs:Γ Se):aPE xs/\(jG xs=true->(vR xs=0↔2<=xs.length))/\(0<=kW xs/\kW xs<=30000000)/\(jG xs=true->1<=xs.length->WJ xs):=by
 by_cases hv:jG xs=true
 ·obtain⟨hl,ha⟩:=Oj hv;obtain⟨h1,h2⟩:=XB ha;have hlt:∀i,i<xs.length->(0<=(xs.getD i Hx).1/\(xs.getD i Hx).1<=36524)/\(0<=(xs.getD i Hx).2.1/\(xs.getD i Hx).2.1<=24000):=λi hi=>⟨(Kg (h1 i hi)).1,(Kg (h1 i hi)).2.1⟩;have big:2<=xs.length->Qe (aAf xs) (aAg xs)/\0<=o6 (aAf xs) (aAg xs)/\o6 (aAf xs) (aAg xs)<=30000000:=λh=>by
   have hf:=RN h2 (xs.length-2) (by lia);rw[show xs.length-2+1=xs.length-1 by lia]at hf;have b0:=hlt 0 (by lia);have b1:=hlt (xs.length-1) (by lia);refine aQ2 ?_ ?_
   ·show 0<=1000*((xs.getD (xs.length-1) Hx).2.1-(xs.getD 0 Hx).2.1)/\1000*((xs.getD (xs.length-1) Hx).2.1-(xs.getD 0 Hx).2.1)<=24000000
    lia
   ·show 1<=(xs.getD (xs.length-1) Hx).1-(xs.getD 0 Hx).1/\(xs.getD (xs.length-1) Hx).1-(xs.getD 0 Hx).1<=36524
    lia
  have hg:0<=kW xs/\kW xs<=30000000:=by
   unfold kW
   lia
  refine⟨λ_ h=>⟨hl,(big h).1,?_,?_⟩,λ_=>?_,hg,λ_ h=>?_⟩
  ·grind [aK]
  ·grind
  ·unfold vR
   lia
  ·have b1:=hlt (xs.length-1) (by lia)
   grind [aE,WJ,lS]
 ·refine⟨λh=>absurd h hv,λh=>absurd h hv,?_,λh=>absurd h hv⟩;unfold kW
  lia
theorem aKW(xs:Γ Se)(v:Int):∀(k:Nat) (d:Int),(kR xs v k d = -1)\/(d<=kR xs v k d/\kR xs v k d<d+k/\kF xs (kR xs v k d)>=v/\∀e,d<=e->e<kR xs v k d->kF xs e<v)
 | 0,d => .inl rfl
 | k+1,d=>by
  have ef:kR xs v (k+1) d=if kF xs d>=v then d else kR xs v k (d+1):=rfl
  by_cases h:kF xs d>=v
  ·lia
  ·rcases aKW xs v k (d+1)with h1 | ⟨h1,h2,h3,h4⟩
   all_goals grind
theorem aNw(xs:Γ Se)(v:Int):aTA xs v/\(EB xs v=0->WJ xs/\(lS xs).1<=Ak xs v/\Ak xs v<=36524/\kF xs (Ak xs v)>=v/\∀e,(lS xs).1<=e->e<Ak xs v->kF xs e<v):=by
 obtain⟨p,h1,h2,h3⟩:=NF xs;have hB:jG xs=true->vR xs=0->WJ xs:=λhv hg=>h3 hv (by lia);refine⟨⟨p,hB⟩,λh=>?_⟩;unfold EB at h;unfold Ak;split at h
 case isFalse=>lia
 rename_i hv;rw[π hv];split at h
 case isFalse=>lia
 rename_i hw;rw[π hw];split at h
 case isFalse=>lia
 rename_i hg;rw[π hg];split at h
 case isTrue=>lia
 rename_i hd;rw[ν hd];have hb:=hB hv hg;refine⟨hb,?_⟩;rcases aKW xs v (36525-(lS xs).1).toNat (lS xs).1 with e | ⟨e1,e2,e3,e4⟩
 ·exfalso;apply hd;show kR xs v (36525-(lS xs).1).toNat (lS xs).1<0
  lia
 ·exact⟨e1,by show kR xs v (36525-(lS xs).1).toNat (lS xs).1<=36524;lia,e3,e4⟩
theorem aKX{h:c7}(q:xF h=true):(0<=h.1/\h.1<=1000) /\ -400<=h.2.1/\h.2.1<=500:=by
 obtain⟨a,q⟩:=zS q;exact⟨wi a,wi (zS q).1⟩
variable {l:Γ c7}
theorem wH(h:BA l=true):l.length<=48/\∀x∈l,xF x=true:=by
 unfold BA Bx at h;obtain⟨a,h⟩:=zS h;rw[MG,eX,fG]at h;exact⟨by lia,λx hx=>nb (h x hx)⟩
theorem sW(h:xG l=true):l.length<=8/\∀x∈l,qK x=true:=by
 unfold xG By at h;obtain⟨a,h⟩:=zS h;rw[MI,eX,fG]at h;exact⟨by lia,λx hx=>nb (h x hx)⟩
theorem aQ3(h1:l.length<=48)(h2:∀x∈l,xF x=true):BA l=true:=by
 unfold BA Bx;rw[MG,π (decide_eq_true (by lia)),eX,fG];exact λx hx=>by rw[show I7 x = !xF x from rfl,h2 x hx];lia
theorem aNx(h1:l.length<=8)(h2:∀x∈l,qK x=true):xG l=true:=by
 unfold xG By;rw[MI,π (decide_eq_true (by lia)),eX,fG];exact λx hx=>by rw[show I8 x = !qK x from rfl,h2 x hx];lia
theorem aGd(l h:Γ c7):aTy l h:=λho=>by
 unfold H5 at ho;rw[aV]at ho;obtain⟨h1,h2⟩:=wH ho.2;refine⟨by lia,λx hx y hy=>?_⟩;obtain⟨_,q⟩:=aKX (h2 x hx);unfold aP2;split
 ·lia
 ·split
  ·exact⟨by grind [aK],trivial⟩
  lia
theorem Sr{l:Γ Int}(h:pM l=true):l.length<=60/\∀x∈l,0<=x/\x<=1000:=by
 obtain⟨_,h⟩:=zS h;obtain⟨b,h⟩:=zS h;refine⟨by lia,λx hx=>?_⟩;unfold Fs at h;rw[VU,eX,fG]at h;have q:¬(!aBl x)=true:=h x hx;exact wi (show bH x 0 1000=true from nb q)
theorem RO(l:Γ Int)(e s:Int):aMR l e s:=by
 have key:∀c:Bool,¬(sP l c != 0)=true->pM l=true/\c=true:=λc hc=>by
  unfold sP at hc
  lia
 unfold aMR;split
 ·rename_i he;refine F0 λc=>⟨?_,trivial⟩;obtain⟨h1,h2⟩:=key _ c;obtain⟨q1,q2⟩:=Sr h1;have w1:=wi (show bH e 1 60=true from he);have w2:=wi (show bH s 1 1000=true from h2);exact⟨by lia,by lia,by lia,q2⟩
 grind
theorem aGe{l:Γ b6}(h:xJ l=true):l.length<=10:=by
 unfold xJ at h
 lia
theorem aGf{l:Γ b6}(h:xL l=true):l.length<=8:=by
 unfold xL at h
 lia
theorem aAv{l:Γ b6}(h:uQ l=true):l.length<=12:=by
 unfold uQ at h
 lia
theorem aWL{l:Γ eR}(h:rB l=true):l.length<=8:=by
 unfold rB at h
 lia
theorem aQ4{l:Γ eR}(h:uP l=true):l.length<=100:=by
 unfold uP at h
 lia
theorem aQ5(a b:Γ b6)(ha:xJ a=true)(hb:xL b=true):aZR a b:=by
 have h1:=aGe ha;have h2:=aGf hb;exact F0 λc=>⟨⟨bG _,show b.length+1-0<=2000 by lia,by lia,by lia⟩,trivial⟩
theorem NG{l:Γ eR}(h:rB l=true):∀x∈l,sJ x=true:=by
 unfold rB at h;rw[aV]at h;intro x hx;obtain⟨j,hj⟩:=CS _ _ h.1 x hx;unfold aXM at hj
 lia
theorem XC{l:Γ eR}(h:uP l=true):∀x∈l,oV x=true:=by
 unfold uP at h;rw[aV]at h;intro x hx;obtain⟨j,hj⟩:=CS _ _ h.1 x hx;unfold aXH at hj
 lia
theorem aBM{f:eR}(q:sJ f=true):sI f.1=true/\(0<=f.2.1/\f.2.1<=100000)/\(1<=f.2.2.1/\f.2.2.1<=1000)/\1<=f.2.2.2.1/\f.2.2.2.1<=400:=by
 obtain⟨a,q⟩:=zS q;obtain⟨b,q⟩:=zS q;obtain⟨c,q⟩:=zS q;exact⟨a,wi b,wi c,wi q⟩
theorem XD{l:Γ Int}(h:jE l=true):l.length<=40/\∀y∈l,0<=y/\y<=36524:=by
 unfold jE at h;rw[aV]at h;refine⟨by lia,λx hx=>?_⟩;obtain⟨j,hj⟩:=CS _ _ h.1 x hx;unfold CK at hj;rw[aV]at hj;exact wi (show bH x 0 36524=true from hj.1)
theorem RP(l:Γ eR)(t:Γ Int):aT5 l t:=by
 refine⟨λy hy=>(by grind),λh=>?_⟩;have q:rB l=true/\jE t=true:=by
  unfold lL at h
  lia
 obtain⟨t1,t2⟩:=XD q.2;refine⟨by lia,λf hf=>?_,λy hy=>?_⟩
 all_goals grind [aBM,NG]
theorem vU(h:jG l=true):l.length<=24/\∀x∈l,(0<=x.1/\x.1<=36524)/\(0<=x.2.1/\x.2.1<=24000)/\0<=x.2.2.1/\x.2.2.1<=1000:=by
 obtain⟨h1,h2⟩:=Oj h;refine⟨h1,λx hx=>?_⟩;obtain⟨i,hi,rfl⟩:=AW.1 hx;have:=(XB h2).1 i hi;rw[jX _ i _ hi]at this;exact Kg this
theorem aTX(l:Γ c7)(a b:Int):aTB l a b:=by
 unfold aTB;refine F0 λc1=>F0 λc2=>F0 λc3=>F0 λc4=>?_;obtain⟨h1,h2⟩:=vU (nb c1);have w:=wi (nb c3);have hl:l.length≠0:=λe=>by lia
 have e:(((l.length:Nat):Int)-1).toNat=l.length-1:=by lia
 have hm:=h2 _ (bY l (l.length-1) (0,0,0,()) (by lia));refine⟨by grind [aK],by lia,by lia,?_,(aNw l a).1,trivial⟩
 grind [aK]
theorem bHV(h l:c7)(hl:qK l=true)(s:Int):aNl h s l=aAc h s l:=by
 have k:=wi (show bH l.1 1 4=true from(zS hl).1);have m:∀a b:Int,EE a b=if b<a then b else a:=λa b=>by
  unfold EE
  lia
 unfold aNl aAc;rw[m];unfold Wb Wc WA Vz
 lia
theorem aQ6{x0:Γ c7}(hv:xG x0=true){h:c7}(hh:xF h=true)(n:Int):P83 x0 h n/\aKI x0 h n=Mb x0 h n:=by
 obtain⟨_,h2⟩:=sW hv;obtain⟨_,q⟩:=aKX hh;refine⟨λl hl=>?_,?_⟩
 ·unfold aPL;split
  ·lia
  ·split
   ·lia
   ·split
    ·lia
    ·exact⟨by grind [aK],trivial⟩
 ·unfold aKI Mb;have:∀(l:Γ c7) (s:Int),(∀x∈l,qK x=true)->l.foldl (aNl h) s=l.foldl (aAc h) s:=λl=>by
   induction l with
   | nil=>simp
   | cons x l ih =>
    intro s hx;rw[fR,fR,bHV h x (hx x (aR ..)),ih _ λy hy=>hx y (aM _ hy)]
  grind
noncomputable section
def d24:jB:=D0 aHw [.v (.sl dX),.v (.sl dX)] [.sl Jy,.int .i64] [bA7,bH6,bMh]
mutual
def R24:Nat->Γ c7->Γ c7->Γ aS->Prop
 | 0,_,_,_=>False
 | n+1,x0,x1,ds=>if !CP x0 then ds=[aJ (.sl Jy) [],aJ (.int .i64) 1] else if !Wa x1 then ds=[aJ (.sl Jy) [],aJ (.int .i64) 1] else XE n 0 ([]) x0 x1 ds
def XE:Nat->Int->Γ Int->Γ c7->Γ c7->Γ aS->Prop
 | 0,_,_,_,_,_=>False
 | n+1,v7,h0,x0,x1,ds=>if decide (v7<(x1.length:Int))then 0<=v7/\v7<(x1.length:Int)/\P83 x0 (aD x1 (aE v7) (0,0,0,())) 1/\if decide (aKI x0 (aD x1 (aE v7) (0,0,0,())) 1>0)then(aF h0+1)*8<=140737488355328/\bA .i64 (v7+1)/\XE n (v7+1) (h0++[v7]) x0 x1 ds else bA .i64 (v7+1)/\XE n (v7+1) h0 x0 x1 ds else ds=[aJ (.sl Jy) h0,aJ (.int .i64) 0]
end
def bHX(ds:Γ aS)(K:gU)(q:Nat->Value):∀n,(∀ {x0 x1},R24 n x0 x1 ds->St d24 (x0,x1,()) ds [] K q)/\(∀ {v7 h0 x0 x1},XE n v7 h0 x0 x1 ds->Cu d24 5 ([eL 0 dX x0,eL 1 dX x1,eW 6 0,eI 7 v7],[cN (.int .i64) h0]) ds [] K q):=nI ⟨aH,aH⟩ λn ⟨i,i5⟩=>⟨bS<|bU (j0 dR)<|bS<|bU dR<|cX i5,
  bU (eE<|aO<|bU (aO<|aO<|cX i5)<|aO<|cX i5) dR⟩
def aGg(x0 x1:Γ c7):Γ Int:=Dv x0 x1
def aGh(x0 x1:Γ c7):Int:=JG x0 x1
theorem bHY(x0 x1:Γ c7)(v0:xG x0=true)(hl:x1.length<=48)(v1:∀x∈x1,xF x=true):∀(k i:Nat) (h0:Γ Int),i+k=x1.length->h0.length<=i->XE (k+1) (i:Int) h0 x0 x1 [⟨.sl Jy,h0++u5 x0 (x1.drop i) i⟩,⟨.int .i64,0⟩]:=by
 intro k
 induction k with
 | zero =>
  intro i h0 hi hh;rw[XE,ν (by lia),bT (by lia),u5,cK]
 | succ k ih =>
  intro i h0 hi hh;have hlt:i<x1.length:=by lia
  have e3:(i:Int)+1=((i+1:Nat):Int):=by lia
  obtain⟨p,e⟩:=aQ6 v0 (v1 _ (bY x1 i (0,0,0,()) hlt)) 1;rw[XE,π (by lia),eD x1 i (0,0,0,()) hlt,u5,aI,e];refine⟨by lia,by lia,p,?_⟩;by_cases c:decide (Mb x0 (x1.getD i (0,0,0,())) 1>0)=true
  ·have:=ih (i+1) (h0++[(i:Int)]) (by lia) (by grind);refine(π c).mpr ⟨by lia,by grind [aK],?_⟩
   grind
  ·refine(ν c).mpr ⟨by grind [aK],?_⟩
   grind
theorem bHZ(x0 x1:Γ c7):∃n,R24 n x0 x1 [⟨.sl Jy,aGg x0 x1⟩,⟨.int .i64,aGh x0 x1⟩]:=by
 unfold aGg aGh Dv JG H5;by_cases c1:xG x0=true
 ·by_cases c2:BA x1=true
  ·obtain⟨p1,p2⟩:=wH c2;refine⟨x1.length+1+1,?_⟩;rw[R24, <- GU, <- Kb,c1,c2];exact bHY x0 x1 c1 p1 p2 x1.length 0 [] (by omega) (bG _)
  ·exact⟨1,by rw[R24, <- GU, <- Kb,c1,Dm c2];rfl⟩
 ·exact⟨1,by rw[R24, <- GU, <- Kb,Dm c1];rfl⟩
def bMr:KK:=mL d24 (DO aHw) nP (aGg,aGh,()) (λ⟨x0,x1,_⟩ h hwf K q =>
 let ⟨n,hn⟩:=bHZ x0 x1
 (bHX _ K q n).1 hn)
def d92:jB:=D0 aHx [.v (.int .i64)] [.str] []
mutual
def R92:Nat->Int->Γ aS->Prop
 | 0,_,_=>False
 | n+1,x0,ds=>if x0==0 then ds=[aJ .str (aA #[48])] else LS n x0 ([]) x0 ds
def LS:Nat->Int->Γ Int->Int->Γ aS->Prop
 | 0,_,_,_,_=>False
 | n+1,v4,h0,x0,ds=>if v4 != 0 then bA .i64 (cP v4 10)/\if decide (cP v4 10<0)then bA .i64 (0-cP v4 10)/\bA .i64 (48+(0-cP v4 10))/\bA .u8 (48+(0-cP v4 10))/\(aF h0+1)*1<=140737488355328/\bA .i64 (aP v4 10)/\LS n (aP v4 10) (h0++[48+(0-cP v4 10)]) x0 ds else bA .i64 (48+cP v4 10)/\bA .u8 (48+cP v4 10)/\(aF h0+1)*1<=140737488355328/\bA .i64 (aP v4 10)/\LS n (aP v4 10) (h0++[48+cP v4 10]) x0 ds else if decide (x0<0)then(aF h0+1)*1<=140737488355328/\bA .i64 ((↑(aF (h0++[45])):Int)-1)/\NH n ((↑(aF (h0++[45])):Int)-1) (h0++[45]) ([]) ds else bA .i64 ((h0.length:Int)-1)/\NH n ((h0.length:Int)-1) h0 ([]) ds
def NH:Nat->Int->Γ Int->Γ Int->Γ aS->Prop
 | 0,_,_,_,_=>False
 | n+1,v7,h0,h1,ds=>if decide (v7>=0)then 0<=v7/\v7<(h0.length:Int)/\(aF h1+1)*1<=140737488355328/\bA .i64 (v7-1)/\NH n (v7-1) h0 (h1++[aD h0 (aE v7) 0]) ds else ds=[aJ .str (nR h1)]
end
def bIa(ds:Γ aS)(K:gU)(q:Nat->Value):∀n,(∀ {x0},R92 n x0 ds->St d92 (x0,()) ds [] K q)/\(∀ {v4 h0 x0},LS n v4 h0 x0 ds->Cu d92 5 ([eI 0 x0,eW 3 0,eI 4 v4],[cN (.int .u8) h0]) ds [] K q)/\(∀ {v7 h0 h1},NH n v7 h0 h1 ds->Cu d92 15 ([eW 3 0,eW 6 1,eI 7 v7],[cN (.int .u8) h0,cN (.int .u8) h1]) ds [] K q):=nI ⟨aH,aH,aH⟩ λn ⟨i,i5,i15⟩=>⟨bU dR<|cX i5,
  bU (pw 10<|aO<|bU (aO<|aO<|aO<|aO<|pw 10<|aO<|cX i5)<|aO<|aO<|aO<|pw 10<|aO<|cX i5)<|bU (aO<|aO<|cX i15)<|aO<|cX i15,
  bU (eE<|aO<|aO<|cX i15) dR⟩
def kI(x0:Int):Δ:=l5 x0
theorem aJx(xs:Γ Int):nR xs=⟨⟨xs.map λn=>jU n.toNat⟩⟩:=by
 have key:∀(xs:Γ Int) (s:Δ),(xs.foldl (λr n=>r.push (jU n.toNat)) s).data.toList=s.data.toList++xs.map λn=>jU n.toNat:=by
  intro xs
  induction xs with
  | nil=>intro s;simp
  | cons a r ih =>
   intro s;rw[fR,ih];show (s.data.push _).toList++_=_;rw[Array.toList_push];simp
 apply ByteArray.ext;apply Array.ext';have:=key xs aC;unfold nR;rw[this];rfl
theorem aTY(l:Γ UInt8):nR (l.map λb=>(b.toNat:Int))=⟨⟨l⟩⟩:=by
 rw[aJx,oM]
 congr 2
 conv=>rhs;rw[<- D6 l]
 refine pF λb _=>?_;show jU ((b.toNat:Int)).toNat=b;rw[aI,UInt8.ofNat_toNat]
def Ao(m:Nat):Γ Int:=if h:m=0 then [] else((48+m%10:Nat):Int)::Ao (m/10)
termination_by m
decreasing_by omega
theorem aKY:Ao 0=[]:=by rw[Ao,dif_pos rfl]
theorem aQ7{m:Nat}(h:m≠0):Ao m=((48+m%10:Nat):Int)::Ao (m/10):=by rw[Ao,dif_neg h]
theorem aWM : ∀(k m:Nat), m<10^k->(Ao m).length<=k
  | 0, m, h => by obtain rfl : m = 0 := by simpa using h
                  rw[aKY]; exact aT _
  | k+1, m, h=>by
    by_cases h0:m = 0
    · rw[h0, aKY]; exact bG _
    · rw[aQ7 h0, cL]
      have:=aWM k (m/10) (by rw[BY]at h; omega);omega
theorem aWN(m:Nat)(h:m≠0):nR (Ao m).reverse=⟨⟨bN m⟩⟩:=by
 have key:∀m:Nat,m≠0->(Ao m).reverse=(bN m).map λb=>(b.toNat:Int):=by
  intro m
  induction m using Hl with
  | _ m ih =>
   intro h;rw[aQ7 h,List.reverse_cons,bN];have e:(jU (48+m%10)).toNat=48+m%10:=by rw[qZ];omega
   split
   ·rename_i hs;rw[show m/10=0 by omega,aKY];have e':(jU (48+m)).toNat=48+m%10:=by rw[qZ];omega
    rw[Nj,e'];rfl
   ·rw[ih (m/10) (by omega) (by omega),iQ,Nj,e]
 rw[key m h];exact aTY _
theorem aJy(h0:Γ Int):∀(j:Nat) (h1:Γ Int),j<=h0.length->h1.length+j<=64->NH (j+1) ((j:Int)-1) h0 h1 [⟨.str,nR (h1++(h0.take j).reverse)⟩]
 | 0,h1,_,_=>by
  rw[NH,ν (by decide)];simp
 | j+1,h1,hj,hl=>by
  have ih:=aJy h0 j (h1++[h0.getD j 0]) (by omega) (by rw[aU,bP];omega);have e:((j+1:Nat):Int)-1=(j:Int):=by omega
  rw[NH,e,π (by simp only[ε];omega),aI];refine⟨by omega,by omega,by omega,by rw[aK];omega,?_⟩;have et:(h0.take (j+1)).reverse=h0.getD j 0::(h0.take j).reverse:=by
   have hlt:j<h0.length:=by omega
   rw[eG,aX hlt,uJ,bC,aX hlt];rfl
  rw[et];rw[bZ]at ih;exact ih
theorem bBc(x0:Int)(h0:Γ Int)(hl:h0.length<=20):LS ((if x0<0 then h0.length+1 else h0.length)+1+1) 0 h0 x0 [⟨.str,nR ((if x0<0 then h0++[45] else h0)).reverse⟩]:=by
 rw[LS,ν (by decide)];by_cases hx:x0<0
 ·have b:=aJy (h0++[45]) (h0.length+1) [] (by rw[aU,bP];omega) (by simp;omega);have e:(h0++[(45:Int)]).length=h0.length+1:=by rw[aU,bP]
  rw[cW (by omega)]at b;simp only[hx,decide_true,if_true];rw[e];exact⟨by omega,by rw[aK];omega,b⟩
 ·have b:=aJy h0 h0.length [] (aT _) (by simp;omega);rw[cW (aT _)]at b;simp only[hx,decide_false,Bool.false_eq_true,if_false];exact⟨by rw[aK];omega,b⟩
theorem bIb(x0:Int)(ds:Γ aS)(F:Γ Int)(K:Nat)(hF:LS K 0 F x0 ds):∀(m:Nat) (v:Int) (h0:Γ Int),(v=(m:Int)\/v = -(m:Int))->m<=9223372036854775808->bA .i64 v->h0.length+(Ao m).length<=20->h0++Ao m=F->LS ((Ao m).length+K) v h0 x0 ds:=by
 intro m
 induction m using Hl with
 | _ m ih =>
  intro v h0 hv hm hi hl he;by_cases h:m=0
  ·subst h;obtain rfl:v=0:=by omega
   rw[aKY]at he ⊢;rw[cK]at he;rw[he,Aw,bX];exact hF
  ·have hr:=aQ7 h;rw[hr]at he hl ⊢;rw[cL]at hl ⊢;have hne:(v != 0)=true:=by
    have:v≠0:=by omega
    simpa using this
   rw[aK]at hi;have e1:(Ao (m/10)).length+1+K=((Ao (m/10)).length+K)+1:=by omega
   have next:∀v',(v'=((m/10:Nat):Int)\/v' = -((m/10:Nat):Int))->LS ((Ao (m/10)).length+K) v' (h0++[((48+m%10:Nat):Int)]) x0 ds:=λv' hv' =>
    ih (m/10) (by omega) v' _ hv' (by omega) (by rw[aK];omega) (by rw[aU,bP];omega) (by rw[bZ];exact he)
   rw[e1,LS,π hne];rcases hv with rfl | rfl
   ·have t1:cP (m:Int) 10=((m%10:Nat):Int):=rfl;have t2:aP (m:Int) 10=((m/10:Nat):Int):=rfl;rw[t1,t2];refine⟨by rw[aK];omega,?_⟩;rw[ν (by simp only[ε];omega)];have e2:48+((m%10:Nat):Int)=((48+m%10:Nat):Int):=by omega
    rw[e2];exact⟨by rw[aK];omega,by rw[QT];omega,by omega,by rw[aK];omega,next _ (.inl rfl)⟩
   ·have t1:cP (-(m:Int)) 10 = -((m%10:Nat):Int):=by rw[Int.neg_tmod];rfl
    have t2:aP (-(m:Int)) 10 = -((m/10:Nat):Int):=by rw[Int.neg_tdiv];rfl
    rw[t1,t2];refine⟨by rw[aK];omega,?_⟩;by_cases hz:m%10=0
    ·rw[ν (by simp only[ε];omega)];have e2:48 + -((m%10:Nat):Int)=((48+m%10:Nat):Int):=by omega
     rw[e2];exact⟨by rw[aK];omega,by rw[QT];omega,by omega,by rw[aK];omega,next _ (.inr rfl)⟩
    ·rw[π (by simp only[ε];omega)];have e2:48+(0 - -((m%10:Nat):Int))=((48+m%10:Nat):Int):=by omega
     rw[e2];exact⟨by rw[aK];omega,by rw[aK];omega,by rw[QT];omega,by omega,by rw[aK];omega,next _ (.inr rfl)⟩
theorem bIc(x0:Int)(hi:bA .i64 x0):∃n,R92 n x0 [⟨.str,kI x0⟩]:=by
 unfold kI l5 Cd;by_cases h:x0=0
 ·subst h;refine⟨1,?_⟩;rw[R92,π (by rfl),ν (by decide)];have e:bN (aE 0)=[48]:=by rw[bN,dif_pos (by decide)];rfl
  rw[e]
 ·have hi':=hi;rw[aK]at hi';have hn:x0.natAbs≠0:=by omega
  have hl:=aWM 19 x0.natAbs (by omega);refine⟨(Ao x0.natAbs).length+((if x0<0 then(Ao x0.natAbs).length+1 else(Ao x0.natAbs).length)+1+1)+1,?_⟩;rw[R92,ν (by simpa using h)];have hlast:=bBc x0 (Ao x0.natAbs) (by omega);have hrun:=bIb x0 _ (Ao x0.natAbs) _ hlast x0.natAbs x0 [] (by omega) (by omega) hi (by simp;omega) rfl;have e:nR (if x0<0 then Ao x0.natAbs++[45] else Ao x0.natAbs).reverse=⟨(if x0<0 then 45::bN x0.natAbs else bN x0.toNat).toArray⟩:=by
   by_cases hx:x0<0
   ·rw[π hx,π hx,uJ];show nR ((45:Int)::(Ao x0.natAbs).reverse)=_;have:=aWN x0.natAbs hn;have e0:nR ((45:Int)::(Ao x0.natAbs).reverse)=⟨⟨45::(nR (Ao x0.natAbs).reverse).data.toList⟩⟩:=by rw[aJx,aJx];rfl
    rw[e0,this]
   ·rw[ν hx,ν hx,aWN x0.natAbs hn,show x0.natAbs=x0.toNat by omega]
  rw[e]at hrun;exact hrun
def aJz:KK:=mL d92 (DO aHx) nP (kI,()) (λ⟨x0,_⟩ h hwf K q=>by
 obtain⟨n,hn⟩:=bIc x0 hwf.1;exact(bIa _ K q n).1 hn)
def d84:jB:=D0 aHy [.v (.sl Jy)] [.str] [aJz]
mutual
def R84:Nat->Γ Int->Γ aS->Prop
 | 0,_,_=>False
 | n+1,x0,ds=>if(x0.length:Int)==0 then ds=[aJ .str (aA #[45])] else XF n (aA #[]) 0 x0 ds
def XF:Nat->Δ->Int->Γ Int->Γ aS->Prop
 | 0,_,_,_,_=>False
 | n+1,v3,v4,x0,ds=>if decide (v4<(x0.length:Int))then(if decide (v4>0)then aG v3+1<=9223372036854775807/\0<=v4/\v4<(x0.length:Int)/\aG (v3++aA #[44])+aG (kI (aD x0 (aE v4) 0))<=9223372036854775807/\bA .i64 (v4+1)/\XF n (v3++aA #[44]++kI (aD x0 (aE v4) 0)) (v4+1) x0 ds else 0<=v4/\v4<(x0.length:Int)/\aG v3+aG (kI (aD x0 (aE v4) 0))<=9223372036854775807/\bA .i64 (v4+1)/\XF n (v3++kI (aD x0 (aE v4) 0)) (v4+1) x0 ds)else ds=[aJ .str v3]
end
def bId(ds:Γ aS)(K:gU)(q:Nat->Value):∀n,(∀ {x0},R84 n x0 ds->St d84 (x0,()) ds [] K q)/\(∀ {v3 v4 x0},XF n v3 v4 x0 ds->Cu d84 5 ([eL 0 (.int .i64) x0,eS 3 v3,eI 4 v4],[]) ds [] K q):=nI ⟨aH,aH⟩ λn ⟨i,i5⟩=>⟨bU dR<|cX i5,
  bU (bU (aO<|eE<|bS<|aO<|aO<|cX i5)<|eE<|bS<|aO<|aO<|cX i5) dR⟩
def aGi:Nat->Δ->Γ Int->Δ
 | _,o,[]=>o
 | i,o,x::r=>aGi (i+1) ((if 0<i then o++aA #[44] else o)++kI x) r
def Ok(x0:Γ Int):Δ:=if x0.length=0 then aA #[45] else aGi 0 (aA #[]) x0
def P84(x0:Γ Int):Prop:=x0.length<=1000/\∀x∈x0,bA .i64 x
theorem bIe(x0:Γ Int)(hm:x0.length<=1000)(hx:∀x∈x0,bA .i64 x):∀(k i:Nat) (o:Δ),i+k=x0.length->o.size<=22*i ->
  XF (k+1) o (i:Int) x0 [⟨.str,aGi i o (x0.drop i)⟩]:=by
 intro k
 induction k with
 | zero =>
  intro i o hi ho;rw[XF,ν (by simp;omega),xD x0 i (by omega)];rfl
 | succ k ih =>
  intro i o hi ho;have hlt:i<x0.length:=by omega
  have hr:=hx (x0.getD i 0) (bY x0 i 0 hlt);have hup:bA .i64 ((i:Int)+1):=jZ (xs:=x0) (by unfold maxLen;omega) hlt;rw[aK]at hr;have hs:(kI (x0.getD i 0)).size<=21:=wC _ (by omega) (by omega);rw[XF,π (by simp;omega),eD x0 i 0 hlt];simp only[aI];unfold aGi;have i44:(aA #[44]).size=1:=rfl;by_cases h0:0<i
  ·rw[π (by simp;omega),π h0];have hs1:(o++aA #[44]).size=o.size+1:=by rw[bD,i44]
   refine⟨by omega,by omega,by omega,by rw[hs1];omega,hup,?_⟩;exact ih (i+1) _ (by omega) (by rw[bD,hs1];omega)
  ·rw[ν (by simp;omega),ν h0];refine⟨by omega,by omega,by omega,hup,?_⟩;exact ih (i+1) _ (by omega) (by rw[bD];omega)
theorem bIf(x0:Γ Int)(h:P84 x0):R84 (x0.length+1+1) x0 [⟨.str,Ok x0⟩]:=by
 rw[R84];unfold Ok;by_cases h0:x0.length=0
 ·rw[π (by simp[h0]),π h0]
 ·rw[ν (by simp only[beq_iff_eq];omega),ν h0];exact bIe x0 h.1 h.2 x0.length 0 (aA #[]) (by omega) (by decide)
def bMu:KK:=mL d84 (DO aHy) P84 (Ok,()) (λ⟨x0,_⟩ h hwf K q =>
 (bId _ K q _).1 (bIf x0 h))
def P98(x0:Int):Prop:=if !cJ x0 0 11 then True else 0<=x0/\x0<12/\True
def aGj(x0:Int):Δ:=if !cJ x0 0 11 then aA #[] else aD [aA #[111,107],aA #[105,110,118,97,108,105,100],aA #[114,97,110,103,101],aA #[110,111,116,45,102,111,117,110,100],aA #[101,120,105,115,116,115],aA #[102,117,108,108],aA #[115,116,97,116,101],aA #[111,114,100,101,114],aA #[115,121,110,116,97,120],aA #[102,111,114,109,97,116],aA #[99,104,101,99,107,115,117,109],aA #[116,114,117,110,99,97,116,101,100]] (aE x0) aC
def bMv:KK:=mB Tryz.func98 [.v (.int .i64)] [.str] [lT] P98 (aGj,()) λ_=>rY ((by decide):bA .i64 11)<|bS<|tH pr<|eE pr
def P32(x0:Int):Prop:=if x0==0 then True else P98 x0/\6+aG (aGj x0)<=9223372036854775807/\True
def AR(x0:Int):Γ Δ:=if x0==0 then [aA #[111,107]] else [aA #[101,114,114,111,114,32]++aGj x0]
def aTZ:KK:=mB Tryz.func32 [.v (.int .i64)] [.sl .str] [bMv] P32 (AR,()) λ_=>tH pr<|aO<|aO pr
def d28:jB:=D0 aHz [.v (.sl .str),.v (.int .i64)] [.sl .str] [aTZ]
mutual
def R28:Nat->Γ Δ->Int->Γ aS->Prop
 | 0,_,_,_=>False
 | n+1,x0,x1,ds=>if x1 != 0 then P32 x1/\ds=[aJ (.sl .str) (AR x1)] else if(x0.length:Int)==0 then ds=[aJ (.sl .str) [aA #[110,111,110,101]]] else Ss n 0 ([]) x0 ds
def Ss:Nat->Int->Γ Δ->Γ Δ->Γ aS->Prop
 | 0,_,_,_,_=>False
 | n+1,v6,h0,x0,ds=>if decide (v6<(x0.length:Int))then 0<=v6/\v6<(x0.length:Int)/\if aB (aD x0 (aE v6) aC)==aB (aA #[])then(aF h0+1)*16<=140737488355328/\bA .i64 (v6+1)/\Ss n (v6+1) (h0++[aA #[110,111,110,101]]) x0 ds else 0<=v6/\v6<(x0.length:Int)/\(aF h0+1)*16<=140737488355328/\bA .i64 (v6+1)/\Ss n (v6+1) (h0++[aD x0 (aE v6) aC]) x0 ds else ds=[aJ (.sl .str) h0]
end
def bIg(ds:Γ aS)(K:gU)(q:Nat->Value):∀n,(∀ {x0 x1},R28 n x0 x1 ds->St d28 (x0,x1,()) ds [] K q)/\(∀ {v6 h0 x0},Ss n v6 h0 x0 ds->Cu d28 7 ([eL 0 .str x0,eW 5 0,eI 6 v6],[cN .str h0]) ds [] K q):=nI ⟨aH,aH⟩ λn ⟨i,i7⟩=>⟨bU (aO dR)<|bU dR<|cX i7,
  bU (eE<|bU (aO<|aO<|cX i7)<|eE<|aO<|aO<|cX i7) dR⟩
def aJ1(s:Δ):Δ:=if(aB s==aB (aA #[]))=true then aA #[110,111,110,101] else s
def FA(x0:Γ Δ)(x1:Int):Γ Δ:=if x1 != 0 then AR x1 else if(x0.length:Int)==0 then [aA #[110,111,110,101]] else x0.map aJ1
def P28(x0:Γ Δ)(x1:Int):Prop:=(x1≠0->P32 x1)/\x0.length<=1048576
theorem bIh(x0:Γ Δ)(hm:x0.length<=1048576):∀(k i:Nat) (h0:Γ Δ),i+k=x0.length->h0.length=i->Ss (k+1) (i:Int) h0 x0 [⟨.sl .str,h0++(x0.drop i).map aJ1⟩]:=by
 intro k
 induction k with
 | zero =>
  intro i h0 hi hl;rw[Ss,ν (by simp only[ε];omega),bT (by omega),tQ,cK]
 | succ k ih =>
  intro i h0 hi hl;have hlt:i<x0.length:=by omega
  have e3:(i:Int)+1=((i+1:Nat):Int):=by omega
  have hu:bA .i64 ((i+1:Nat):Int):=by rw[aK];omega
  rw[Ss,π (by simp only[ε];omega),eD x0 i aC hlt,dG,e3,aI];generalize x0.getD i aC=s at *;have step:∀y,Ss (k+1) ((i+1:Nat):Int) (h0++[y]) x0 [⟨.sl .str,h0++y::(x0.drop (i+1)).map aJ1⟩]:=λy=>by
   have:=ih (i+1) (h0++[y]) (by omega) (by rw[aU,bP];omega)
   rwa [bZ]at this
  refine⟨by omega,by omega,?_⟩;unfold aJ1;by_cases c:(aB s==aB (aA #[]))=true
  ·refine(π c).mpr ⟨by omega,hu,?_⟩;rw[π c];exact step _
  ·refine(ν c).mpr ⟨by omega,by omega,by omega,hu,?_⟩;rw[ν c];exact step _
theorem bIi(x0:Γ Δ)(x1:Int)(h:P28 x0 x1):R28 (x0.length+1+1) x0 x1 [⟨.sl .str,FA x0 x1⟩]:=by
 rw[R28];unfold FA;by_cases c:(x1 != 0)=true
 ·refine(π c).mpr ⟨h.1 (by simpa using c),?_⟩;rw[π c]
 ·refine(ν c).mpr ?_;rw[ν c];by_cases d:((x0.length:Int)==0)=true
  ·refine(π d).mpr ?_;rw[π d]
  ·refine(ν d).mpr ?_;rw[ν d];exact bIh x0 h.2 x0.length 0 [] (by omega) rfl
def aQ9:KK:=mL d28 (DO aHz) P28 (FA,()) (λ⟨x0,x1,_⟩ h hwf K q =>
 (bIg _ K q _).1 (bIi x0 x1 h))
def P25(x0:Γ Int)(x1:Int):Prop:=((P84 x0)/\((P28 [Ok x0] x1)/\True))
def XG(x0:Γ Int)(x1:Int):Γ Δ:=FA [Ok x0] x1
def bBe:KK:=mB Tryz.func25 [.v (.sl Jy),.v (.int .i64)] [.sl .str] [bMu,aQ9] P25 (XG,()) λ_=>aO<|aO pr
def FB(x0:b6)(x1:b6):Bool:=if mZ eY (↑(yB (gD 64 x0.2.1 &&& gD 64 x1.2.1)):Int)==x1.2.1 then decide (x0.2.2.1<=x1.2.2.1)else false
def bBf:KK:=mB Tryz.func89 [.p eC,.p eC] [.bool] [] nP (FB,()) λ_=>fP pr pr
end
def kLp(rec:Γ Int->Γ Bool->Int->Bool×Γ Int×Γ Bool)(c:Nat->Bool)(t:Int):Nat->Nat->Γ Int->Γ Bool->Bool×Γ Int×Γ Bool
 | 0,_,o,s=>(false,o,s)
 | k+1,h,o,s=>if s.getD h false=true\/c h=false then kLp rec c t k (h+1) o s else
  if o.getD h 0<0 then(true,o.set h t,s.set h true)else
  let r:=rec o (s.set h true) (o.getD h 0)
  if r.1=true then(true,r.2.1.set h t,r.2.2)else kLp rec c t k (h+1) r.2.1 r.2.2
def kGv(c:Nat->Nat->Bool)(n:Nat):Nat->Γ Int->Γ Bool->Int->Bool×Γ Int×Γ Bool
 | 0,o,s,_=>(false,o,s)
 | f+1,o,s,t=>kLp (kGv c n f) (λh=>c h t.toNat) t n 0 o s
theorem aUa{α}(l:Γ α)(a j:Nat)(v d:α)(h:a<l.length):(l.set a v).getD j d=if a=j then v else l.getD j d:=by
 grind
def aUb(x v:Int):∀(l:Γ Int) (a:Nat),a<l.length->(l.set a v).count x+(if l.getD a 0=x then 1 else 0)=l.count x+(if v=x then 1 else 0)
 | [],a,h=>by grind
 | y::l,0,_=>by
  grind
 | y::l,a+1,h=>by
  grind
def vV(s:Γ Bool):Nat:=s.count false
theorem NI:∀(s:Γ Bool) (a:Nat),a<s.length->s.getD a false=false->vV (s.set a true)+1=vV s
 | [],a,h,_=>by grind
 | y::s,0,_,e=>by
  obtain rfl:y=false:=e;simp[vV]
 | y::s,a+1,h,e=>by
  have:=NI s a (by simpa using h) e;show (y::s.set a true).count false+1=(y::s).count false;unfold vV at this;rw[Hm,Hm];omega
structure KOk (c:Nat->Nat->Bool) (n:Nat) (o:Γ Int) (s:Γ Bool) (t:Int) (P:Nat->Prop) (r:Bool×Γ Int×Γ Bool):Prop where
 lo:r.2.1.length=n
 ls:r.2.2.length=n
 up:∀h:Nat,s.getD h false=true->r.2.2.getD h false=true
 less:vV r.2.2<=vV s
 no:r.1=false->r.2.1=o/\(∀h:Nat,P h->h<n->c h t.toNat=true->r.2.2.getD h false=true)/\∀h:Nat,h<n->r.2.2.getD h false=true->s.getD h false=true\/(0<=o.getD h 0/\∀j:Nat,j<n->c j (o.getD h 0).toNat=true->r.2.2.getD j false=true)
 yes:r.1=true->(∀h:Nat,s.getD h false=true->r.2.1.getD h 0=o.getD h 0)/\(∀x:Int,0<=x->r.2.1.count x=o.count x+if t=x then 1 else 0)/\∀h:Nat,h<n->r.2.1.getD h 0=o.getD h 0\/(0<=r.2.1.getD h 0/\c h (r.2.1.getD h 0).toNat=true)
variable {c:Nat->Nat->Bool}
theorem bBg{n f:Nat}{t:Int}(ht:0<=t)(ih:∀(o:Γ Int) (s:Γ Bool) (t:Int),0<=t->o.length=n->s.length=n->vV s<f->KOk c n o s t (λ_=>True) (kGv c n f o s t)) :
  ∀(k h:Nat) (o:Γ Int) (s:Γ Bool),h+k=n->o.length=n->s.length=n->vV s<f+1->KOk c n o s t (λj=>h<=j) (kLp (kGv c n f) (λh=>c h t.toNat) t k h o s):=by
 intro k
 induction k with
 | zero =>
  intro h o s hk ho hs hu;exact⟨ho,hs,λ_ h=>h,aT _,λ_=>⟨rfl,λj hj hn=>by lia,λj _ hj => .inl hj⟩,λe=>by cases e⟩
 | succ k ihk =>
  intro h o s hk ho hs hu;rw[kLp];by_cases c1:s.getD h false=true\/c h t.toNat=false
  ·rw[π c1];have q:=ihk (h+1) o s (by lia) ho hs hu;refine⟨q.lo,q.ls,q.up,q.less,λe=>⟨(q.no e).1,λj hj hn hc=>?_,(q.no e).2.2⟩,q.yes⟩;by_cases e2:j=h
   ·subst e2;rcases c1 with c1 | c1
    ·exact q.up _ c1
    lia
   ·exact(q.no e).2.1 j (by lia) hn hc
  ·rw[ν c1];have c2:s.getD h false=false/\c h t.toNat=true:=by
    lia
   have us:=NI s h (by lia) c2.1;have ls:(s.set h true).length=n:=by grind
   have up:∀j:Nat,s.getD j false=true->(s.set h true).getD j false=true:=λj hj=>by
    grind
   by_cases c3:o.getD h 0<0
   ·rw[π c3];refine⟨by grind,ls,up,by lia,λe=>(by lia),λ_=>⟨λj hj=>?_,λx hx=>?_,λj hj=>?_⟩⟩
    all_goals grind
   ·rw[ν c3];have q:=ih o (s.set h true) (o.getD h 0) (by lia) ho ls (by lia);generalize kGv c n f o (s.set h true) (o.getD h 0)=r at *;have rs:r.2.2.getD h false=true:=q.up h (by grind);by_cases c4:r.1=true
    ·show KOk c n o s t _ (if r.1=true then _ else _);rw[π c4];obtain⟨y1,y2,y3⟩:=q.yes c4;have gh:r.2.1.getD h 0=o.getD h 0:=y1 h (by grind);refine⟨by show (r.2.1.set h t).length=n;rw[iR];exact q.lo,q.ls,λj hj=>q.up j (up j hj),by show vV r.2.2<=_;have:=q.less;lia,λe=>(by lia),λ_=>⟨λj hj=>?_,λx hx=>?_,λj hj=>?_⟩⟩
     ·grind
     ·have:=aUb x t r.2.1 h (by rw[q.lo];lia)
      grind
     ·rw[aUa r.2.1 h j t 0 (by rw[q.lo];lia)]
      grind
    ·show KOk c n o s t _ (if r.1=true then _ else _);rw[ν c4];obtain⟨n1,n2,n3⟩:=q.no (cG.2 c4);have ql:=q.less;have p:=ihk (h+1) r.2.1 r.2.2 (by lia) q.lo q.ls (by lia);rw[n1]at p ⊢;refine⟨p.lo,p.ls,λj hj=>p.up j (q.up j (up j hj)),by have:=p.less;lia,λe=>?_,λe=>?_⟩
     ·obtain⟨m1,m2,m3⟩:=p.no e;refine⟨m1,λj hj hn hc=>?_,λj hn hj=>?_⟩
      ·by_cases e2:j=h
       ·subst e2;exact p.up _ rs
       grind
      ·rcases m3 j hn hj with a | a
       ·rcases n3 j hn a with b | b
        ·by_cases e2:h=j
         ·subst e2;exact .inr ⟨by lia,λi hi hc=>p.up i (n2 i trivial hi hc)⟩
         grind
        ·exact .inr ⟨b.1,λi hi hc=>p.up i (b.2 i hi hc)⟩
       lia
     ·obtain⟨m1,m2,m3⟩:=p.yes e;exact⟨λj hj=>m1 j (q.up j (up j hj)),m2,m3⟩
theorem aBN(c:Nat->Nat->Bool)(n:Nat):∀(f:Nat) (o:Γ Int) (s:Γ Bool) (t:Int),0<=t->o.length=n->s.length=n->vV s<f->KOk c n o s t (λ_=>True) (kGv c n f o s t)
 | 0,o,s,t,_,_,_,h=>absurd h (Hc _)
 | f+1,o,s,t,ht,ho,hs,h=>by
  have q:=bBg (f:=f) ht (aBN c n f) n 0 o s (by lia) ho hs h;exact⟨q.lo,q.ls,q.up,q.less,λe=>⟨(q.no e).1,λj _=>(q.no e).2.1 j (bG _),(q.no e).2.2⟩,q.yes⟩
theorem Tw{α}[BEq α][LawfulBEq α]:∀(l m:Γ α),l.Nodup->(∀x∈l,x∈m)->l.length<=m.length
 | [],m,_,_=>bG _
 | a::l,m,hd,h=>by
  obtain⟨h1,h2⟩:=jJ.1 hd;have:=Tw l (m.erase a) h2 (λx hx=>(List.mem_erase_of_ne (λe=>h1 (by lia))).2 (h x (aM _ hx)))
  grind
def Fl(c:Nat->Nat->Bool)(n:Nat):Nat->Nat->Γ Int->Prop
 | 0,_,_=>True
 | k+1,t,u=>∃h:Nat,h<n/\(h:Int) ∉ u/\c h t=true/\Fl c n k (t+1) (u++[(h:Int)])
theorem aWP{c:Nat->Nat->Bool}{n:Nat}:∀ {k t:Nat} {u:Γ Int},Fl c n k t u->∃g:Nat->Nat,∀i,t<=i->i<t+k->g i<n/\((g i:Nat):Int) ∉ u/\c (g i) i=true/\∀j,t<=j->j<t+k->g i=g j->i=j
 | 0,t,u,_=>⟨λ_=>0,λi h1 h2=>by lia⟩
 | k+1,t,u,⟨h,h1,h2,h3,h4⟩=>by
  obtain⟨g,hg⟩:=aWP h4;refine⟨λi=>if i=t then h else g i,λi a b=>?_⟩
  grind
structure Mt (c:Nat->Nat->Bool) (n t:Nat) (o:Γ Int):Prop where
 len:o.length=n
 one:∀x:Int,0<=x->o.count x=if x<(t:Int)then 1 else 0
 can:∀h:Nat,h<n->0<=o.getD h 0->c h (o.getD h 0).toNat=true
theorem aAw{x:Int}:∀ {o:Γ Int} {i j:Nat},o.count x<=1->i<o.length->j<o.length->o.getD i 0=x->o.getD j 0=x->i=j
 | [],i,j,_,h,_,_,_=>by grind
 | y::o,i,j,h,hi,hj,a,b=>by
  rw[Hm]at h;cases i with
  | zero =>
   grind
  | succ i =>
   cases j with
   | zero =>
    grind
   | succ j=>rw[aAw (o:=o) (i:=i) (j:=j) (by omega) (by simpa using hi) (by simpa using hj) a b]
theorem bIj{n T t:Nat}{o:Γ Int}{u:Γ Bool}(hm:Mt c n t o)(ht:t<T)(hc:∀h:Nat,h<n->c h t=true->u.getD h false=true)
  (ho:∀h:Nat,h<n->u.getD h false=true->0<=o.getD h 0/\∀j:Nat,j<n->c j (o.getD h 0).toNat=true->u.getD j false=true):¬Fl c n T 0 []:=by
 intro hf;obtain⟨g,hg⟩:=aWP hf
 let S:Γ Nat:=(Gp n).filter λh=>u.getD h false
 have hS:∀h,h∈S↔h<n/\u.getD h false=true:=λh=>by grind
 have hlt:∀h∈S,(o.getD h 0).toNat<t:=λh hh=>by
  obtain⟨a,b⟩:=(hS h).1 hh;have h0:=(ho h a b).1;have hp:0<o.count (o.getD h 0):=by
   rw[bC,aX (by rw[hm.len];lia)];simp
  rw[hm.one _ h0]at hp
  lia
 have hnd:S.Nodup:=Ry.filter _;have key:=Tw ((t::S.map λh=>(o.getD h 0).toNat).map g) S ?_ ?_
 ·grind
 ·have n2:(t::S.map λh=>(o.getD h 0).toNat).Nodup:=by
   rw[jJ];refine⟨λhi=>?_,?_⟩
   ·grind
   ·refine Ph.2 (List.Pairwise.imp_of_mem ?_ hnd);intro a b ha hb' hne e;obtain⟨a1,a2⟩:=(hS a).1 ha;obtain⟨b1,b2⟩:=(hS b).1 hb';have pa:=(ho a a1 a2).1;have pb:=(ho b b1 b2).1;refine hne (aAw (x:=o.getD a 0) (o:=o) ?_ (by rw[hm.len];lia) (by rw[hm.len];lia) rfl (by lia));rw[hm.one _ pa];lia
  refine Ph.2 (List.Pairwise.imp_of_mem ?_ n2)
  grind
 grind
theorem bBh{n:Nat}{o:Γ Int}{s:Γ Bool}{t T:Int}{P:Nat->Prop}{r:Bool×Γ Int×Γ Bool}(q:KOk c n o s t P r)(ht:0<=t/\t<T)(ho:∀h:Nat,o.getD h 0<T)(h:Nat):r.2.1.getD h 0<T:=by
 cases e:r.1 with
 | false=>rw[(q.no e).1];grind
 | true =>
  by_cases hl:h<r.2.1.length
  ·by_cases h0:r.2.1.getD h 0<0
   ·lia
   ·have hc:=(q.yes e).2.1 (r.2.1.getD h 0) (by lia);have hp:0<r.2.1.count (r.2.1.getD h 0):=by
     grind
    by_cases ex:t=r.2.1.getD h 0
    ·lia
    ·obtain⟨j,hj,ej⟩:=pG (qU.1 (show 0<o.count (r.2.1.getD h 0)by lia));have:=ho j
     grind
  grind
def kMs(c:Nat->Nat->Bool)(n:Nat):Nat->Nat->Γ Int->Int->Int
 | 0,_,_,m=>m
 | k+1,t,o,m=>let r:=kGv c n 2000 o (aQ n false) (t:Int)
  kMs c n k (t+1) r.2.1 (if r.1=true then m+1 else m)
theorem aJ2(c:Nat->Nat->Bool)(n:Nat):∀(k t:Nat) (o:Γ Int) (m:Int),kMs c n k t o m<=m+k
 | 0,_,_,m=>by simp[kMs]
 | k+1,t,o,m=>by
  refine Int.le_trans (aJ2 c n k _ _ _) ?_
  lia
theorem aWQ{c:Nat->Nat->Bool}{n T:Nat}{o:Γ Int}(hm:Mt c n T o):∀(k t:Nat) (u:Γ Int),t+k=T->(∀h:Nat,(h:Int)∈u->0<=o.getD h 0/\o.getD h 0<(t:Int))->Fl c n k t u
 | 0,_,_,_,_=>trivial
 | k+1,t,u,ht,hu=>by
  have h1:0<o.count (t:Int):=by rw[hm.one _ (by lia)];lia
  obtain⟨h,hh,e⟩:=pG (qU.1 h1);have eg:o.getD h 0=(t:Int):=by grind
  rw[hm.len]at hh;have:=hm.can h hh (by lia);rw[eg]at this;refine⟨h,hh,λhm'=>?_,this,aWQ hm k (t+1) _ (by lia) λj hj=>?_⟩
  ·grind
  ·rcases cY.1 hj with hj | hj
   ·grind
   ·obtain rfl:j=h:=by grind
    lia
theorem aKZ{c:Nat->Nat->Bool}{n T:Nat}(hn:n<2000):∀(k t:Nat) (o:Γ Int) (m:Int),t+k=T->Mt c n t o->(kMs c n k t o m=m+k↔Fl c n T 0 [])
 | 0,t,o,m,ht,hm=>by
  grind [aWQ,kMs]
 | k+1,t,o,m,ht,hm=>by
  have q:=aBN c n 2000 o (aQ n false) (t:Int) (by lia) hm.len (by simp) (by grind [vV]);rw[kMs];generalize kGv c n 2000 o (aQ n false) (t:Int)=r at *;by_cases e:r.1=true
  ·obtain⟨y1,y2,y3⟩:=q.yes e;rw[π e,show m+((k+1:Nat):Int)=m+1+(k:Int)by lia];refine aKZ hn k (t+1) r.2.1 (m+1) (by lia) ⟨q.lo,λx hx=>?_,λh hh h0=>?_⟩
   ·rw[y2 x hx,hm.one x hx]
    lia
   ·rcases y3 h hh with e2 | e2
    ·rw[e2]at h0 ⊢;exact hm.can h hh h0
    lia
  ·obtain⟨n1,n2,n3⟩:=q.no (cG.2 e);have:=aJ2 c n k (t+1) r.2.1 m;refine⟨λh=>by lia,λh=>absurd h (bIj (u:=r.2.2) hm (by lia) (λj hj hc=>n2 j trivial hj (by grind)) λj hj hs=>?_)⟩
   grind
theorem aQA(c:Nat->Nat->Bool){n:Nat}(hn:n<2000)(T:Nat):kMs c n T 0 (aQ n (-1)) 0=(T:Int)↔Fl c n T 0 []:=by
 have:=aKZ (c:=c) (T:=T) hn T 0 (aQ n (-1)) 0 (by lia) ⟨by simp,λx hx=>by
  grind,λh hh h0=>by
  grind⟩
 lia
noncomputable section
def wI(x0 x1:Γ Sg)(h t:Nat):Bool:=FB (x0.getD h (aC,0,0,())) (x1.getD t (aC,0,0,()))
def sX(k:Nat)(x0 x1:Γ Sg)(x2:Γ Int)(x3:Γ Bool)(x4:Int):Bool×Γ Int×Γ Bool:=kGv (wI x0 x1) x0.length k x2 x3 x4
def aQB(k:Nat)(x0 x1:Γ Sg)(x2:Γ Int)(x3:Γ Bool)(x4:Int):Prop:=x2.length=x0.length/\x3.length=x0.length/\vV x3<k/\(0<=x4/\x4<(x1.length:Int))/\(∀h:Nat,x2.getD h 0<(x1.length:Int))/\x0.length<=1000
def aAx(k:Nat):Am.Spec:={ sig:=[AT.v (.sl eC),AT.v (.sl eC),AT.own (.int .i64),AT.own .bool,AT.v (.int .i64)],pre:=λ⟨x0,x1,x2,x3,x4,_⟩=>aQB k x0 x1 x2 x3 x4,upd:=λ⟨x0,x1,x2,x3,x4,_⟩=>[some ⟨.int .i64,(sX k x0 x1 x2 x3 x4).2.1⟩,some ⟨.bool,(sX k x0 x1 x2 x3 x4).2.2⟩],res:=λ⟨x0,x1,x2,x3,x4,_⟩=>[⟨.bool,(sX k x0 x1 x2 x3 x4).1⟩] }
def aQC(kk:Nat):A7:=[(89,bBf.S),(197,aAx kk)]
def aQD(kk:Nat)(ih:Con aL 197 (aAx kk)):q8 aL (aQC kk):=⟨bBf.h,ih,trivial⟩
def bBi:Γ AT:=[AT.v (.sl eC),AT.v (.sl eC),AT.own (.int .i64),AT.own .bool,AT.v (.int .i64)]
def bBj(kk:Nat):jB:=⟨197,Tryz.f197,bBi,[.bool],[],aQC kk,false,[]⟩
def bMy(kk:Nat)(ih:Con aL 197 (aAx kk)):Fok aL tab (bBj kk):=⟨aDU,xE,(aQD kk ih),mixed⟩
def bBk(v11:Int)(x0:Γ b6)(x1:Γ b6)(x4:Int)(x2:Γ Int)(x3:Γ Bool):gK×bM:=([eL 0 eC x0,eL 1 eC x1,eW 2 0,eW 3 1,eI 4 x4,eI 11 v11],[cN (.int .i64) x2,cN .bool x3])
mutual
def bIk(kk:Nat):Nat->Γ b6->Γ b6->Γ Int->Γ Bool->Int->Γ aS->Γ (Option jC)->Prop
 | 0,_,_,_,_,_,_,_=>False
 | n+1,x0,x1,x2,x3,x4,ds,us=>(Ja kk n (0) (x0) (x1) (x4) (x2) (x3) ds us)
def Ja(kk:Nat):Nat->Int->Γ b6->Γ b6->Int->Γ Int->Γ Bool->Γ aS->Γ (Option jC)->Prop
 | 0,_,_,_,_,_,_,_,_=>False
 | n+1,v11,x0,x1,x4,x2,x3,ds,us=>(if decide (v11<(x0.length:Int))=true then((0<=v11)/\(v11<(x3.length:Int))/\(if aD x3 (aE v11) false=true then((bA .i64 (v11+1))/\(Ja kk n (v11+1) (x0) (x1) (x4) (x2) (x3) ds us))else((0<=v11)/\(v11<(x0.length:Int))/\((0<=x4)/\(x4<(x1.length:Int))/\(if(!FB (aD x0 (aE v11) (aC,0,0,())) (aD x1 (aE x4) (aC,0,0,())))=true then((bA .i64 (v11+1))/\(Ja kk n (v11+1) (x0) (x1) (x4) (x2) (x3) ds us))else((0<=v11)/\(v11<(x3.length:Int))/\((0<=v11)/\(v11<(x2.length:Int))/\(if decide (aD x2 (aE v11) 0<0)=true then((0<=v11)/\(v11<(x2.length:Int))/\(ds=[aJ .bool true]/\us=[some (fO (.int .i64) (fF x2 (aE v11) x4)),some (fO .bool (fF x3 (aE v11) true))]))else((0<=v11)/\(v11<(x2.length:Int))/\(((aAx kk).2 (x0,x1,x2,fF x3 (aE v11) true,aD x2 (aE v11) 0,()))/\(aF (sX kk x0 x1 x2 (fF x3 (aE v11) true) (aD x2 (aE v11) 0)).2.1=aF x2)/\(aF (sX kk x0 x1 x2 (fF x3 (aE v11) true) (aD x2 (aE v11) 0)).2.2=aF (fF x3 (aE v11) true))/\(if(sX kk x0 x1 x2 (fF x3 (aE v11) true) (aD x2 (aE v11) 0)).1=true then((0<=v11)/\(v11<(↑(aF (sX kk x0 x1 x2 (fF x3 (aE v11) true) (aD x2 (aE v11) 0)).2.1):Int))/\(ds=[aJ .bool true]/\us=[some (fO (.int .i64) (fF (sX kk x0 x1 x2 (fF x3 (aE v11) true) (aD x2 (aE v11) 0)).2.1 (aE v11) x4)),some (fO .bool (sX kk x0 x1 x2 (fF x3 (aE v11) true) (aD x2 (aE v11) 0)).2.2)]))else((bA .i64 (v11+1))/\(Ja kk n (v11+1) (x0) (x1) (x4) (sX kk x0 x1 x2 (fF x3 (aE v11) true) (aD x2 (aE v11) 0)).2.1 (sX kk x0 x1 x2 (fF x3 (aE v11) true) (aD x2 (aE v11) 0)).2.2 ds us)))))))))))))else(ds=[aJ .bool false]/\us=[some (fO (.int .i64) x2),some (fO .bool x3)]))
end
theorem bBl(kk:Nat)(ds:Γ aS)(us:Γ (Option jC))(K:gU)(q:Nat->Value):∀n,(∀ {x0 x1 x2 x3 x4},bIk kk n x0 x1 x2 x3 x4 ds us->St (bBj kk) (x0,x1,x2,x3,x4,()) ds us K q)/\(∀ {v11 x0 x1 x4 x2 x3},Ja kk n v11 x0 x1 x4 x2 x3 ds us->Cu (bBj kk) 2 (bBk v11 x0 x1 x4 x2 x3) ds us K q):=by
 intro n
 induction n with
 | zero=>exact⟨λh=>h.elim,λh=>h.elim⟩
 | succ n ih =>
 obtain⟨i,i2⟩:=ih;exact⟨λh=>jp (i2 h),
  λh=>bR h (λh=>c2 h λh=>bR h (λh=>tT<|c1 h λh=>jp (i2 h)) λh=>c2 h λh=>c2 h λh=>tv<|bR h (λh=>c1 h λh=>jp (i2 h)) λh=>c2 h λh=>c2 h λh=>bR h (λh=>tT<|c2 h λh=>ru h) λh=>c2 h λh=>c3 h λh=>bR h (λh=>c2 h λh=>ru h) λh=>c1 h λh=>jp (i2 h)) λh=>ru h⟩
def bBm(r:Bool×Γ Int×Γ Bool):Γ (Option jC):=[some ⟨.int .i64,r.2.1⟩,some ⟨.bool,r.2.2⟩]
theorem bBn(kk:Nat)(x0 x1:Γ Sg)(x4:Int)(h4:0<=x4/\x4<(x1.length:Int))(h5:x0.length<=1000):∀(k i:Nat) (o:Γ Int) (s:Γ Bool),i+k=x0.length->o.length=x0.length->s.length=x0.length->vV s<kk+1->(∀h:Nat,o.getD h 0<(x1.length:Int)) ->
  Ja kk (k+1) (i:Int) x0 x1 x4 o s [⟨.bool,(kLp (kGv (wI x0 x1) x0.length kk) (λh=>wI x0 x1 h x4.toNat) x4 k i o s).1⟩] (bBm (kLp (kGv (wI x0 x1) x0.length kk) (λh=>wI x0 x1 h x4.toNat) x4 k i o s)):=by
 intro k
 induction k with
 | zero =>
  intro i o s hi ho hs hu hb;rw[Ja,ν (by simp only[ε];omega)];exact⟨rfl,rfl⟩
 | succ k ih =>
  intro i o s hi ho hs hu hb;have e3:(i:Int)+1=((i+1:Nat):Int):=by omega
  have ii:bA .i64 ((i+1:Nat):Int):=by rw[aK];omega
  rw[Ja,π (by simp only[ε];omega),e3,aI];refine⟨by omega,by omega,?_⟩;rw[kLp];by_cases c1:s.getD i false=true
  ·simp only[π c1,π (show s.getD i false=true\/wI x0 x1 i x4.toNat=false from .inl c1)];exact⟨ii,ih (i+1) o s (by omega) ho hs hu hb⟩
  ·refine(ν c1).mpr ⟨by omega,by omega,h4.1,h4.2,?_⟩;by_cases c2:wI x0 x1 i x4.toNat=true
   ·have c2':¬(!FB (x0.getD i (aC,0,0,())) (x1.getD x4.toNat (aC,0,0,())))=true:=by
     rw[show FB (x0.getD i (aC,0,0,())) (x1.getD x4.toNat (aC,0,0,()))=true from c2];decide
    have cs:s.getD i false=false:=Dm c1;simp only[ν (show ¬(s.getD i false=true\/wI x0 x1 i x4.toNat=false)from λh=>h.elim c1 (λh=>by rw[c2]at h;cases h))];refine(ν c2').mpr ⟨by omega,by omega,by omega,by omega,?_⟩;by_cases c3:o.getD i 0<0
    ·simp only[π c3];exact(π (decide_eq_true c3)).mpr ⟨by omega,by omega,trivial,rfl⟩
    ·simp only[ν c3];have us:=NI s i (by omega) cs;have q:=aBN (wI x0 x1) x0.length kk o (s.set i true) (o.getD i 0) (by omega) ho (by rw[iR];exact hs) (by omega);refine(ν (by simpa using c3)).mpr ⟨by omega,by omega,?_,?_,?_,?_⟩
     ·exact⟨ho,by rw[iR];exact hs,by omega,⟨by omega,hb i⟩,hb,h5⟩
     ·exact q.lo.trans ho.symm
     ·exact q.ls.trans (by rw[iR];exact hs.symm)
     ·unfold sX;generalize kGv (wI x0 x1) x0.length kk o (s.set i true) (o.getD i 0)=r at *;by_cases c4:r.1=true
      ·simp only[π c4];exact⟨by omega,by rw[q.lo];omega,trivial,rfl⟩
      ·simp only[ν c4];obtain⟨n1,_⟩:=q.no (Dm c4);have:=q.less;refine⟨ii,ih (i+1) r.2.1 r.2.2 (by omega) q.lo q.ls (by omega) (by rw[n1];exact hb)⟩
   ·have c2f:=Dm c2;have c2':(!FB (x0.getD i (aC,0,0,())) (x1.getD x4.toNat (aC,0,0,())))=true:=by
     rw[show FB (x0.getD i (aC,0,0,())) (x1.getD x4.toNat (aC,0,0,()))=false from c2f]<;>rfl
    simp only[π (show s.getD i false=true\/wI x0 x1 i x4.toNat=false from .inr c2f)];exact(π c2').mpr ⟨ii,ih (i+1) o s (by omega) ho hs hu hb⟩
theorem aLb:∀k,Con aL 197 (aAx k)
 | 0=>AJ aDU λw G G0 ⟨x0,x1,x2,x3,x4,_⟩ vs bss _ _ _ hp=>by
  obtain⟨_,_,h,_⟩:aQB 0 x0 x1 x2 x3 x4:=hp;omega
 | k+1=>mkC (bMy k (aLb k)) λ⟨x0,x1,x2,x3,x4,_⟩ h hwf K q=>by
  obtain⟨h1,h2,h3,h4,h5,h6⟩:aQB (k+1) x0 x1 x2 x3 x4:=h;have hs:=λds us=>bBl k ds us K q (x0.length+1+1);exact(hs _ _).1 (by rw[bIk];exact bBn k x0 x1 x4 h4 h6 x0.length 0 x2 x3 (bX _) h1 h2 h3 h5)
def aUc:Am.Spec:=aAx 2000
def bBo:S0 197 aUc:=aLb 2000
def bIl:KK:=⟨197,aUc,bBo⟩
def d87:jB:=D0 aH0 [.v (.sl eC),.v (.sl eC),.v (.int .i64)] [.int .i64] [bIl]
mutual
def R87:Nat->Γ b6->Γ b6->Int->Γ aS->Prop
 | 0,_,_,_,_=>False
 | n+1,x0,x1,x2,ds=>XH n 0 ([]) x0 x1 x2 ds
def XH:Nat->Int->Γ Int->Γ b6->Γ b6->Int->Γ aS->Prop
 | 0,_,_,_,_,_,_=>False
 | n+1,v8,h0,x0,x1,x2,ds=>if decide (v8<(x0.length:Int))then(aF h0+1)*8<=140737488355328/\bA .i64 (v8+1)/\XH n (v8+1) (h0++[-1]) x0 x1 x2 ds else LU n 0 0 h0 x0 x1 x2 ds
def LU:Nat->Int->Int->Γ Int->Γ b6->Γ b6->Int->Γ aS->Prop
 | 0,_,_,_,_,_,_,_=>False
 | n+1,v9,v10,h0,x0,x1,x2,ds=>if decide (v10<(x1.length:Int))then 0<=(x0.length:Int)/\(x0.length:Int)<=(x0.length:Int)/\1*(x0.length:Int)<=281474976710656/\if decide (x2>=0)then 0<=x2/\x2<(↑(aF (aQ (aE (x0.length:Int)) false)):Int)/\aUc.2 (x0,x1,h0,fF (aQ (aE (x0.length:Int)) false) (aE x2) true,v10,())/\aF (sX 2000 x0 x1 h0 (fF (aQ (aE (x0.length:Int)) false) (aE x2) true) v10).2.1=aF h0/\aF (sX 2000 x0 x1 h0 (fF (aQ (aE (x0.length:Int)) false) (aE x2) true) v10).2.2=aF (fF (aQ (aE (x0.length:Int)) false) (aE x2) true)/\if(sX 2000 x0 x1 h0 (fF (aQ (aE (x0.length:Int)) false) (aE x2) true) v10).1 then bA .i64 (v9+1)/\bA .i64 (v10+1)/\LU n (v9+1) (v10+1) (sX 2000 x0 x1 h0 (fF (aQ (aE (x0.length:Int)) false) (aE x2) true) v10).2.1 x0 x1 x2 ds else bA .i64 (v10+1)/\LU n v9 (v10+1) (sX 2000 x0 x1 h0 (fF (aQ (aE (x0.length:Int)) false) (aE x2) true) v10).2.1 x0 x1 x2 ds else aUc.2 (x0,x1,h0,aQ (aE (x0.length:Int)) false,v10,())/\aF (sX 2000 x0 x1 h0 (aQ (aE (x0.length:Int)) false) v10).2.1=aF h0/\aF (sX 2000 x0 x1 h0 (aQ (aE (x0.length:Int)) false) v10).2.2=aF (aQ (aE (x0.length:Int)) false)/\if(sX 2000 x0 x1 h0 (aQ (aE (x0.length:Int)) false) v10).1 then bA .i64 (v9+1)/\bA .i64 (v10+1)/\LU n (v9+1) (v10+1) (sX 2000 x0 x1 h0 (aQ (aE (x0.length:Int)) false) v10).2.1 x0 x1 x2 ds else bA .i64 (v10+1)/\LU n v9 (v10+1) (sX 2000 x0 x1 h0 (aQ (aE (x0.length:Int)) false) v10).2.1 x0 x1 x2 ds else ds=[aJ (.int .i64) v9]
end
def bIm(ds:Γ aS)(K:gU)(q:Nat->Value):∀n,(∀ {x0 x1 x2},R87 n x0 x1 x2 ds->St d87 (x0,x1,x2,()) ds [] K q)/\(∀ {v8 h0 x0 x1 x2},XH n v8 h0 x0 x1 x2 ds->Cu d87 3 ([eL 0 eC x0,eL 1 eC x1,eI 2 x2,eW 7 0,eI 8 v8],[cN (.int .i64) h0]) ds [] K q)/\(∀ {v9 v10 h0 x0 x1 x2},LU n v9 v10 h0 x0 x1 x2 ds->Cu d87 8 ([eL 0 eC x0,eL 1 eC x1,eI 2 x2,eW 7 0,eI 9 v9,eI 10 v10],[cN (.int .i64) h0]) ds [] K q):=nI ⟨aH,aH,aH⟩ λn ⟨i,i3,i8⟩=>⟨cX i3,
  bU (aO<|aO<|cX i3)<|cX i8,
  bU (pc3<|bU (eE<|pc3<|bU (aO<|aO<|cX i8)<|aO<|cX i8)<|pc3<|bU (aO<|aO<|cX i8)<|aO<|cX i8) dR⟩
def Su(x0 x1:Γ Sg)(x2:Int):Int:=kMs (wI x0 x1) x0.length x1.length 0 (aQ x0.length (-1)) 0
def P87(x0 x1:Γ Sg)(x2:Int):Prop:=x2 = -1/\x0.length<=1000/\x1.length<=1000
theorem bIn(x0 x1:Γ Sg)(h0:x0.length<=1000)(h1:x1.length<=1000):∀(k t:Nat) (o:Γ Int) (m:Int),t+k=x1.length->o.length=x0.length->(∀h:Nat,o.getD h 0<(x1.length:Int)\/k=0)->(0<=m/\m<=(t:Int)) ->
  LU (k+1) m (t:Int) o x0 x1 (-1) [⟨.int .i64,kMs (wI x0 x1) x0.length k t o m⟩]:=by
 intro k
 induction k with
 | zero =>
  intro t o m ht ho hb hm;rw[LU,ν (by simp only[ε];omega)]<;>rfl
 | succ k ih =>
  intro t o m ht ho hb hm;have e3:(t:Int)+1=((t+1:Nat):Int):=by omega
  have hb:∀h:Nat,o.getD h 0<(x1.length:Int):=λh=>(hb h).resolve_right (by omega);have hu:vV (aQ x0.length false)<2000:=by simp[vV];omega
  have q:=aBN (wI x0 x1) x0.length 2000 o (aQ x0.length false) (t:Int) (by omega) ho (by simp) hu;have bd:=bBh (T:=(x1.length:Int)) q ⟨by omega,by omega⟩ hb;rw[LU,π (by simp only[ε];omega),e3,aI];refine⟨by omega,by omega,by omega,?_⟩;rw[ν (by decide),kMs];refine⟨⟨ho,by simp,hu,⟨by omega,by omega⟩,hb,h0⟩,q.lo.trans ho.symm,q.ls.trans (by simp),?_⟩;unfold sX;generalize kGv (wI x0 x1) x0.length 2000 o (aQ x0.length false) (t:Int)=r at *;by_cases c:r.1=true
  ·simp only[π c];exact⟨by rw[aK];omega,by rw[aK];omega,ih (t+1) r.2.1 (m+1) (by omega) q.lo (λh => .inl (bd h)) (by omega)⟩
  ·simp only[ν c];exact⟨by rw[aK];omega,ih (t+1) r.2.1 m (by omega) q.lo (λh => .inl (bd h)) (by omega)⟩
theorem bIo(x0 x1:Γ Sg)(h0:x0.length<=1000)(h1:x1.length<=1000)(ds:Γ aS)(n:Nat)(hr:LU n 0 0 (aQ x0.length (-1)) x0 x1 (-1) ds):∀(k i:Nat),i+k=x0.length->XH (n+k+1) (i:Int) (aQ i (-1)) x0 x1 (-1) ds:=by
 intro k
 induction k with
 | zero =>
  intro i hi;obtain rfl:i=x0.length:=by omega
  rw[iX,XH,ν (by simp only[ε];omega)];exact hr
 | succ k ih =>
  intro i hi;show XH (n+k+1+1) _ _ _ _ _ _;rw[XH,π (by simp only[ε];omega)];have:=ih (i+1) (by omega);rw[List.replicate_succ']at this;exact⟨by rw[rN];omega,by rw[aK];omega,this⟩
def bMz:KK:=mL d87 (DO aH0) P87 (Su,()) (λ⟨x0,x1,x2,_⟩ h hwf K q =>
 have h:P87 x0 x1 x2:=h
 (bIm _ K q ((x1.length+1+x0.length+1+1))).1 (by
  rw[R87,h.1];refine bIo x0 x1 h.2.1 h.2.2 _ (x1.length+1) (bIn x0 x1 h.2.1 h.2.2 x1.length 0 _ 0 (by omega) (by simp) (λj=>?_) ⟨dO _,dO _⟩) x0.length 0 (bX _);by_cases c:x1.length=0
  ·exact .inr c
  ·left;rw[bC,List.getElem?_replicate];split
   ·show (-1:Int)<_;omega
   ·show (0:Int)<_;omega))
def d88:jB:=D0 aH1 [.v (.sl Jy),.v (.int .i64)] [.bool] []
mutual
def R88:Nat->Γ Int->Int->Γ aS->Prop
 | 0,_,_,_=>False
 | n+1,x0,x1,ds=>XI n 0 x0 x1 ds
def XI:Nat->Int->Γ Int->Int->Γ aS->Prop
 | 0,_,_,_,_=>False
 | n+1,v5,x0,x1,ds=>if decide (v5<(x0.length:Int))then 0<=v5/\v5<(x0.length:Int)/\if aD x0 (aE v5) 0==x1 then ds=[aJ .bool true] else bA .i64 (v5+1)/\XI n (v5+1) x0 x1 ds else ds=[aJ .bool false]
end
def bIp(ds:Γ aS)(K:gU)(q:Nat->Value):∀n,(∀ {x0 x1},R88 n x0 x1 ds->St d88 (x0,x1,()) ds [] K q)/\(∀ {v5 x0 x1},XI n v5 x0 x1 ds->Cu d88 2 ([eL 0 (.int .i64) x0,eI 1 x1,eI 5 v5],[]) ds [] K q):=nI ⟨aH,aH⟩ λn ⟨i,i2⟩=>⟨cX i2,
  bU (eE<|bU dR<|aO<|cX i2) dR⟩
def Ol(x0:Γ Int)(x1:Int):Bool := !x0.all λv => !(v==x1)
theorem bIq(x0:Γ Int)(x1:Int)(hw:x0.length<=maxLen):R88 (x0.length+1+1) x0 x1 [⟨.bool,Ol x0 x1⟩]:=by
 rw[R88];have key:=tG x0 (0:Int) (λv => !(v==x1)) [(⟨.bool,true⟩:aS)] [⟨.bool,false⟩] (λn i ds=>XI n i x0 x1 ds) (λn=>?_) (λn i hi hok ds hr=>?_) (λn i hi hok=>?_)
 ·unfold Ol;cases h:x0.all λv => !(v==x1) <;> rw[h]at key <;> exact key
 ·rw[XI,ν (by simp)]
 ·rw[XI,π (by simp;omega)];simp only[aI];refine⟨by omega,by omega,?_⟩;rw[ν (by simpa using hok)];exact⟨jZ hw hi,hr⟩
 ·rw[XI,π (by simp;omega)];simp only[aI];refine⟨by omega,by omega,?_⟩;rw[π (by simpa using hok)] <;> trivial
def bM2:KK:=mL d88 (DO aH1) nP (Ol,()) (λ⟨x0,x1,_⟩ h hwf K q =>
 (bIp _ K q _).1 (bIq x0 x1 hwf.1.1))
end
theorem bBp{l:Γ Nat}(hn:l.Nodup){i j:Nat}{hi:i<l.length}{hj:j<l.length}(e:l[i]=l[j]):i=j:=by
 grind [Cw]
theorem aLc{c c':Nat->Nat->Bool}{n s:Nat}{u:Γ Int}{E:Γ Nat}(hn:E.Nodup)(hE:∀k,k∈E↔k<n/\(k:Int) ∉ u)(hc:∀i j,i<E.length->c' i j=c (E.getD i 0) (s+j)) :
  ∀(k j:Nat) (v:Γ Int),(∀x∈v,0<=x/\x<(E.length:Int))->(Fl c' E.length k j v↔Fl c n k (s+j) (u++v.map λi=>((E.getD i.toNat 0:Nat):Int)))
 | 0,_,_,_=>⟨λ_=>trivial,λ_=>trivial⟩
 | k+1,j,v,hv=>by
  have ge:∀i (hi:i<E.length),E.getD i 0=E[i]:=λi hi=>by grind
  have step:∀i,i<E.length->(Fl c' E.length k (j+1) (v++[(i:Int)])↔Fl c n k (s+j+1) (u++v.map (λi=>((E.getD i.toNat 0:Nat):Int))++[((E.getD i 0:Nat):Int)])):=λi hi=>by
   have:=aLc hn hE hc k (j+1) (v++[(i:Int)]) (λx hx=>by
    grind)
   rw[iQ, <- bZ]at this;exact this
  constructor
  ·rintro⟨i,h1,h2,h3,h4⟩;obtain⟨a,b⟩:=(hE (E.getD i 0)).1 (by grind);refine⟨E.getD i 0,a,λhm=>?_,by grind,(step i h1).1 h4⟩;rcases cY.1 hm with hm | hm
   ·lia
   ·obtain⟨x,hx,e⟩:=dK.1 hm;have e:E.getD x.toNat 0=E.getD i 0:=by lia
    grind [bBp]
  ·rintro⟨h,h1,h2,h3,h4⟩;obtain⟨i,hi,e⟩:=pG ((hE h).2 ⟨h1,λq=>h2 (cY.2 (.inl q))⟩);have e:E.getD i 0=h:=by grind
   refine⟨i,hi,λq=>h2 (cY.2 (.inr (dK.2 ⟨(i:Int),q,by simp_all⟩))),by grind,(step i hi).2 (by lia)⟩
def Yo(ok:Int->Bool):Nat->Nat->Option Int
 | 0,_=>none
 | k+1,h=>if ok (h:Int)=true then some (h:Int)else Yo ok k (h+1)
theorem RQ{ok:Int->Bool}:∀(k h:Nat),(∃j:Nat,h<=j/\j<h+k/\ok (j:Int)=true)->∃j:Nat,Yo ok k h=some (j:Int)/\h<=j/\j<h+k/\ok (j:Int)=true/\∀i:Nat,h<=i->i<j->ok (i:Int)=false
 | 0,h,⟨j,h1,h2,h3⟩=>by lia
 | k+1,h,⟨j,h1,h2,h3⟩=>by
  rw[Yo];by_cases c:ok (h:Int)=true
  ·grind
  ·have:j≠h:=λe=>c (by lia);obtain⟨i,a1,a2,a3,a4,a5⟩:=RQ (ok:=ok) k (h+1) ⟨j,by lia,by lia,h3⟩
   grind
abbrev hD:Sg:=(ByteArray.empty,0,0,())
theorem Tx(l:Γ Int)(x:Int):zL l x=true↔x∈l:=by
 have h:zL l x=l.any (λy=>x==y):=aZH l x
 grind
theorem aBO(x0:Γ Sg)(x1:Sg)(fl:Γ Int->Option (Γ Int))(u:Γ Int)(ok:Int->Bool)(hk:∀h:Nat,h<x0.length->ok (h:Int)=(!zL u (h:Int)&&(qQ (x0.getD h hD) x1&&(fl (u++[(h:Int)])).isSome))) :
  ∀(k i:Nat),i+k=x0.length->zM fl u (pA x1 (x0.drop i) i)=(Yo ok k i).bind λh=>fl (u++[h])
 | 0,i,hi=>by rw[bT (by lia)]<;>rfl
 | k+1,i,hi=>by
  have ih:=aBO x0 x1 fl u ok hk k (i+1) (by lia);have ho:=hk i (by lia);rw[eD x0 i hD (by lia),Yo,pA];by_cases c:qQ (x0.getD i hD) x1=true
  ·rw[π c,zM]
   grind
  lia
theorem aGk(x0 x1:Γ Sg):∀(m:Nat) (u:Γ Int),u.length+m=x1.length->((fL x0 x1 m u).isSome=true↔Fl (λh t=>qQ (x0.getD h hD) (x1.getD t hD)) x0.length m u.length u)
 | 0,u,_=>⟨λ_=>trivial,λ_=>rfl⟩
 | m+1,u,hu=>by
  have ih:∀x,(fL x0 x1 m (u++[x])).isSome=true↔Fl (λh t=>qQ (x0.getD h hD) (x1.getD t hD)) x0.length m (u.length+1) (u++[x]):=λx=>by
   have:=aGk x0 x1 m (u++[x]) (by rw[aU,bP];omega)
   rwa [aU]at this
  let ok:Int->Bool:=λh => !zL u h&&(qQ (x0.getD h.toNat hD) (x1.getD u.length hD)&&(fL x0 x1 m (u++[h])).isSome)
  have key:=aBO x0 (x1.getD u.length hD) (fL x0 x1 m) u ok (λh _=>rfl) x0.length 0 (by lia);have e:fL x0 x1 (m+1) u=zM (fL x0 x1 m) u (pA (x1.getD u.length hD) (x0.drop 0) 0):=rfl;constructor
  ·intro h;cases hf:Yo ok x0.length 0 with
   | none=>grind
   | some x =>
    have hx:∃j:Nat,0<=j/\j<0+x0.length/\ok (j:Int)=true:=by
     by_cases q:∃j:Nat,0<=j/\j<0+x0.length/\ok (j:Int)=true
     ·grind
     ·have:∀(k i:Nat),i+k<=x0.length->Yo ok k i=none:=λk=>by
       induction k with
       | zero=>intro i _;rfl
       | succ k ihk=>intro i hi;rw[Yo,ν (λc=>q ⟨i,bG _,by lia,c⟩),ihk (i+1) (by lia)]
      grind
    obtain⟨j,j1,j2,j3⟩:=hx;have j4:(!zL u (j:Int)&&(qQ (x0.getD j hD) (x1.getD u.length hD)&&(fL x0 x1 m (u++[(j:Int)])).isSome))=true:=j3;simp at j4;exact⟨j,by lia,λq=>(by grind [Tx]),j4.2.1,(ih _).1 j4.2.2⟩
  ·rintro⟨h,h1,h2,h3,h4⟩;have ho:ok (h:Int)=true:=by
    grind [Tx]
   obtain⟨j,e1,_,_,e4,_⟩:=RQ (ok:=ok) x0.length 0 ⟨h,bG _,by lia,ho⟩
   grind
theorem aQE:∀a b:Fin 8,(mZ .i64 (((gD 64 ((a.val:Nat):Int) &&& gD 64 ((b.val:Nat):Int)).toNat:Nat):Int)==((b.val:Nat):Int))=(mZ .i64 (((gD 64 ((b.val:Nat):Int) &&& ~~~gD 64 ((a.val:Nat):Int)).toNat:Nat):Int)==0):=by decide
theorem bBq{h x:Sg}(hh:0<=h.2.1/\h.2.1<=7)(hx:0<=x.2.1/\x.2.1<=7):FB h x=qQ h x:=by
 have k:=aQE ⟨h.2.1.toNat,by lia⟩ ⟨x.2.1.toNat,by lia⟩
 grind [FB,qQ]
theorem aNy{h:Sg}(v:xI h=true):0<=h.2.1/\h.2.1<=7:=by
 unfold xI at v;split at v
 ·split at v
  ·rename_i c;exact wi (show bH h.2.1 0 7=true from c)
  lia
 lia
theorem aUe{h:Sg}(v:xI h=true):0<=h.2.1/\h.2.1<=7:=by
 unfold xI at v;split at v
 ·split at v
  ·rename_i c;exact wi (show bH h.2.1 0 7=true from c)
  lia
 lia
noncomputable section
def d26:jB:=D0 aH2 [.v (.sl eC),.v (.sl eC)] [.sl Jy,.int .i64] [bHF,bHI,bMz,bM2,bBf]
mutual
def R26:Nat->Γ b6->Γ b6->Γ aS->Prop
 | 0,_,_,_=>False
 | n+1,x0,x1,ds=>if !aFL x0 then ds=[aJ (.sl Jy) [],aJ (.int .i64) 1] else if !aFM x1 then ds=[aJ (.sl Jy) [],aJ (.int .i64) 1] else P87 x0 x1 (-1)/\if decide (Su x0 x1 (-1)<(x1.length:Int))then ds=[aJ (.sl Jy) [],aJ (.int .i64) 3] else Om n 0 ([]) x0 x1 ds
def Om:Nat->Int->Γ Int->Γ b6->Γ b6->Γ aS->Prop
 | 0,_,_,_,_,_=>False
 | n+1,v7,h0,x0,x1,ds=>if decide (v7<(x1.length:Int))then CX n 0 x0 x1 v7 h0 ds else ds=[aJ (.sl Jy) h0,aJ (.int .i64) 0]
def CX:Nat->Int->Γ b6->Γ b6->Int->Γ Int->Γ aS->Prop
 | 0,_,_,_,_,_,_=>False
 | n+1,v8,x0,x1,v7,h0,ds=>if decide (v8<(x0.length:Int))then(if Ol h0 v8 then bA .i64 (v8+1)/\CX n (v8+1) x0 x1 v7 h0 ds else 0<=v8/\v8<(x0.length:Int)/\0<=v7/\v7<(x1.length:Int)/\if !FB (aD x0 (aE v8) (aC,0,0,())) (aD x1 (aE v7) (aC,0,0,()))then bA .i64 (v8+1)/\CX n (v8+1) x0 x1 v7 h0 ds else GY n 0 ([]) x0 x1 v7 v8 h0 ds)else bA .i64 (v7+1)/\Om n (v7+1) h0 x0 x1 ds
def GY:Nat->Int->Γ b6->Γ b6->Γ b6->Int->Int->Γ Int->Γ aS->Prop
 | 0,_,_,_,_,_,_,_,_=>False
 | n+1,v10,h1,x0,x1,v7,v8,h0,ds=>if decide (v10<(x0.length:Int))then(if v10 != v8 then(if !Ol h0 v10 then 0<=v10/\v10<(x0.length:Int)/\(aF h1+1)*32<=140737488355328/\bA .i64 (v10+1)/\GY n (v10+1) (h1++[aD x0 (aE v10) (aC,0,0,())]) x0 x1 v7 v8 h0 ds else bA .i64 (v10+1)/\GY n (v10+1) h1 x0 x1 v7 v8 h0 ds)else bA .i64 (v10+1)/\GY n (v10+1) h1 x0 x1 v7 v8 h0 ds)else bA .i64 (v7+1)/\0<=v7+1/\v7+1<=(x1.length:Int)/\P87 h1 (aY (aE (v7+1)) x1) (-1)/\bA .i64 ((x1.length:Int)-v7)/\bA .i64 ((x1.length:Int)-v7-1)/\if Su h1 (aY (aE (v7+1)) x1) (-1)==(x1.length:Int)-v7-1 then(aF h0+1)*8<=140737488355328/\bA .i64 (v7+1)/\Om n (v7+1) (h0++[v8]) x0 x1 ds else bA .i64 (v8+1)/\CX n (v8+1) x0 x1 v7 h0 ds
end
def bIs(ds:Γ aS)(K:gU)(q:Nat->Value):∀n,(∀ {x0 x1},R26 n x0 x1 ds->St d26 (x0,x1,()) ds [] K q)/\(∀ {v7 h0 x0 x1},Om n v7 h0 x0 x1 ds->Cu d26 7 ([eL 0 eC x0,eL 1 eC x1,eW 6 0,eI 7 v7],[cN (.int .i64) h0]) ds [] K q)/\(∀ {v8 x0 x1 v7 h0},CX n v8 x0 x1 v7 h0 ds->Cu d26 10 ([eL 0 eC x0,eL 1 eC x1,eW 6 0,eI 7 v7,eI 8 v8],[cN (.int .i64) h0]) ds [] K q)/\(∀ {v10 h1 x0 x1 v7 v8 h0},GY n v10 h1 x0 x1 v7 v8 h0 ds->Cu d26 15 ([eL 0 eC x0,eL 1 eC x1,eW 6 0,eI 7 v7,eI 8 v8,eW 9 1,eI 10 v10,eL 42 eC x0,eI 43 v8,(44,.a (.ptr eC (aD x0 (aE v8) (aC,0,0,())))),eL 45 eC x1,eI 46 v7,(47,.a (.ptr eC (aD x1 (aE v7) (aC,0,0,())))),eB 48 (FB (aD x0 (aE v8) (aC,0,0,())) (aD x1 (aE v7) (aC,0,0,()))),eB 49 (!FB (aD x0 (aE v8) (aC,0,0,())) (aD x1 (aE v7) (aC,0,0,())))],[cN (.int .i64) h0,cN eC h1]) ds [] K q):=nI ⟨aH,aH,aH,aH⟩ λn ⟨i,i7,i10,i15⟩=>⟨bS<|bU (j0 dR)<|bS<|bU dR<|aO<|bU dR<|cX i7,
  bU (cX i10) dR,
  bU (bS<|bU (j0<|aO<|cX i10)<|eE<|eE<|bS<|bU (aO<|cX i10)<|cX i15)<|aO<|cX i7,
  bU (bU (bS<|bU (eE<|aO<|aO<|cX i15)<|aO<|cX i15)<|dN<|aO<|cX i15)<|aO<|eE<|aO<|aO<|aO<|bU (aO<|aO<|cX i7)<|aO<|cX i10⟩
def aGl(x0 x1:Γ Sg):Γ Int:=JL x0 x1
def aGm(x0 x1:Γ Sg):Int:=Qq x0 x1
def q26(u:Γ Int)(h:Int)(k:Nat):Bool:=(k:Int) != h && !Ol u (k:Int)
def E26(n:Nat)(u:Γ Int)(h:Int):Γ Nat:=(aH3 0 n).filter (q26 u h)
def bIt(x0:Γ Sg)(u:Γ Int)(h:Int):Γ Sg:=(E26 x0.length u h).map λk=>x0.getD k hD
theorem aGn(l:Γ Int)(x:Int):Ol l x=zL l x:=by
 refine mK.2 (Iff.trans ?_ (Tx l x).symm);unfold Ol;rw[eX, <- Rz,List.all_eq_true];constructor
 ·intro h;exact jA λq=>h λv hv=>by
   rw[eX];exact beq_false_of_ne λe=>q (e ▸ hv)
 ·intro h q;have:=q x h;simp at this
structure aQF (x0 x1:Γ Sg):Prop where
 l0:x0.length<=100
 l1:x1.length<=100
 can:∀h t,wI x0 x1 h t=qQ (x0.getD h hD) (x1.getD t hD)
theorem aQG{x0 x1:Γ Sg}(h:aQF x0 x1)(T' s:Nat)(hs:s+T'=x1.length)(u:Γ Int)(hu:u.length=s)(E:Γ Nat)(hn:E.Nodup)(hE:∀k,k∈E↔k<x0.length/\(k:Int) ∉ u)(r:Γ Sg)(hr:r=E.map λk=>x0.getD k hD):Su r (x1.drop s) (-1)=(T':Int)↔(fL x0 x1 T' u).isSome=true:=by
 have hl:r.length=E.length:=by rw[hr,cM]
 have hle:E.length<=x0.length:=by
  have:=Tw E (Gp x0.length) hn (λk hk=>Cm.2 ((hE k).1 hk).1)
  rwa [List.length_range]at this
 have hd:(x1.drop s).length=T':=by rw[gQ];omega
 have l0:=h.l0;unfold Su;rw[hd,hl];refine Iff.trans (aQA _ (by omega) T') (Iff.trans ?_ (aGk x0 x1 T' u (by omega)).symm);have:=aLc (c:=λh t=>qQ (x0.getD h hD) (x1.getD t hD)) (c':=wI r (x1.drop s)) (n:=x0.length) (s:=s) (u:=u) hn hE (λi j hi=>?_) T' 0 [] (λx hx=>by cases hx)
 ·rw[tQ,cK,iX]at this;rw[hu];exact this
 ·show wI r (x1.drop s) i j=qQ (x0.getD (E.getD i 0) hD) (x1.getD (s+j) hD);rw[<- h.can];unfold wI;rw[hr,jX _ i _ (by rw[cM];exact hi),FZ,jX E i 0 hi]
  congr 1
  rw[bC,List.getElem?_drop, <- bC]
theorem bIu{x0:Γ Sg}{u:Γ Int}{h:Int}(k:Nat):k∈E26 x0.length u h↔k<x0.length/\(k:Int) ∉ u++[h]:=by
 unfold E26 q26;rw[List.mem_filter,List.mem_range'_1,aV,bne_iff_ne,eX,aGn, <- Rz,Tx,cY,List.mem_singleton];exact⟨λ⟨a,b,c⟩=>⟨by omega,λq=>q.elim c b⟩,λ⟨a,b⟩=>⟨⟨bG _,by omega⟩,λq=>b (.inr q),λq=>b (.inl q)⟩⟩
theorem aQH{x0 x1:Γ Sg}(hk:aQF x0 x1)(t:Nat)(u:Γ Int)(hu:u.length=t)(ht:t<x1.length)(h:Nat)(ds:Γ aS)(m:Nat)
  (yes:(fL x0 x1 (x1.length-t-1) (u++[(h:Int)])).isSome=true->Om m ((t:Int)+1) (u++[(h:Int)]) x0 x1 ds)
  (no:(fL x0 x1 (x1.length-t-1) (u++[(h:Int)])).isSome=false->CX m ((h:Int)+1) x0 x1 (t:Int) u ds) (hh:h<x0.length) :
  ∀(k i:Nat) (r:Γ Sg),i+k=x0.length->r++((aH3 i k).filter (q26 u (h:Int))).map (λk=>x0.getD k hD)=bIt x0 u (h:Int)->r.length<=i->GY (m+k+1) (i:Int) r x0 x1 (t:Int) (h:Int) u ds:=by
 have l0:=hk.l0;have l1:=hk.l1;intro k
 induction k with
 | zero =>
  intro i r hi hr hl;have hr:r=bIt x0 u (h:Int):=by rw[<- hr];simp
  have ed:x1.drop (aE ((t:Int)+1))=x1.drop (t+1):=by rw[show aE ((t:Int)+1)=t+1 by omega]
  have key:=aQG hk (x1.length-t-1) (t+1) (by omega) (u++[(h:Int)]) (by rw[aU,bP,hu]) (E26 x0.length u (h:Int)) (List.Pairwise.filter _ List.nodup_range') bIu r hr;rw[iX,GY,ν (by simp only[ε];omega),ed];refine⟨by rw[aK];omega,by omega,by omega,⟨rfl,by omega,by rw[gQ];omega⟩,by rw[aK];omega,by rw[aK];omega,?_⟩;by_cases c:(fL x0 x1 (x1.length-t-1) (u++[(h:Int)])).isSome=true
  ·exact(π (by rw[key.2 c,beq_iff_eq];omega)).mpr ⟨by omega,by rw[aK];omega,yes c⟩
  ·exact(ν (λq=>c (key.1 (by rw[beq_iff_eq]at q;omega)))).mpr ⟨by rw[aK];omega,no (Dm c)⟩
 | succ k ih =>
  intro i r hi hr hl;have e3:(i:Int)+1=((i+1:Nat):Int):=by omega
  have ii:bA .i64 ((i+1:Nat):Int):=by rw[aK];omega
  rw[List.range'_succ,tK]at hr;show GY (m+k+1+1) _ _ _ _ _ _ _ _;rw[GY,π (by simp only[ε];omega),e3,aI];unfold q26 at hr;by_cases c1:((i:Int) != (h:Int))=true
  ·rw[c1,rI]at hr;refine(π c1).mpr ?_;by_cases c2:(!Ol u (i:Int))=true
   ·rw[π c2,dG]at hr;exact(π c2).mpr ⟨by omega,by omega,by omega,ii,ih (i+1) _ (by omega) (by rw[bZ];exact hr) (by rw[aU,bP];omega)⟩
   ·rw[ν c2]at hr;exact(ν c2).mpr ⟨ii,ih (i+1) r (by omega) hr (by omega)⟩
  ·rw[Dm c1,Bool.false_and,ν (by decide)]at hr;exact(ν c1).mpr ⟨ii,ih (i+1) r (by omega) hr (by omega)⟩
theorem aUf{x0 x1:Γ Sg}(hk:aQF x0 x1)(t:Nat)(u:Γ Int)(hu:u.length=t)(ht:t<x1.length)(ds:Γ aS)(h:Nat)(hh:h<x0.length)(ok:Int->Bool)
  (hok:∀j:Nat,ok (j:Int)=(!zL u (j:Int)&&(qQ (x0.getD j hD) (x1.getD t hD)&&(fL x0 x1 (x1.length-t-1) (u++[(j:Int)])).isSome)))
  (h1:ok (h:Int)=true) (h2:∀i:Nat,i<h->ok (i:Int)=false) (hr:∃m,Om m ((t:Int)+1) (u++[(h:Int)]) x0 x1 ds):∀(k j:Nat),j+k=h->∃m,CX m (j:Int) x0 x1 (t:Int) u ds:=by
 have l0:=hk.l0;have l1:=hk.l1;have can:∀j:Nat,FB (x0.getD j (aC,0,0,())) (x1.getD t (aC,0,0,()))=qQ (x0.getD j hD) (x1.getD t hD):=λj=>hk.can j t;intro k
 induction k with
 | zero =>
  intro j hj;obtain rfl:j=h:=by omega
  rw[hok,aV,aV,eX]at h1;obtain⟨a,b,c⟩:=h1;obtain⟨m,hm⟩:=hr;refine⟨m+x0.length+1+1,?_⟩;rw[CX,π (by simp only[ε];omega),aGn,a,ν (by decide),aI,aI,can,b];refine⟨by omega,by omega,by omega,by omega,?_⟩;rw[ν (by decide)];exact aQH hk t u hu ht j ds m (λ_=>hm) (λq=>by rw[c]at q;cases q) hh x0.length 0 [] (bX _) rfl (bG _)
 | succ k ih =>
  intro j hj;have hf:=h2 j (by omega);have e3:(j:Int)+1=((j+1:Nat):Int):=by omega
  have ii:bA .i64 ((j:Int)+1):=by rw[aK];omega
  obtain⟨m,hm⟩:=ih (j+1) (by omega);rw[<- e3]at hm;rw[hok]at hf;by_cases a:zL u (j:Int)=true
  ·refine⟨m+1,?_⟩;rw[CX,π (by simp only[ε];omega),aGn,π a];exact⟨ii,hm⟩
  ·rw[Dm a,Bool.not_false,rI]at hf;by_cases b:qQ (x0.getD j hD) (x1.getD t hD)=true
   ·rw[b,rI]at hf;refine⟨m+x0.length+1+1,?_⟩;rw[CX,π (by simp only[ε];omega),aGn,ν a,aI,aI,can,b];refine⟨by omega,by omega,by omega,by omega,?_⟩;rw[ν (by decide)];exact aQH hk t u hu ht j ds m (λq=>by rw[hf]at q;cases q) (λ_=>hm) (by omega) x0.length 0 [] (bX _) rfl (bG _)
   ·refine⟨m+1,?_⟩;rw[CX,π (by simp only[ε];omega),aGn,ν a,aI,aI,can,Dm b];refine⟨by omega,by omega,by omega,by omega,?_⟩;rw[π (by decide)];exact⟨ii,hm⟩
theorem aUg{x0 x1:Γ Sg}(hk:aQF x0 x1):∀(k t:Nat) (u y:Γ Int),t+k=x1.length->u.length=t->fL x0 x1 k u=some y->∃m,Om m (t:Int) u x0 x1 [⟨.sl Jy,y⟩,⟨.int .i64,0⟩]:=by
 intro k
 induction k with
 | zero =>
  intro t u y ht hu hf;refine⟨1,?_⟩;rw[Om,ν (by simp only[ε];omega)];obtain rfl:u=y:=by injection hf
  rfl
 | succ k ih =>
  intro t u y ht hu hf
  let ok:Int->Bool:=λh => !zL u h&&(qQ (x0.getD h.toNat hD) (x1.getD u.length hD)&&(fL x0 x1 k (u++[h])).isSome)
  have key:=aBO x0 (x1.getD u.length hD) (fL x0 x1 k) u ok (λh _=>rfl) x0.length 0 (by omega);have e:fL x0 x1 (k+1) u=zM (fL x0 x1 k) u (pA (x1.getD u.length hD) (x0.drop 0) 0):=rfl;rw[e,key]at hf;by_cases hx:∃j:Nat,0<=j/\j<0+x0.length/\ok (j:Int)=true
  ·obtain⟨h,e1,_,h3,h4,h5⟩:=RQ x0.length 0 hx;rw[e1]at hf;have hf:fL x0 x1 k (u++[(h:Int)])=some y:=hf;obtain⟨m,hm⟩:=ih (t+1) (u++[(h:Int)]) y (by omega) (by rw[aU,bP,hu]) hf;obtain⟨m,hm⟩:=aUf hk t u hu (by omega) _ h (by omega) ok (λj=>by rw[show x1.length-t-1=k by omega, <- hu]<;>rfl) h4 (λi hi=>h5 i (bG _) hi) ⟨m,hm⟩ h 0 (bX _);refine⟨m+1,?_⟩;rw[Om,π (by simp only[ε];omega)];exact hm
  ·exfalso;have:∀(k i:Nat),i+k<=x0.length->Yo ok k i=none:=λk=>by
    induction k with
    | zero=>intro i _;rfl
    | succ k ihk=>intro i hi;rw[Yo,ν (λc=>hx ⟨i,bG _,by omega,c⟩),ihk (i+1) (by omega)]
   rw[this x0.length 0 (by omega)]at hf;cases hf
theorem bM3{x0 x1:Γ Sg}(h0:xJ x0=true)(h1:xL x1=true):aQF x0 x1:=by
 have e0:∀h,0<=(x0.getD h hD).2.1/\(x0.getD h hD).2.1<=7:=λh=>by
  by_cases c:h<x0.length
  ·unfold xJ at h0;rw[aV]at h0;obtain⟨j,hj⟩:=CS _ _ h0.1 _ (bY x0 h hD c);unfold aXR at hj;rw[aV]at hj;exact aNy hj.1
  ·rw[bC,iG (by omega)];exact⟨dO _,by decide⟩
 have e1:∀h,0<=(x1.getD h hD).2.1/\(x1.getD h hD).2.1<=7:=λh=>by
  by_cases c:h<x1.length
  ·unfold xL at h1;rw[aV]at h1;obtain⟨j,hj⟩:=CS _ _ h1.1 _ (bY x1 h hD c);unfold aXS at hj;rw[aV]at hj;exact aUe hj.1
  ·rw[bC,iG (by omega)];exact⟨dO _,by decide⟩
 exact⟨by have:=aGe h0;omega,by have:=aGf h1;omega,λh t=>bBq (e0 h) (e1 t)⟩
theorem bIv(x0 x1:Γ Sg):∃n,R26 n x0 x1 [⟨.sl Jy,aGl x0 x1⟩,⟨.int .i64,aGm x0 x1⟩]:=by
 unfold aGl aGm JL Qq Qn;by_cases c0:xJ x0=true
 ·by_cases c1:xL x1=true
  ·have hk:=bM3 c0 c1;have l0:=hk.l0;have l1:=hk.l1;have key:=aQG hk x1.length 0 (bX _) [] rfl (Gp x0.length) Ry (λk=>⟨λq=>⟨Cm.1 q,λq=>by cases q⟩,λq=>Cm.2 q.1⟩) x0 (by
    refine List.ext_getElem (by simp) λi a b=>?_;simp only[FZ,List.getElem_range];rw[jX x0 i hD a])
   rw[gP]at key;have le:=aJ2 (wI x0 x1) x0.length x1.length 0 (aQ x0.length (-1)) 0;have le:Su x0 x1 (-1)<=0+(x1.length:Int):=le;have e1:Dz x0 x1 []=(fL x0 x1 x1.length []).isSome:=rfl;have e0:GJ x0 x1 []=(fL x0 x1 x1.length []).getD []:=rfl;rw[c0,c1,e1,e0];cases hf:fL x0 x1 x1.length [] with
   | none =>
    have hn:¬Su x0 x1 (-1)=(x1.length:Int):=λq=>by
     have:=key.1 q;rw[hf]at this;cases this
    refine⟨1,?_⟩;rw[R26, <- AO, <- Ex,c0,c1,ν (by decide),ν (by decide)];exact⟨⟨rfl,by omega,by omega⟩,(π (by simp only[ε];omega)).mpr rfl⟩
   | some y =>
    have hn:Su x0 x1 (-1)=(x1.length:Int):=key.2 (by rw[hf]<;>rfl);obtain⟨m,hm⟩:=aUg hk x1.length 0 [] y (bX _) rfl hf;refine⟨m+1,?_⟩;rw[R26, <- AO, <- Ex,c0,c1,ν (by decide),ν (by decide)];exact⟨⟨rfl,by omega,by omega⟩,(ν (by simp only[ε];omega)).mpr hm⟩
  ·exact⟨1,by rw[R26, <- AO, <- Ex,c0,Dm c1]<;>rfl⟩
 ·exact⟨1,by rw[R26, <- AO, <- Ex,Dm c0]<;>rfl⟩
def bM4:KK:=mL d26 (DO aH2) nP (aGl,aGm,()) (λ⟨x0,x1,_⟩ h hwf K q =>
 let ⟨n,hn⟩:=bIv x0 x1
 (bIs _ K q n).1 hn)
def bBr:jB:=D0 aDV [.v (.int .i64)] [.int .i64,.int .i64,.int .i64] [aWH]
mutual
def bBs:Nat->Int->Γ aS->Prop
 | 0,_,_=>False
 | n+1,x0,ds=>RR n 2000 1 x0 ds
def RR:Nat->Int->Int->Int->Γ aS->Prop
 | 0,_,_,_,_=>False
 | n+1,v5,v6,x0,ds=>aBB v5 v6/\if decide (x0>=mY v5 v6)then aBB v5 v6/\bA .i64 (x0-mY v5 v6)/\bA .i64 (v6+1)/\if decide (v6+1>12)then bA .i64 (v5+1)/\RR n (v5+1) 1 (x0-mY v5 v6) ds else RR n v5 (v6+1) (x0-mY v5 v6) ds else bA .i64 (x0+1)/\ds=[aJ (.int .i64) v5,aJ (.int .i64) v6,aJ (.int .i64) (x0+1)]
end
def bBt(ds:Γ aS)(K:gU)(q:Nat->Value):∀n,(∀ {x0},bBs n x0 ds->St bBr (x0,()) ds [] K q)/\(∀ {v5 v6 x0},RR n v5 v6 x0 ds->Cu bBr 3 ([eI 0 x0,eI 5 v5,eI 6 v6],[]) ds [] K q):=nI ⟨aH,aH⟩ λn ⟨i,i3⟩=>⟨cX i3,
  aO<|bU (aO<|aO<|aO<|bU (aO<|cX i3)<|cX i3)<|aO dR⟩
def FC:Nat->Int->Int->Int->Int×Int×Int
 | 0,d,y,m=>(y,m,d+1)
 | k+1,d,y,m=>if mY y m<=d then(if m=12 then FC k (d-mY y m) (y+1) 1 else FC k (d-mY y m) y (m+1))else(y,m,d+1)
def bBu(x0:Int):Prop:=0<=x0/\x0<=36524
def GZ(x0:Int):Int:=(FC 1305 x0 2000 1).1
def G3(x0:Int):Int:=(FC 1305 x0 2000 1).2.1
def NJ(x0:Int):Int:=(FC 1305 x0 2000 1).2.2
theorem aWR{y m:Int}(hy:2000<=y/\y<=4000)(h:1<=m/\m<=12):aBB y m/\28<=mY y m/\mY y m<=31:=by
 have e:cP y 4=y%4:=gR (by omega);have hm:m=1\/m=2\/m=3\/m=4\/m=5\/m=6\/m=7\/m=8\/m=9\/m=10\/m=11\/m=12:=by omega
 unfold aBB mY;rw[e];have hi:bA .i64 (y%4):=by rw[aK];omega
 by_cases hz:(y%4==0)=true
 ·rcases hm with rfl | rfl | rfl | rfl | rfl | rfl | rfl | rfl | rfl | rfl | rfl | rfl <;> simp[hz,hi] <;> decide
 ·rcases hm with rfl | rfl | rfl | rfl | rfl | rfl | rfl | rfl | rfl | rfl | rfl | rfl <;> simp[hz,hi] <;> decide
theorem bBv:∀(k:Nat) (d y m:Int),0<=d->d<28*(k:Int)->2000<=y->y+(k:Int)<=3305->1<=m/\m<=12 ->
  RR (k+1) y m d [⟨.int .i64,(FC k d y m).1⟩,⟨.int .i64,(FC k d y m).2.1⟩,⟨.int .i64,(FC k d y m).2.2⟩]:=by
 intro k
 induction k with
 | zero=>intro d y m h0 h1;omega
 | succ k ih =>
  intro d y m h0 h1 h2 h3 h4;obtain⟨p,l1,l2⟩:=aWR (y:=y) (m:=m) (by omega) h4;rw[RR];refine⟨p,?_⟩;unfold FC;by_cases hc:mY y m<=d
  ·rw[π (by simpa using hc),π hc];refine⟨p,by rw[aK];omega,by rw[aK];omega,?_⟩;by_cases hm:m=12
   ·subst hm;rw[π rfl,π (by decide)];exact⟨by rw[aK];omega,ih _ _ 1 (by omega) (by omega) (by omega) (by omega) (by omega)⟩
   ·rw[ν hm,ν (by simp only[ε];omega)];exact ih _ _ _ (by omega) (by omega) (by omega) (by omega) (by omega)
  ·rw[ν (by simpa using hc),ν hc];exact⟨by rw[aK];omega,rfl⟩
theorem bBw(x0:Int)(h:bBu x0):bBs (1305+1+1) x0 [⟨.int .i64,GZ x0⟩,⟨.int .i64,G3 x0⟩,⟨.int .i64,NJ x0⟩]:=by
 rw[bBs];exact bBv 1305 x0 2000 1 h.1 (by have:=h.2;omega) (by omega) (by omega) (by omega)
def bIw:KK:=mL bBr (DO aDV) bBu (GZ,G3,NJ,()) (λ⟨x0,_⟩ h hwf K q =>
 (bBt _ K q _).1 (bBw x0 h))
def aQI(x0:Int):Prop:=if decide (x0<10)then 1+aG (kI x0)<=9223372036854775807/\True else True
def G4(x0:Int):Δ:=if decide (x0<10)then aA #[48]++kI x0 else kI x0
def bIx:KK:=mB Tryz.func200 [.v (.int .i64)] [.str] [aJz] aQI (G4,()) λ_=>tH (bS<|aO pr)<|bS pr
def P91(x0:Int):Prop:=((bBu x0)/\((aG (kI (GZ x0))+1<=9223372036854775807)/\((aQI (G3 x0))/\((aG (kI (GZ x0)++aA #[45])+aG (G4 (G3 x0))<=9223372036854775807)/\((aG (kI (GZ x0)++aA #[45]++G4 (G3 x0))+1<=9223372036854775807)/\((aQI (NJ x0))/\((aG (kI (GZ x0)++aA #[45]++G4 (G3 x0)++aA #[45])+aG (G4 (NJ x0))<=9223372036854775807)/\True)))))))
def XJ(x0:Int):Δ:=kI (GZ x0)++aA #[45]++G4 (G3 x0)++aA #[45]++G4 (NJ x0)
def bIy:KK:=mB Tryz.func91 [.v (.int .i64)] [.str] [bIw,aJz,bIx] P91 (XJ,()) λ_=>aO<|bS<|aO<|aO<|aO<|aO<|aO<|aO pr
def d94:jB:=D0 aH4 [.v (.sl (.sl .str))] [.sl .str] []
mutual
def R94:Nat->Γ (Γ Δ)->Γ aS->Prop
 | 0,_,_=>False
 | n+1,x0,ds=>XK n 0 ([0,0,0,0,0,0,0,0,0,0,0,0]) x0 ds
def XK:Nat->Int->Γ Int->Γ (Γ Δ)->Γ aS->Prop
 | 0,_,_,_,_=>False
 | n+1,v4,h0,x0,ds=>if decide (v4<(x0.length:Int))then XL n 0 h0 x0 v4 ds else G5 n 0 ([]) x0 h0 ds
def XL:Nat->Int->Γ Int->Γ (Γ Δ)->Int->Γ aS->Prop
 | 0,_,_,_,_,_=>False
 | n+1,v5,h0,x0,v4,ds=>0<=v4/\v4<(x0.length:Int)/\if decide (v5<(↑(aF (aD x0 (aE v4) [])):Int))then 0<=v4/\v4<(x0.length:Int)/\0<=v5/\v5<(↑(aF (aD x0 (aE v4) [])):Int)/\0<=v5/\v5<(h0.length:Int)/\if decide ((↑(aG (aD (aD x0 (aE v4) []) (aE v5) aC)):Int)>aD h0 (aE v5) 0)then 0<=v4/\v4<(x0.length:Int)/\0<=v5/\v5<(↑(aF (aD x0 (aE v4) [])):Int)/\0<=v5/\v5<(h0.length:Int)/\bA .i64 (v5+1)/\XL n (v5+1) (fF h0 (aE v5) (↑(aG (aD (aD x0 (aE v4) []) (aE v5) aC)):Int)) x0 v4 ds else bA .i64 (v5+1)/\XL n (v5+1) h0 x0 v4 ds else bA .i64 (v4+1)/\XK n (v4+1) h0 x0 ds
def G5:Nat->Int->Γ Δ->Γ (Γ Δ)->Γ Int->Γ aS->Prop
 | 0,_,_,_,_,_=>False
 | n+1,v7,h1,x0,h0,ds=>if decide (v7<(x0.length:Int))then Jb n (aA #[]) 0 x0 v7 h0 h1 ds else ds=[aJ (.sl .str) h1]
def Jb:Nat->Δ->Int->Γ (Γ Δ)->Int->Γ Int->Γ Δ->Γ aS->Prop
 | 0,_,_,_,_,_,_,_=>False
 | n+1,v8,v9,x0,v7,h0,h1,ds=>0<=v7/\v7<(x0.length:Int)/\if decide (v9<(↑(aF (aD x0 (aE v7) [])):Int))then(if decide (v9>0)then aG v8+2<=9223372036854775807/\0<=v7/\v7<(x0.length:Int)/\0<=v9/\v9<(↑(aF (aD x0 (aE v7) [])):Int)/\aG (v8++aA #[32,32])+aG (aD (aD x0 (aE v7) []) (aE v9) aC)<=9223372036854775807/\0<=v7/\v7<(x0.length:Int)/\0<=v9/\v9<(↑(aF (aD x0 (aE v7) [])):Int)/\RS n (v8++aA #[32,32]++aD (aD x0 (aE v7) []) (aE v9) aC) ((↑(aG (aD (aD x0 (aE v7) []) (aE v9) aC)):Int)) x0 v7 v9 h0 h1 ds else 0<=v7/\v7<(x0.length:Int)/\0<=v9/\v9<(↑(aF (aD x0 (aE v7) [])):Int)/\aG v8+aG (aD (aD x0 (aE v7) []) (aE v9) aC)<=9223372036854775807/\0<=v7/\v7<(x0.length:Int)/\0<=v9/\v9<(↑(aF (aD x0 (aE v7) [])):Int)/\RS n (v8++aD (aD x0 (aE v7) []) (aE v9) aC) ((↑(aG (aD (aD x0 (aE v7) []) (aE v9) aC)):Int)) x0 v7 v9 h0 h1 ds)else NK n x0 v7 v8 h0 h1 ds
def RS:Nat->Δ->Int->Γ (Γ Δ)->Int->Int->Γ Int->Γ Δ->Γ aS->Prop
 | 0,_,_,_,_,_,_,_,_=>False
 | n+1,v8,v10,x0,v7,v9,h0,h1,ds=>0<=v9/\v9<(h0.length:Int)/\if decide (v10<aD h0 (aE v9) 0)then aG v8+1<=9223372036854775807/\bA .i64 (v10+1)/\RS n (v8++aA #[32]) (v10+1) x0 v7 v9 h0 h1 ds else bA .i64 (v9+1)/\Jb n v8 (v9+1) x0 v7 h0 h1 ds
def NK:Nat->Γ (Γ Δ)->Int->Δ->Γ Int->Γ Δ->Γ aS->Prop
 | 0,_,_,_,_,_,_=>False
 | n+1,x0,v7,v8,h0,h1,ds=>if decide ((↑(aG v8):Int)>0)then bA .i64 ((↑(aG v8):Int)-1)/\0<=(↑(aG v8):Int)-1/\(↑(aG v8):Int)-1<(↑(aG v8):Int)/\if(↑(cR (aD (cE (bO v8)) (aE ((↑(aG v8):Int)-1)) 0)):Int)==32 then bA .i64 ((↑(aG v8):Int)-1)/\0<=(↑(aG v8):Int)-1/\(↑(aG v8):Int)-1<=(↑(aG v8):Int)/\NK n x0 v7 (aN v8 0 (aE ((↑(aG v8):Int)-1))) h0 h1 ds else(aF h1+1)*16<=140737488355328/\bA .i64 (v7+1)/\G5 n (v7+1) (h1++[v8]) x0 h0 ds else(aF h1+1)*16<=140737488355328/\bA .i64 (v7+1)/\G5 n (v7+1) (h1++[v8]) x0 h0 ds
end
theorem bIz(ds:Γ aS)(K:gU)(q:Nat->Value):∀n,(∀ {x0},R94 n x0 ds->St d94 (x0,()) ds [] K q)/\(∀ {v4 h0 x0},XK n v4 h0 x0 ds->Cu d94 3 ([eL 0 (.sl .str) x0,eW 3 0,eI 4 v4],[cN (.int .i64) h0]) ds [] K q)/\(∀ {v5 h0 x0 v4},XL n v5 h0 x0 v4 ds->Cu d94 6 ([eL 0 (.sl .str) x0,eW 3 0,eI 4 v4,eI 5 v5],[cN (.int .i64) h0]) ds [] K q)/\(∀ {v7 h1 x0 h0},G5 n v7 h1 x0 h0 ds->Cu d94 12 ([eL 0 (.sl .str) x0,eW 3 0,eW 6 1,eI 7 v7],[cN (.int .i64) h0,cN .str h1]) ds [] K q)/\(∀ {v8 v9 x0 v7 h0 h1},Jb n v8 v9 x0 v7 h0 h1 ds->Cu d94 16 ([eL 0 (.sl .str) x0,eW 3 0,eW 6 1,eI 7 v7,eS 8 v8,eI 9 v9],[cN (.int .i64) h0,cN .str h1]) ds [] K q)/\(∀ {v8 v10 x0 v7 v9 h0 h1},RS n v8 v10 x0 v7 v9 h0 h1 ds->Cu d94 22 ([eL 0 (.sl .str) x0,eW 3 0,eW 6 1,eI 7 v7,eS 8 v8,eI 9 v9,eI 10 v10],[cN (.int .i64) h0,cN .str h1]) ds [] K q)/\(∀ {x0 v7 v8 h0 h1},NK n x0 v7 v8 h0 h1 ds->Cu d94 25 ([eL 0 (.sl .str) x0,eW 3 0,eW 6 1,eI 7 v7,eS 8 v8],[cN (.int .i64) h0,cN .str h1]) ds [] K q):=nI ⟨aH,aH,aH,aH,aH,aH,aH⟩ λn ⟨i,i3,i6,i12,i16,i22,i25⟩=>⟨pq 12<|rY ((by decide):(12:Int)<=(12:Int))<|rY ((by decide):(96:Int)<=(281474976710656:Int))<|cX i3,
  bU (cX i6)<|cX i12,
  eE<|bU (eE<|eE<|eE<|bU (eE<|eE<|eE<|aO<|cX i6)<|aO<|cX i6)<|aO<|cX i3,
  bU (cX i16) dR,
  eE<|bU (bU (aO<|eE<|eE<|aO<|eE<|eE<|cX i22)<|eE<|eE<|aO<|eE<|eE<|cX i22)<|cX i25,
  eE<|bU (aO<|aO<|cX i22)<|aO<|cX i16,
  bU (aO<|eE<|bU (aO<|eE<|cX i25)<|aO<|aO<|cX i12)<|dN<|aO<|aO<|cX i12⟩
def Sv:Nat->Γ Δ->Γ Int->Γ Int
 | _,[],h=>h
 | k,c::r,h=>Sv (k+1) r (if((c.size:Nat):Int)>h.getD k 0 then h.set k (c.size:Nat)else h)
def CY(n:Nat):Γ UInt8:=aQ n 32
def aGo:Nat->Γ Δ->Γ Int->Γ UInt8->Γ UInt8
 | _,[],_,v=>v
 | k,c::r,h,v=>aGo (k+1) r h ((v++(if k>0 then [32,32] else [])++c.data.toList)++CY (h.getD k 0-(c.size:Nat)).toNat)
def G6(h:Γ Int)(r:Γ Δ):Δ:=⟨(fE (aGo 0 r h []) 32).toArray⟩
def aBP(x0:Γ (Γ Δ)):Γ Int:=x0.foldl (λh r=>Sv 0 r h) [0,0,0,0,0,0,0,0,0,0,0,0]
def FD(x0:Γ (Γ Δ)):Γ Δ:=x0.map (G6 (aBP x0))
theorem aQJ{h:Γ Int}(hw:zN h)(k:Nat):0<=h.getD k 0/\h.getD k 0<=4000000:=by
 by_cases hk:k<h.length
 ·exact hw.2 _ (bY h k 0 hk)
 grind
theorem aQK{h:Γ Int}(hw:zN h)(k:Nat){c:Δ}(hc:c.size<=4000000):zN (if((c.size:Nat):Int)>h.getD k 0 then h.set k (c.size:Nat)else h):=by
 split
 ·refine⟨by rw[iR];exact hw.1,λy hy=>?_⟩;rcases List.mem_or_eq_of_mem_set hy with hy | rfl
  ·exact hw.2 y hy
  lia
 lia
theorem aQL:∀(r:Γ Δ) (k:Nat) (h:Γ Int),zN h->(∀c∈r,c.size<=4000000)->zN (Sv k r h)
 | [],_,_,hw,_=>hw
 | c::r,k,h,hw,hc=>aQL r (k+1) _ (aQK hw k (hc c (aR ..))) (λd hd=>hc d (aM _ hd))
theorem bM6(v:Δ)(h:0<v.size)(hl:v.data.toList.getD (v.size-1) 0=32):fE (aN v 0 (v.size-1)).data.toList 32=fE v.data.toList 32:=by
 obtain⟨⟨l⟩⟩:=v;have hs:(aA ⟨l⟩).size=l.length:=rfl;rw[hs]at *;have e:(aN ⟨⟨l⟩⟩ 0 (l.length-1)).data.toList=l.dropLast:=by
  rw[ByteArray.data_extract];simp[List.dropLast_eq_take]
 rw[e];have h':0<l.length:=h;have hne:l≠[]:=λhn=>by rw[hn]at h;exact absurd h (by decide)
 have hd:l=l.dropLast++[32]:=by
  have h1:=List.dropLast_concat_getLast hne;have h2:l.getLast hne=32:=by
   rw[List.getLast_eq_getElem];have:l.getD (l.length-1) 0=32:=hl
   rwa [jX l _ 0 (by omega)]at this
  rw[h2]at h1;exact h1.symm
 show fE l.dropLast 32=fE l 32
 conv=>rhs;rw[hd]
 unfold fE;rw[uJ,List.reverse_singleton,List.singleton_append,BH,π (by decide)]
theorem aWT(v:Δ)(hl:0<v.size->v.data.toList.getD (v.size-1) 0≠32):(⟨(fE v.data.toList 32).toArray⟩:Δ)=v:=by
 obtain⟨⟨l⟩⟩:=v;have hs:(aA ⟨l⟩).size=l.length:=rfl;rw[hs]at hl
 congr 2
 show fE l 32=l;rcases List.eq_nil_or_concat l with rfl | ⟨a,b,hab⟩
 ·rfl
 ·rw[List.concat_eq_append]at hab;subst hab;have hb:b≠32:=by
   have:=hl (by simp);have e:(a++[b]).length-1=a.length:=by simp
   have e2:aD (a++[b]) ((a++[b]).length-1) 0=b:=by rw[e];simp[bC]
   exact λh=>this (e2.trans h)
  unfold fE;simp[uJ,BH,hb]
section
variable {x0:Γ (Γ Δ)} {ds:Γ aS}
variable {h0:Γ Int}
theorem bI0{v7:Nat}{h1:Γ Δ}(hv:v7<1100000)(hl:h1.length<=1100000):∀(m:Nat) (v8:Δ),v8.size=m->v8.size<=100000000->(∃n,G5 n ((v7:Int)+1) (h1++[⟨(fE v8.data.toList 32).toArray⟩]) x0 h0 ds)->∃n,NK n x0 (v7:Int) v8 h0 h1 ds:=by
 intro m
 induction m with
 | zero =>
  intro v8 hm _ ⟨n,hn⟩;refine⟨n+1,?_⟩;rw[NK]
  grind [aWT,aK]
 | succ m ih =>
  intro v8 hm hb ⟨n,hn⟩;have e1:(((v8.size:Nat):Int)-1).toNat=v8.size-1:=by lia
  by_cases hc:v8.data.toList.getD (v8.size-1) 0=32
  ·obtain⟨n',hn'⟩:=ih (aN v8 0 (v8.size-1)) (by simp_all) (by grind [nA]) ⟨n,by grind [bM6]⟩;refine⟨n'+1,?_⟩;rw[NK,π (by lia)];rw[π (by simp_all)]
   grind [aK]
  ·refine⟨n+1,?_⟩;rw[NK,π (by lia)];rw[ν (λh=>hc (by
    exact jL.1 (by lia)))]
   grind [aWT,aK]
theorem aWU{v7 v9:Nat}{h1:Γ Δ}(hw:zN h0)(h9:v9<12):∀(k:Nat) (v8:Δ) (v10:Int),k=(h0.getD v9 0-v10).toNat->0<=v10->v8.size+k<=100000000->v10<=4000000 ->
  (∃n,Jb n ⟨(v8.data.toList++CY k).toArray⟩ ((v9:Int)+1) x0 (v7:Int) h0 h1 ds)->∃n,RS n v8 v10 x0 (v7:Int) (v9:Int) h0 h1 ds:=by
 have hg:=aQJ hw v9;intro k
 induction k with
 | zero =>
  intro v8 v10 hk h10 hs hv ⟨n,hn⟩;refine⟨n+1,?_⟩;have e:(⟨(v8.data.toList++CY 0).toArray⟩:Δ)=v8:=by simp[CY]
  refine⟨by lia,by rw[hw.1];lia,?_⟩
  grind [aK]
 | succ k ih =>
  intro v8 v10 hk h10 hs hv ⟨n,hn⟩;have s1:(aA #[32]).size=1:=rfl;have e:(⟨((v8++aA #[32]).data.toList++CY k).toArray⟩:Δ)=⟨(v8.data.toList++CY (k+1)).toArray⟩:=by
   simp[CY,List.replicate_succ]
  obtain⟨n',hn'⟩:=ih (v8++aA #[32]) (v10+1) (by lia) (by lia) (by grind) (by lia) ⟨n,by lia⟩;refine⟨n'+1,?_⟩;rw[RS]
  grind [aK]
theorem bI1{v7:Nat}{h1:Γ Δ}(hw:zN h0)(h7:v7<x0.length)(hr:(x0.getD v7 []).length<=12)(hc:∀c∈x0.getD v7 [],c.size<=4000000)(hv:v7<1100000)(hl:h1.length<=1100000) :
  ∀(k v9:Nat) (v8:Δ),v9+k=(x0.getD v7 []).length->v8.size<=v9*4000002->(∃n,G5 n ((v7:Int)+1) (h1++[⟨(fE (aGo v9 ((x0.getD v7 []).drop v9) h0 v8.data.toList) 32).toArray⟩]) x0 h0 ds)->∃n,Jb n v8 (v9:Int) x0 (v7:Int) h0 h1 ds:=by
 intro k
 induction k with
 | zero =>
  intro v9 v8 hk hs hn;rw[xD _ v9 (by omega)]at hn;obtain⟨n,hn⟩:=bI0 (v8:=v8) hv hl _ rfl (by omega) hn;refine⟨n+1,?_⟩;rw[Jb];simp only[aI];refine⟨by omega,by omega,?_⟩;rw[ν (by simp only[ε];omega)];exact hn
 | succ k ih =>
  intro v9 v8 hk hs hn;have h9:v9<(x0.getD v7 []).length:=by omega
  have hcell:=hc _ (bY (x0.getD v7 []) v9 aC h9);have hg:=aQJ hw v9;have s2:(aA #[32,32]).size=2:=rfl;have z:∀l:Γ UInt8,(aA l.toArray).size=l.length:=λl=>List.size_toArray;rw[eD _ v9 aC h9]at hn;simp only[aGo]at hn;generalize hcl:(x0.getD v7 []).getD v9 aC=c at *;have hcs:c.data.toList.length=c.size:=rfl;have hv8:v8.data.toList.length=v8.size:=rfl;by_cases h0':v9>0
  ·rw[π h0']at hn;have e:(⟨((v8++aA #[32,32]++c).data.toList++CY (h0.getD v9 0-(c.size:Nat)).toNat).toArray⟩:Δ).data.toList=(v8.data.toList++[32,32]++c.data.toList)++CY (h0.getD v9 0-(c.size:Nat)).toNat:=by
    simp[rO]
   obtain⟨n,hn⟩:=aWU (x0:=x0) (ds:=ds) (v7:=v7) (h1:=h1) hw (by omega) _ (v8++aA #[32,32]++c) ((c.size:Nat):Int) rfl (by omega) (by rw[bD,bD,s2];omega) (by omega) (ih (v9+1) _ (by omega) (by rw[z];simp only[aU,CY,rN,rO,BG,hcs,hv8];have:([32,32]:Γ UInt8).length=2:=rfl;show _+_+_+_<=_;simp only[cL,Aw];omega) (by rw[e];exact hn));refine⟨n+1,?_⟩;rw[Jb];simp only[aI,hcl];refine⟨by omega,by omega,?_⟩;rw[π (by simp only[ε];omega),π (by simp only[ε];omega)];exact⟨by omega,by omega,by omega,by omega,by omega,by rw[bD,s2];omega,by omega,by omega,by omega,by omega,hn⟩
  ·rw[ν h0']at hn;have e:(⟨((v8++c).data.toList++CY (h0.getD v9 0-(c.size:Nat)).toNat).toArray⟩:Δ).data.toList=(v8.data.toList++[]++c.data.toList)++CY (h0.getD v9 0-(c.size:Nat)).toNat:=by
    simp[rO]
   obtain⟨n,hn⟩:=aWU (x0:=x0) (ds:=ds) (v7:=v7) (h1:=h1) hw (by omega) _ (v8++c) ((c.size:Nat):Int) rfl (by omega) (by rw[bD];omega) (by omega) (ih (v9+1) _ (by omega) (by rw[z];simp only[aU,CY,rN,rO,BG,hcs,hv8];omega) (by rw[e];exact hn));refine⟨n+1,?_⟩;rw[Jb];simp only[aI,hcl];refine⟨by omega,by omega,?_⟩;rw[π (by simp only[ε];omega),ν (by simp only[ε];omega)];exact⟨by omega,by omega,by omega,by omega,by omega,by omega,by omega,by omega,by omega,hn⟩
theorem bI2(hw:zN h0)(hx:x0.length<=1100000)(hr:∀r∈x0,r.length<=12/\∀c∈r,c.size<=4000000):∀(k v7:Nat) (h1:Γ Δ),v7+k=x0.length->h1.length=v7->∃n,G5 n (v7:Int) h1 x0 h0 [⟨.sl .str,h1++(x0.drop v7).map (G6 h0)⟩]:=by
 intro k
 induction k with
 | zero =>
  intro v7 h1 hk hl;refine⟨1,?_⟩;rw[G5,ν (by simp only[ε];omega),xD _ v7 (by omega)];simp
 | succ k ih =>
  intro v7 h1 hk hl;have h7:v7<x0.length:=by omega
  obtain⟨r1,r2⟩:=hr _ (bY x0 v7 [] h7);obtain⟨n,hn⟩:=ih (v7+1) (h1++[G6 h0 (x0.getD v7 [])]) (by omega) (by rw[aU,hl]<;>rfl);have e:h1++[G6 h0 (x0.getD v7 [])]++A5 (G6 h0) (x0.drop (v7+1))=h1++A5 (G6 h0) (x0.drop v7):=by
   rw[eD x0 v7 [] h7];simp
  have e1:(((v7+1:Nat)):Int)=(v7:Int)+1:=by omega
  rw[e,e1]at hn;obtain⟨n',hn'⟩:=bI1 (h1:=h1) (v7:=v7) hw h7 r1 r2 (by omega) (by omega) (x0.getD v7 []).length 0 aC (by omega) (bG _) ⟨n,hn⟩;refine⟨n'+1,?_⟩;rw[G5,π (by simp only[ε];omega)];exact hn'
theorem bM7{v4:Nat}(h4:v4<x0.length)(hr:(x0.getD v4 []).length<=12)(hc:∀c∈x0.getD v4 [],c.size<=4000000)(hv:v4<1100000) :
  ∀(k v5:Nat) (h0:Γ Int),v5+k=(x0.getD v4 []).length->zN h0->(∃n,XK n ((v4:Int)+1) (Sv v5 ((x0.getD v4 []).drop v5) h0) x0 ds)->∃n,XL n (v5:Int) h0 x0 (v4:Int) ds:=by
 intro k
 induction k with
 | zero =>
  intro v5 h0 hk hw ⟨n,hn⟩;rw[xD _ v5 (by lia)]at hn;refine⟨n+1,?_⟩;rw[XL];simp only[aI];refine⟨by lia,by lia,?_⟩;rw[ν (by lia)];exact⟨by grind [aK],hn⟩
 | succ k ih =>
  intro v5 h0 hk hw hn;have h5:v5<(x0.getD v4 []).length:=by lia
  have hcell:=hc _ (bY (x0.getD v4 []) v5 aC h5);have hlen:=hw.1;rw[eD _ v5 aC h5]at hn;have hw2:=aQK hw v5 hcell;obtain⟨n,hn⟩:=ih (v5+1) _ (by lia) hw2 hn;refine⟨n+1,?_⟩;rw[XL];simp;by_cases hgt:((((x0.getD v4 []).getD v5 aC).size:Nat):Int)>h0.getD v5 0
  ·grind [aK]
  ·grind [aK]
theorem bM8(hx:x0.length<=1100000)(hr:∀r∈x0,r.length<=12/\∀c∈r,c.size<=4000000):∀(k v4:Nat) (h0:Γ Int),v4+k=x0.length->zN h0 ->
  ∃n,XK n (v4:Int) h0 x0 [⟨.sl .str,x0.map (G6 ((x0.drop v4).foldl (λh r=>Sv 0 r h) h0))⟩]:=by
 intro k
 induction k with
 | zero =>
  intro v4 h0 hk hw;obtain⟨n,hn⟩:=bI2 (x0:=x0) hw hx hr x0.length 0 [] (by lia) rfl;refine⟨n+1,?_⟩;rw[XK]
  grind
 | succ k ih =>
  intro v4 h0 hk hw;have h4:v4<x0.length:=by lia
  obtain⟨r1,r2⟩:=hr _ (bY x0 v4 [] h4);obtain⟨n,hn⟩:=ih (v4+1) (Sv 0 (x0.getD v4 []) h0) (by lia) (aQL _ 0 h0 hw r2);rw[eD x0 v4 [] h4,fR];obtain⟨n',hn'⟩:=bM7 (x0:=x0) h4 r1 r2 (by lia) (x0.getD v4 []).length 0 h0 (by lia) hw ⟨n,hn⟩;refine⟨n'+1,?_⟩;rw[XK]
  lia
end
theorem bI3(x0:Γ (Γ Δ))(h:bLM x0):∃n,R94 n x0 [⟨.sl .str,FD x0⟩]:=by
 obtain⟨n,hn⟩:=bM8 h.1 h.2 x0.length 0 _ (by omega) aWv;refine⟨n+1,?_⟩;rw[R94];simpa [FD,aBP] using hn
def bMA:KK:=mL d94 (DO aH4) bLM (FD,()) (λ⟨x0,_⟩ h hwf K q =>
 let ⟨n,hn⟩:=bI3 x0 h
 (bIz _ K q n).1 hn)
def bBx:jB:=D0 aDW [.v (.str)] [.bool] []
mutual
def bBy:Nat->Δ->Γ aS->Prop
 | 0,_,_=>False
 | n+1,x0,ds=>Jd n 0 x0 ds
def Jd:Nat->Int->Δ->Γ aS->Prop
 | 0,_,_,_=>False
 | n+1,v3,x0,ds=>if decide (v3<(↑(aG x0):Int))then 0<=v3/\v3<(↑(aG x0):Int)/\if decide ((↑(cR (aD (cE (bO x0)) (aE v3) 0)):Int)<32)then ds=[aJ .bool false] else 0<=v3/\v3<(↑(aG x0):Int)/\if decide ((↑(cR (aD (cE (bO x0)) (aE v3) 0)):Int)>126)then ds=[aJ .bool false] else bA .i64 (v3+1)/\Jd n (v3+1) x0 ds else ds=[aJ .bool (decide ((↑(aG x0):Int)<=100))]
end
def bBz(ds:Γ aS)(K:gU)(q:Nat->Value):∀n,(∀ {x0},bBy n x0 ds->St bBx (x0,()) ds [] K q)/\(∀ {v3 x0},Jd n v3 x0 ds->Cu bBx 2 ([eS 0 x0,eI 3 v3],[]) ds [] K q):=nI ⟨aH,aH⟩ λn ⟨i,i2⟩=>⟨cX i2,
  bU (eE<|bU (j0 dR)<|eE<|bU dR<|aO<|cX i2) dR⟩
def aAy(b:Int):Bool:=decide (32<=b)&&decide (b<=126)
def EJ(x0:Δ):Bool:=(b9 x0).all aAy&&decide (x0.size<=100)
theorem bB0(x0:Δ)(hw:Wf .str x0):bBy (x0.size+1+1) x0 [⟨.bool,EJ x0⟩]:=by
 have hl:=sF x0;rw[bBy];have key:=tG (b9 x0) 0 aAy [(⟨.bool,false⟩:aS)] [⟨.bool,decide (x0.size<=100)⟩] (λn i ds=>Jd n i x0 ds) (λn=>?_) (λn i hi hok ds hr=>?_) (λn i hi hok=>?_)
 ·rw[hl]at key;unfold EJ;cases h:(b9 x0).all aAy <;> rw[h]at key <;> simpa using key
 ·show Jd (n+1) ((b9 x0).length:Int) x0 _;rw[Jd,hl,ν (by simp)];simp only[aS.mk.injEq,heq_eq_eq,true_and,List.cons.injEq,and_true]
  congr 1
  exact propext ⟨λh=>by omega,λh=>by omega⟩
 ·simp only[aAy,aV,ε]at hok;rw[Jd,π (by simp;omega)];simp only[aI,I5];generalize (b9 x0).getD i 0=c at *;refine⟨by omega,by omega,?_⟩;rw[ν (by simp only[ε];omega)];refine⟨by omega,by omega,?_⟩;rw[ν (by simp only[ε];omega)];exact⟨jZ (xs:=b9 x0) (by rw[hl];exact hw) hi,hr⟩
 ·simp only[aAy,Bool.and_eq_false_iff,decide_eq_false_iff_not]at hok;rw[Jd,π (by simp;omega)];simp only[aI,I5];generalize (b9 x0).getD i 0=c at *;refine⟨by omega,by omega,?_⟩;by_cases h1:c<32
  ·rw[π (by simpa using h1)] <;> trivial
  ·rw[ν (by simpa using h1)];refine⟨by omega,by omega,?_⟩;rw[π (by simp only[ε];omega)] <;> trivial
def bI4:KK:=mL bBx (DO aDW) nP (EJ,()) (λ⟨x0,_⟩ h hwf K q =>
 (bBz _ K q _).1 (bB0 x0 hwf.1))
def bB1:jB:=D0 aDX [.v (.sl .str)] [.bool] [bI4]
mutual
def bB2:Nat->Γ Δ->Γ aS->Prop
 | 0,_,_=>False
 | n+1,x0,ds=>NL n 0 x0 ds
def NL:Nat->Int->Γ Δ->Γ aS->Prop
 | 0,_,_,_=>False
 | n+1,v3,x0,ds=>if decide (v3<(x0.length:Int))then 0<=v3/\v3<(x0.length:Int)/\if !EJ (aD x0 (aE v3) aC)then ds=[aJ .bool false] else bA .i64 (v3+1)/\NL n (v3+1) x0 ds else ds=[aJ .bool (decide ((x0.length:Int)<=200))]
end
def bB3(ds:Γ aS)(K:gU)(q:Nat->Value):∀n,(∀ {x0},bB2 n x0 ds->St bB1 (x0,()) ds [] K q)/\(∀ {v3 x0},NL n v3 x0 ds->Cu bB1 2 ([eL 0 .str x0,eI 3 v3],[]) ds [] K q):=nI ⟨aH,aH⟩ λn ⟨i,i2⟩=>⟨cX i2,
  bU (eE<|bS<|bU dR<|aO<|cX i2) dR⟩
def G7(x0:Γ Δ):Bool:=x0.all EJ&&decide (x0.length<=200)
theorem bB4(x0:Γ Δ)(hw:Wf (.sl .str) x0):bB2 (x0.length+1+1) x0 [⟨.bool,G7 x0⟩]:=by
 rw[bB2];have key:=tG x0 aC EJ [(⟨.bool,false⟩:aS)] [⟨.bool,decide (x0.length<=200)⟩] (λn i ds=>NL n i x0 ds) (λn=>?_) (λn i hi hok ds hr=>?_) (λn i hi hok=>?_)
 ·unfold G7;cases h:x0.all EJ <;> rw[h]at key <;> simpa using key
 ·rw[NL,ν (by simp)];simp only[aS.mk.injEq,heq_eq_eq,true_and,List.cons.injEq,and_true]
  congr 1
  exact propext ⟨λh=>by omega,λh=>by omega⟩
 ·rw[NL,π (by simp;omega)];simp only[aI];refine⟨by omega,by omega,?_⟩;rw[ν (by rw[hok];simp)];exact⟨jZ hw.1 hi,hr⟩
 ·rw[NL,π (by simp;omega)];simp only[aI];refine⟨by omega,by omega,?_⟩;rw[π (by rw[hok];simp)] <;> trivial
def bI5:KK:=mL bB1 (DO aDX) nP (G7,()) (λ⟨x0,_⟩ h hwf K q =>
 (bB3 _ K q _).1 (bB4 x0 hwf.1))
def On(x0:Γ Δ):Γ Δ:=if !G7 x0 then [] else x0
def XM(x0:Γ Δ):Int:=if !G7 x0 then 5 else 0
def bMB:KK:=mV Tryz.func93 [.own .str] [.sl .str,.int .i64] [bI5] nP (λ_=>[none]) (On,XM,()) λ_=>bS<|vD pr pr
def d27:jB:=D0 aH5 [.v (.sl dX)] [.sl .str,.int .i64] [aTI,bIy,aJz,bMA,bMB]
mutual
def R27:Nat->Γ c7->Γ aS->Prop
 | 0,_,_=>False
 | n+1,x0,ds=>if !wF x0 then ds=[aJ (.sl .str) [],aJ (.int .i64) 1] else aAz n 0 ([[aA #[100,97,121],aA #[98,114,111,107,101,110],aA #[119,111,114,110]]]) x0 ds
def aAz:Nat->Int->Γ (Γ Δ)->Γ c7->Γ aS->Prop
 | 0,_,_,_,_=>False
 | n+1,v5,h0,x0,ds=>if decide (v5<(x0.length:Int))then 0<=v5/\v5<(x0.length:Int)/\P91 (aD x0 (aE v5) (0,0,0,())).1/\(aF h0+1)*24<=140737488355328/\bA .i64 (v5+1)/\aAz n (v5+1) (h0++[[XJ (aD x0 (aE v5) (0,0,0,())).1,kI (aD x0 (aE v5) (0,0,0,())).2.1,kI (aD x0 (aE v5) (0,0,0,())).2.2.1]]) x0 ds else bLM h0/\ds=[aJ (.sl .str) (On (FD h0)),aJ (.int .i64) (XM (FD h0))]
end
def bI6(ds:Γ aS)(K:gU)(q:Nat->Value):∀n,(∀ {x0},R27 n x0 ds->St d27 (x0,()) ds [] K q)/\(∀ {v5 h0 x0},aAz n v5 h0 x0 ds->Cu d27 5 ([eL 0 dX x0,eW 4 0,eI 5 v5],[some (iJ.mk (.sl .str) h0 true none none)]) ds [] K q):=nI ⟨aH,aH⟩ λn ⟨i,i5⟩=>⟨bS<|bU dR<|cX i5,
  bU (eE<|aO<|bS<|bS<|aO<|aO<|cX i5)<|aO<|bS dR⟩
def aBQ:Γ Δ:=[aA #[100,97,121],aA #[98,114,111,107,101,110],aA #[119,111,114,110]]
def NM(f:c7):Γ Δ:=[XJ f.1,kI f.2.1,kI f.2.2.1]
def P27(x0:Γ c7):Prop:=wF x0=true->x0.length<=1000/\∀f∈x0,P91 f.1/\∀c∈NM f,c.size<=4000000
def Sw(x0:Γ c7):Γ Δ:=if wF x0 then On (FD (aBQ::x0.map NM))else []
def XN(x0:Γ c7):Int:=if wF x0 then XM (FD (aBQ::x0.map NM))else 1
theorem bI8{x0:Γ c7}(hl:x0.length<=1000)(hc:∀f∈x0,∀c∈NM f,c.size<=4000000):bLM (aBQ::x0.map NM):=by
 refine⟨by grind,λr hr=>?_⟩;rcases aW.1 hr with rfl | hr
 ·exact⟨by decide,by decide⟩
 ·obtain⟨f,hf,rfl⟩:=dK.1 hr;exact⟨by show 3<=12;lia,hc f hf⟩
theorem bI9(x0:Γ c7)(hl:x0.length<=1000)(hc:∀f∈x0,P91 f.1/\∀c∈NM f,c.size<=4000000):∀(k i:Nat),i+k=x0.length ->
  aAz (k+1) (i:Int) (aBQ::(x0.take i).map NM) x0 [⟨.sl .str,On (FD (aBQ::x0.map NM))⟩,⟨.int .i64,XM (FD (aBQ::x0.map NM))⟩]:=by
 intro k
 induction k with
 | zero =>
  intro i hi;rw[aAz,ν (by simp only[ε];omega),cW (by omega)];exact⟨bI8 hl (λf hf=>(hc f hf).2),rfl⟩
 | succ k ih =>
  intro i hi;have hlt:i<x0.length:=by omega
  have h:=ih (i+1) (by omega);have e1:(((i+1:Nat)):Int)=(i:Int)+1:=by omega
  rw[e1]at h;have hm:=bY x0 i ((0:Int),(0:Int),(0:Int),()) hlt;rw[aAz,π (by simp only[ε];omega)];simp only[aI];refine⟨by omega,by omega,(hc _ hm).1,?_,by rw[aK];omega,?_⟩
  ·simp only[cL,cM,bW];omega
  ·have e:x0.take (i+1)=x0.take i++[x0.getD i ((0:Int),(0:Int),(0:Int),())]:=by
    rw[jX x0 i _ hlt,List.take_append_getElem hlt]
   rw[e,iQ]at h;exact h
theorem bIA(x0:Γ c7)(h:P27 x0):∃n,R27 n x0 [⟨.sl .str,Sw x0⟩,⟨.int .i64,XN x0⟩]:=by
 unfold Sw XN;cases hv:wF x0 with
 | false =>
  refine⟨1,?_⟩;rw[R27,π (by rw[hv];rfl)];rfl
 | true =>
  obtain⟨hl,hc⟩:=h hv;refine⟨x0.length+1+1,?_⟩;rw[R27,ν (by rw[hv];simp)];simp only[if_true];exact bI9 x0 hl hc x0.length 0 (by omega)
def bMD:KK:=mL d27 (DO aH5) P27 (Sw,XN,()) (λ⟨x0,_⟩ h hwf K q =>
 let ⟨n,hn⟩:=bIA x0 h
 (bI6 _ K q n).1 hn)
def d29:jB:=D0 aH6 [.v iU] [.sl .str,.int .i64] [bMk,aJz]
mutual
def R29:Nat->bV->Γ aS->Prop
 | 0,_,_=>False
 | n+1,x0,ds=>if !Wh x0 then ds=[aJ (.sl .str) [],aJ (.int .i64) 1] else aA0 n 0 ([]) x0 ds
def aA0:Nat->Int->Γ Δ->bV->Γ aS->Prop
 | 0,_,_,_,_=>False
 | n+1,v7,h2,x0,ds=>if decide (v7<9)then 0<=v7/\v7<9/\aG (aD [aA #[98,101,110,100,115],aA #[104,111,117,114,115],aA #[108,105,109,105,116,115],aA #[119,111,114,107,101,114,115],aA #[108,105,116,114,101,115],aA #[102,97,114,101,115],aA #[116,101,115,116,115],aA #[104,101,108,112,101,114,115],aA #[116,97,115,107,115]] (aE v7) aC)+1<=9223372036854775807/\0<=v7/\v7<(↑9:Int)/\aG (aD [aA #[98,101,110,100,115],aA #[104,111,117,114,115],aA #[108,105,109,105,116,115],aA #[119,111,114,107,101,114,115],aA #[108,105,116,114,101,115],aA #[102,97,114,101,115],aA #[116,101,115,116,115],aA #[104,101,108,112,101,114,115],aA #[116,97,115,107,115]] (aE v7) aC++aA #[32])+aG (kI (aD [(x0.1.length:Int),(x0.2.2.1.length:Int),(x0.2.2.2.1.length:Int),(x0.2.2.2.2.2.2.1.length:Int),x0.2.2.2.2.2.2.2.1.2.2.1,(x0.2.2.2.2.2.2.2.2.1.length:Int),(x0.2.2.2.2.2.2.2.2.2.1.length:Int),(x0.2.2.2.2.2.2.2.2.2.2.1.length:Int),(x0.2.2.2.2.2.2.2.2.2.2.2.1.length:Int)] (aE v7) 0))<=9223372036854775807/\(aF h2+1)*16<=140737488355328/\bA .i64 (v7+1)/\aA0 n (v7+1) (h2++[aD [aA #[98,101,110,100,115],aA #[104,111,117,114,115],aA #[108,105,109,105,116,115],aA #[119,111,114,107,101,114,115],aA #[108,105,116,114,101,115],aA #[102,97,114,101,115],aA #[116,101,115,116,115],aA #[104,101,108,112,101,114,115],aA #[116,97,115,107,115]] (aE v7) aC++aA #[32]++kI (aD [(x0.1.length:Int),(x0.2.2.1.length:Int),(x0.2.2.2.1.length:Int),(x0.2.2.2.2.2.2.1.length:Int),x0.2.2.2.2.2.2.2.1.2.2.1,(x0.2.2.2.2.2.2.2.2.1.length:Int),(x0.2.2.2.2.2.2.2.2.2.1.length:Int),(x0.2.2.2.2.2.2.2.2.2.2.1.length:Int),(x0.2.2.2.2.2.2.2.2.2.2.2.1.length:Int)] (aE v7) 0)]) x0 ds else ds=[aJ (.sl .str) h2,aJ (.int .i64) 0]
end
def bIB(ds:Γ aS)(K:gU)(q:Nat->Value):∀n,(∀ {x0},R29 n x0 ds->St d29 (x0,()) ds [] K q)/\(∀ {v7 h2 x0},aA0 n v7 h2 x0 ds->Cu d29 7 ([eW 4 0,eW 5 1,eW 6 2,eI 7 v7],[cN .str [aA #[98,101,110,100,115],aA #[104,111,117,114,115],aA #[108,105,109,105,116,115],aA #[119,111,114,107,101,114,115],aA #[108,105,116,114,101,115],aA #[102,97,114,101,115],aA #[116,101,115,116,115],aA #[104,101,108,112,101,114,115],aA #[116,97,115,107,115]],cN (.int .i64) [(x0.1.length:Int),(x0.2.2.1.length:Int),(x0.2.2.2.1.length:Int),(x0.2.2.2.2.2.2.1.length:Int),x0.2.2.2.2.2.2.2.1.2.2.1,(x0.2.2.2.2.2.2.2.2.1.length:Int),(x0.2.2.2.2.2.2.2.2.2.1.length:Int),(x0.2.2.2.2.2.2.2.2.2.2.1.length:Int),(x0.2.2.2.2.2.2.2.2.2.2.2.1.length:Int)],cN .str h2]) ds [] K q):=nI ⟨aH,aH⟩ λn ⟨i,i7⟩=>⟨bS<|bU dR<|cX i7,
  bU (eE<|aO<|eE<|bS<|aO<|aO<|aO<|cX i7) dR⟩
def W29:Γ Δ:=[aA #[98,101,110,100,115],aA #[104,111,117,114,115],aA #[108,105,109,105,116,115],aA #[119,111,114,107,101,114,115],aA #[108,105,116,114,101,115],aA #[102,97,114,101,115],aA #[116,101,115,116,115],aA #[104,101,108,112,101,114,115],aA #[116,97,115,107,115]]
def N29(x0:bV):Γ Int:=[((x0.1.length:Nat):Int),((x0.2.2.1.length:Nat):Int),((x0.2.2.2.1.length:Nat):Int),((x0.2.2.2.2.2.2.1.length:Nat):Int),x0.2.2.2.2.2.2.2.1.2.2.1,((x0.2.2.2.2.2.2.2.2.1.length:Nat):Int),((x0.2.2.2.2.2.2.2.2.2.1.length:Nat):Int),((x0.2.2.2.2.2.2.2.2.2.2.1.length:Nat):Int),((x0.2.2.2.2.2.2.2.2.2.2.2.1.length:Nat):Int)]
def aQM(w:Δ)(n:Int):Δ:=w++aA #[32]++kI n
def XO(x0:bV):Γ Δ:=if Wh x0 then tS aQM W29 (N29 x0)else []
def XP(x0:bV):Int:=if Wh x0 then 0 else 1
theorem bMF(x0:bV)(hw:Wf iU x0):∀n∈N29 x0, -9223372036854775808<=n/\n<=9223372036854775807:=by
 have hmx:maxLen<=9223372036854775807:=by decide
 have a0:x0.1.length<=maxLen:=hw.1.1;have a2:x0.2.2.1.length<=maxLen:=hw.2.2.1.1;have a3:x0.2.2.2.1.length<=maxLen:=hw.2.2.2.1.1;have a6:x0.2.2.2.2.2.2.1.length<=maxLen:=hw.2.2.2.2.2.2.1.1;have a8:x0.2.2.2.2.2.2.2.2.1.length<=maxLen:=hw.2.2.2.2.2.2.2.2.1.1;have a9:x0.2.2.2.2.2.2.2.2.2.1.length<=maxLen:=hw.2.2.2.2.2.2.2.2.2.1.1;have aa:x0.2.2.2.2.2.2.2.2.2.2.1.length<=maxLen:=hw.2.2.2.2.2.2.2.2.2.2.1.1;have ab:x0.2.2.2.2.2.2.2.2.2.2.2.1.length<=maxLen:=hw.2.2.2.2.2.2.2.2.2.2.2.1.1;have a7:bA .i64 x0.2.2.2.2.2.2.2.1.2.2.1:=hw.2.2.2.2.2.2.2.1.2.2.1;rw[aK]at a7;intro n hn;unfold N29 at hn;simp only[aW,dH,or_false]at hn;rcases hn with rfl | rfl | rfl | rfl | rfl | rfl | rfl | rfl | rfl <;> omega
theorem bMG:∀w∈W29,w.size<=7:=by
 intro w hw;unfold W29 at hw;simp only[aW,dH,or_false]at hw;rcases hw with rfl | rfl | rfl | rfl | rfl | rfl | rfl | rfl | rfl <;> decide
theorem bIC(x0:bV)(hn:∀n∈N29 x0, -9223372036854775808<=n/\n<=9223372036854775807):∀(k i:Nat) (h:Γ Δ),i+k=9->h.length=i ->
  aA0 (k+1) (i:Int) h x0 [⟨.sl .str,h++tS aQM (W29.drop i) ((N29 x0).drop i)⟩,⟨.int .i64,0⟩]:=by
 intro k
 induction k with
 | zero =>
  intro i h hi hl;obtain rfl:i=9:=by omega
  rw[aA0,ν (by decide)];have e:tS aQM (W29.drop 9) ((N29 x0).drop 9)=[]:=rfl;rw[e,cK]
 | succ k ih =>
  intro i h hi hl;have lW:W29.length=9:=rfl;have lN:(N29 x0).length=9:=rfl;have mw:=bMG _ (bY W29 i aC (by omega));have mn:=hn _ (bY (N29 x0) i 0 (by omega));have hz:=wC _ mn.1 mn.2;have hnext:=ih (i+1) (h++[aQM (W29.getD i aC) ((N29 x0).getD i 0)]) (by omega) (by rw[aU,hl];rfl);have e1:(((i+1:Nat)):Int)=(i:Int)+1:=by omega
  rw[e1]at hnext;rw[eD W29 i aC (by omega),eD (N29 x0) i 0 (by omega),List.zipWith_cons_cons];rw[bZ]at hnext;rw[aA0,π (by simp only[ε];omega)];have s1:(aA #[32]).size=1:=rfl;have hws:(W29.getD i aC).size+1<=9223372036854775807:=by omega
  have hsum:(W29.getD i aC++aA #[32]).size+(l5 ((N29 x0).getD i 0)).size<=9223372036854775807:=by
   rw[bD,s1];omega
  simp only[aI];exact⟨by omega,by omega,hws,by omega,by omega,hsum,by omega,by rw[aK];omega,hnext⟩
theorem bID(x0:bV)(hw:Wf iU x0):∃n,R29 n x0 [⟨.sl .str,XO x0⟩,⟨.int .i64,XP x0⟩]:=by
 unfold XO XP;cases hv:Wh x0 with
 | false =>
  refine⟨1,?_⟩;rw[R29,π (by rw[hv];rfl)];rfl
 | true =>
  refine⟨9+1+1,?_⟩;rw[R29,ν (by rw[hv];simp)];exact bIC x0 (bMF x0 hw) 9 0 [] (by omega) rfl
def bMH:KK:=mL d29 (DO aH6) nP (XO,XP,()) (λ⟨x0,_⟩ h hwf K q =>
 let ⟨n,hn⟩:=bID x0 hwf.1
 (bIB _ K q n).1 hn)
def bMI:KK:=mB Tryz.func30 [] [.sl .str] [] nP (Es,()) λ_=>pr
def P14(x0:bV)(x1:Δ):Prop:=if aB x1==aB (aA #[114,117,110,110,105,110,103])then P25 (aGg x0.2.2.2.1 x0.2.2.1) (aGh x0.2.2.2.1 x0.2.2.1)/\True else if aB x1==aB (aA #[102,105,108,108])then P25 (aGl x0.2.2.2.2.2.2.2.2.2.2.1 x0.2.2.2.2.2.2.2.2.2.2.2.1) (aGm x0.2.2.2.2.2.2.2.2.2.2.1 x0.2.2.2.2.2.2.2.2.2.2.2.1)/\True else if aB x1==aB (aA #[114,101,112,111,114,116])then P27 x0.2.2.2.2.2.2.2.2.2.1/\P28 (Sw x0.2.2.2.2.2.2.2.2.2.1) (XN x0.2.2.2.2.2.2.2.2.2.1)/\True else if aB x1==aB (aA #[115,104,111,119])then P28 (XO x0) (XP x0)/\True else True
def Oo(x0:bV)(x1:Δ):Γ Δ:=if aB x1==aB (aA #[114,117,110,110,105,110,103])then XG (aGg x0.2.2.2.1 x0.2.2.1) (aGh x0.2.2.2.1 x0.2.2.1)else if aB x1==aB (aA #[102,105,108,108])then XG (aGl x0.2.2.2.2.2.2.2.2.2.2.1 x0.2.2.2.2.2.2.2.2.2.2.2.1) (aGm x0.2.2.2.2.2.2.2.2.2.2.1 x0.2.2.2.2.2.2.2.2.2.2.2.1)else if aB x1==aB (aA #[114,101,112,111,114,116])then FA (Sw x0.2.2.2.2.2.2.2.2.2.1) (XN x0.2.2.2.2.2.2.2.2.2.1)else if aB x1==aB (aA #[115,104,111,119])then FA (XO x0) (XP x0)else if aB x1==aB (aA #[104,101,108,112])then Es else []
def Oq(x0:bV)(x1:Δ):Bool:=if aB x1==aB (aA #[114,117,110,110,105,110,103])then true else if aB x1==aB (aA #[102,105,108,108])then true else if aB x1==aB (aA #[114,101,112,111,114,116])then true else if aB x1==aB (aA #[115,104,111,119])then true else if aB x1==aB (aA #[104,101,108,112])then true else false
def bMJ:KK:=mB Tryz.func14 [.p iU,.v (.str)] [.sl .str,.bool] [bMr,bBe,bM4,bMD,aQ9,bMH,bMI] P14 (Oo,Oq,()) λ_=>dP (bS<|aO pr)<|dP (bS<|aO pr)<|dP (aO<|aO pr)<|dP (bS<|aO pr)<|vD (bS pr) pr
def P96(x0:Δ):Prop:=((P6 x0 32)/\(if((↑(aF (cD x0 32)):Int) != 2)=true then True else((1<(↑(aF (cD x0 32)):Int))/\((P41 (aD (cD x0 32) 1 aC))/\(if(!pO (aD (cD x0 32) 1 aC))=true then True else(if((↑(aF (dJ (aD (cD x0 32) 1 aC))):Int) != 3)=true then True else((0<(↑(aF (cD x0 32)):Int))/\True)))))))
def DW(x0:Δ):Δ:=if(↑(aF (cD x0 32)):Int) != 2 then aA #[] else if !pO (aD (cD x0 32) 1 aC)then aA #[] else if(↑(aF (dJ (aD (cD x0 32) 1 aC))):Int) != 3 then aA #[] else aD (cD x0 32) 0 aC
def iT(x0:Δ):Γ Int:=if(↑(aF (cD x0 32)):Int) != 2 then [] else if !pO (aD (cD x0 32) 1 aC)then [] else if(↑(aF (dJ (aD (cD x0 32) 1 aC))):Int) != 3 then [] else dJ (aD (cD x0 32) 1 aC)
def BE(x0:Δ):Bool:=if(↑(aF (cD x0 32)):Int) != 2 then false else if !pO (aD (cD x0 32) 1 aC)then false else if(↑(aF (dJ (aD (cD x0 32) 1 aC))):Int) != 3 then false else true
def bIE:KK:=mB Tryz.func96 [.v (.str)] [.str,.sl Jy,.bool] [kx6,aJw] P96 (DW,iT,BE,()) λ_=>aO<|aBk pr<|pq 1<|aO<|aO<|aBk (j0 pr)<|aBk pr<|pq 0<|aO pr
def P31(x0:Δ):Prop:=((P96 x0)/\(if(!BE x0)=true then True else((0<(↑(aF (iT x0)):Int))/\((1<(↑(aF (iT x0)):Int))/\((2<(↑(aF (iT x0)):Int))/\True)))))
def XR(x0:Δ):eR:=if !BE x0 then(aC,0,0,0,())else if !Sp (DW x0,aD (iT x0) 0 0,aD (iT x0) 1 0,aD (iT x0) 2 0,())then(aC,0,0,0,())else(DW x0,aD (iT x0) 0 0,aD (iT x0) 1 0,aD (iT x0) 2 0,())
def LV(x0:Δ):Bool:=if !BE x0 then false else if !Sp (DW x0,aD (iT x0) 0 0,aD (iT x0) 1 0,aD (iT x0) 2 0,())then false else true
def bMK:KK:=mB Tryz.func31 [.v (.str)] [.cons .str dX,.bool] [bIE,bHC] P31 (XR,LV,()) λ_=>aO<|dP pr<|pq 0<|aO<|pq 1<|aO<|pq 2<|aO<|bS<|vD pr pr
def d99:jB:=D0 aH7 [.v (.sl .str),.v (.str),.v (.int .i64)] [.int .i64,.int .i64] []
mutual
def R99:Nat->Γ Δ->Δ->Int->Γ aS->Prop
 | 0,_,_,_,_=>False
 | n+1,x0,x1,x2,ds=>aA1 n 0 x0 x1 x2 ds
def aA1:Nat->Int->Γ Δ->Δ->Int->Γ aS->Prop
 | 0,_,_,_,_,_=>False
 | n+1,v8,x0,x1,x2,ds=>if decide (v8<(x0.length:Int))then 0<=v8/\v8<(x0.length:Int)/\if bK (aB (aD x0 (aE v8) aC)) (aB x1)then bA .i64 (v8+1)/\aA1 n (v8+1) x0 x1 x2 ds else 0<=v8/\v8<(x0.length:Int)/\if aB (aD x0 (aE v8) aC)==aB x1 then ds=[aJ (.int .i64) 0,aJ (.int .i64) 4] else if(x0.length:Int)==x2 then ds=[aJ (.int .i64) 0,aJ (.int .i64) 5] else ds=[aJ (.int .i64) v8,aJ (.int .i64) 0] else if(x0.length:Int)==x2 then ds=[aJ (.int .i64) 0,aJ (.int .i64) 5] else ds=[aJ (.int .i64) v8,aJ (.int .i64) 0]
end
def bIF(ds:Γ aS)(K:gU)(q:Nat->Value):∀n,(∀ {x0 x1 x2},R99 n x0 x1 x2 ds->St d99 (x0,x1,x2,()) ds [] K q)/\(∀ {v8 x0 x1 x2},aA1 n v8 x0 x1 x2 ds->Cu d99 2 ([eL 0 .str x0,eS 1 x1,eI 2 x2,eI 8 v8],[]) ds [] K q):=nI ⟨aH,aH⟩ λn ⟨i,i2⟩=>⟨cX i2,
  pbS (λb0=>eE<|bU (aO<|cX i2)<|pkT b0<|eE<|bU dR<|bU dR dR) λb0=>dN<|pkF b0<|dN<|bU dR dR⟩
def XS(x1:Δ):Γ Δ->Nat
 | []=>0
 | y::r=>if bK (aB y) (aB x1)=true then XS x1 r+1 else 0
def XT(x0:Γ Δ)(x1:Δ)(x2:Int)(a:Nat):Int×Int:=if a<x0.length then(if(aB (x0.getD a aC)==aB x1)=true then(0,4)else if((x0.length:Int)==x2)=true then(0,5)else((a:Int),0))else if((x0.length:Int)==x2)=true then(0,5)else((a:Int),0)
def fT(x0:Γ Δ)(x1:Δ)(x2:Int):Int:=(XT x0 x1 x2 (XS x1 x0)).1
def yM(x0:Γ Δ)(x1:Δ)(x2:Int):Int:=(XT x0 x1 x2 (XS x1 x0)).2
theorem bIG(x0:Γ Δ)(x1:Δ)(x2:Int)(hm:x0.length<=maxLen):∀(k i:Nat),i+k=x0.length->aA1 (k+1) (i:Int) x0 x1 x2 [⟨.int .i64,(XT x0 x1 x2 (i+XS x1 (x0.drop i))).1⟩,⟨.int .i64,(XT x0 x1 x2 (i+XS x1 (x0.drop i))).2⟩]:=by
 intro k
 induction k with
 | zero =>
  intro i hi;rw[aA1,ν (by simp only[ε];omega),bT (by omega),XS,iX,XT,ν (show ¬i<x0.length by omega)];by_cases c:((x0.length:Int)==x2)=true
  ·refine(π c).mpr ?_;rw[π c]
  ·refine(ν c).mpr ?_;rw[ν c]
 | succ k ih =>
  intro i hi;have hlt:i<x0.length:=by omega
  have hu:=jZ hm hlt;have e3:(i:Int)+1=((i+1:Nat):Int):=by omega
  rw[aA1,π (by simp only[ε];omega),eD x0 i aC hlt,XS,aI];refine⟨by omega,by omega,?_⟩;by_cases c:bK (aB (x0.getD i aC)) (aB x1)=true
  ·refine(π c).mpr ⟨hu,?_⟩;rw[π c,e3,show i+(XS x1 (x0.drop (i+1))+1)=i+1+XS x1 (x0.drop (i+1))by omega];exact ih (i+1) (by omega)
  ·refine(ν c).mpr ⟨by omega,by omega,?_⟩;rw[ν c,iX,XT,π hlt];by_cases d:(aB (x0.getD i aC)==aB x1)=true
   ·refine(π d).mpr ?_;rw[π d]
   ·refine(ν d).mpr ?_;rw[ν d];by_cases e:((x0.length:Int)==x2)=true
    ·refine(π e).mpr ?_;rw[π e]
    ·refine(ν e).mpr ?_;rw[ν e]
def aQN:KK:=mL d99 (DO aH7) nP (fT,yM,()) (λ⟨x0,x1,x2,_⟩ h hwf K q =>
 (bIF _ K q ((x0.length+2))).1 (by
  rw[R99];have:=bIG x0 x1 x2 hwf.1.1 x0.length 0 (by omega)
  rwa [bX,gP]at this))
end
theorem aUj(s:Δ):Qa s=false:=by simp[Qa]
def Kl(a b:Δ):Prop:=bK (aB a) (aB b)=true
theorem Kl.trans{a b c:Δ}(h:Kl a b)(k:Kl b c):Kl a c:=VB _ _ _ h k
theorem Kl.irr(a:Δ):¬Kl a a:=by simp[Kl,K3]
theorem Kl.tri{a b:Δ}(h:¬Kl a b)(k:¬a=b):Kl b a:=by
 unfold Kl at *;cases h2:bK (aB b) (aB a)with
 | true=>rfl
 | false=>exact absurd ((bE a b).1 (beq_iff_eq.2 (aIq _ _ (cG.2 h) h2))) k
theorem aQO(p:Nat->Bool)(k N:Nat)(hk:∀i,i<N->p i=decide (i<k)):∀(m i j:Nat),j-i<m->i<=k->k<=j->j<=N->iC p m i j=k
 | 0,i,j,h,_,_,_=>by lia
 | m+1,i,j,h,h1,h2,h3=>by
  simp[iC];split
  ·rw[hk _ (by lia)];split
   ·rename_i h4;simp at h4;exact aQO p k N hk m _ _ (by omega) (by omega) h2 h3
   ·exact aQO p k N hk m _ _ (by lia) h1 (by lia) (by lia)
  lia
theorem aJ3{α:Type}(key:α->Δ)(x:Δ):∀(l:Γ α),l.Pairwise (λa b=>Kl (key a) (key b))->∃A B,l=A++B/\(∀y∈A,Kl (key y) x)/\∀y∈B,¬Kl (key y) x
 | [],_=>⟨[],[],rfl,λ_ h=>(by grind),λ_ h=>(by grind)⟩
 | y::r,h=>by
  obtain⟨h1,h2⟩:=vZ.1 h;by_cases c:Kl (key y) x
  ·obtain⟨A,B,e,k1,k2⟩:=aJ3 key x r h2
   grind
  ·refine⟨[],y::r,rfl,λ_ h=>(by grind),λz hz hb=>?_⟩;rcases aW.1 hz with rfl | hz
   ·lia
   ·exact c ((h1 z hz).trans hb)
theorem aQP{α:Type}{q:Nat->α->Bool}:∀ {l:Γ α} {i:Nat},nL q i l=true↔∀(j:Nat) (h:j<l.length),q (i+j) l[j]=true
 | [],i=>⟨λ_ j h=>absurd h (Hc j),λ_=>rfl⟩
 | x::r,i=>by
  simp[nL,aQP (l:=r)];constructor
  ·grind
  ·intro h;refine⟨h 0 (by simp),λj hj=>?_⟩;have:=h (j+1) (by grind)
   grind
theorem Ot{α:Type}(q:α->Bool)(r:α->α->Prop)(rb:α->α->Bool)(d:α)(hr:∀a b,rb a b=true↔r a b)(tr:∀a b c,r a b->r b c->r a c)(l:Γ α):nL (λi x=>q x&&(i==0||rb (l.getD (i-1) d) x)) 0 l=true↔(∀x∈l,q x=true)/\l.Pairwise r:=by
 rw[aQP,Cw];constructor
 ·intro h;refine⟨λx hx=>?_,?_⟩
  ·obtain⟨j,hj,rfl⟩:=AW.1 hx
   grind
  ·intro i j hi hj hij
   induction j with
   | zero=>lia
   | succ j ih =>
    grind
 grind
def EK(a b:Δ):Bool:=bK (aB a) (aB b)
variable {β:Type}
def pR(l:Γ (Δ×β))(x:Δ×β):Γ (Δ×β):=l.filter (λy=>EK y.1 x.1)++x::l.filter (λy => !EK y.1 x.1)
def AS(l:Γ (Δ×β))(x:Δ):Bool:=l.any λy=>decide (y.1=x)
def pC(l:Γ (Δ×β))(x:Δ×β)(m:Int):Int:=if AS l x.1=true then 4 else if(l.length:Int)>=m then 5 else 0
def pL(l:Γ (Δ×β))(x:Δ×β)(m:Int):Γ (Δ×β):=if pC l x m=0 then pR l x else l
structure bIH {β:Type} (l:Γ (Δ×β)) (x:Δ×β) (k:Nat):Prop where
 le:k<=l.length
 tk:l.take k=l.filter λy=>EK y.1 x.1
 dr:l.drop k=l.filter λy => !EK y.1 x.1
 has:∀d,k<l.length->(decide ((l.getD k d).1=x.1))=AS l x.1
 no:¬k<l.length->AS l x.1=false
 up:AS l x.1=false->(pR l x).Pairwise λa b=>Kl a.1 b.1
theorem FE{l:Γ (Δ×β)}(hs:l.Pairwise λa b=>Kl a.1 b.1)(x:Δ×β):bIH l x (l.filter λy=>EK y.1 x.1).length:=by
 obtain⟨A,B,e,k1,k2⟩:=aJ3 (λy:Δ×β=>y.1) x.1 l hs;have k1':∀y∈A,EK y.1 x.1=true:=k1;have k2':∀y∈B,¬EK y.1 x.1=true:=k2;have fA:l.filter (λy=>EK y.1 x.1)=A:=by
  rw[e,Co,BI.2 k1',q7.2 k2',cK]
 have fB:l.filter (λy => !EK y.1 x.1)=B:=by
  rw[e,Co,q7.2 (λy hy=>by grind),BI.2 (λy hy=>by grind),dL]
 have hA:AS A x.1=false:=by
  unfold AS;rw[fG];intro y hy h;have h:=of_decide_eq_true h
  grind [Kl.irr]
 have hB:AS l x.1=AS B x.1:=by
  unfold AS at *
  grind
 rw[fA];refine⟨by grind,by grind,by grind,λd hk=>?_,λhk=>?_,λhn=>?_⟩
 ·rw[hB];subst e;rw[jX _ _ _ hk,List.getElem_append_right (aT _)];simp only[Nat.sub_self];cases B with
  | nil=>grind
  | cons b r =>
   show decide (b.1=x.1)=(decide (b.1=x.1)||r.any λy=>decide (y.1=x.1));by_cases c:b.1=x.1
   ·lia
   ·rw[decide_eq_false c,Bool.false_or]
    symm
    rw[fG];intro y hy h;have h:=of_decide_eq_true h;have hb:=(vZ.1 (KN.1 hs).2.1).1 y hy
    grind
 ·simp_all
 ·unfold pR;rw[fA,fB];have k3:∀y∈B,Kl x.1 y.1:=λy hy=>by
   grind [Kl.tri,AS,fG,decide_eq_true]
  subst e;rw[KN]at hs ⊢;refine⟨hs.1,vZ.2 ⟨k3,hs.2.1⟩,λa ha b hb=>?_⟩
  grind
theorem XU{l:Γ (Δ×β)}(hs:l.Pairwise λa b=>Kl a.1 b.1)(x d:Δ×β)(p:Nat->Bool)(hp:∀i,i<l.length->(p i=true↔Kl (l.getD i d).1 x.1)):iC p (l.length+1) 0 l.length=(l.filter λy=>EK y.1 x.1).length:=by
 obtain⟨A',B',e',k1,k2⟩:=aJ3 (λy:Δ×β=>y.1) x.1 l hs;have h:=aQO p (l.filter λy=>EK y.1 x.1).length l.length (λi hi=>?_) (l.length+1) 0 l.length (by lia) (bG _) (List.length_filter_le ..) (aT _)
 ·lia
 ·have k1':∀y∈A',EK y.1 x.1=true:=k1;have k2':∀y∈B',¬EK y.1 x.1=true:=k2;have fA:l.filter (λy=>EK y.1 x.1)=A':=by
   rw[e',Co,BI.2 k1',q7.2 k2',cK]
  rcases Nat.lt_or_ge i A'.length with c | c
  all_goals grind
theorem XV{l:Γ (Δ×β)}{x:Δ×β}{m:Int}{q:Δ×β->Bool}(h:∀y∈l,q y=true)(hx:q x=true):∀y∈pL l x m,q y=true:=by
 intro y hy;unfold pL at hy;split at hy
 ·rcases cY.1 hy with hy | hy
  all_goals grind
 grind
theorem XW(l:Γ (Δ×β))(x:Δ×β)(m:Int)(h:(l.length:Int)<=m):((pL l x m).length:Int)<=m:=by
 have e:(pR l x).length=l.length+1:=by
  unfold pR;have:∀l:Γ (Δ×β),(l.filter λy=>EK y.1 x.1).length+(l.filter λy => !EK y.1 x.1).length=l.length:=λl=>by
   induction l with
   | nil=>rfl
   | cons y l ih =>
    grind
  grind
 grind [pL,pC]
theorem aGp{l:Γ (Δ×β)}{x:Δ×β}{m:Int}(hs:l.Pairwise λa b=>Kl a.1 b.1):(pL l x m).Pairwise λa b=>Kl a.1 b.1:=by
 unfold pL;split
 ·rename_i c;refine(FE hs x).up ?_;unfold pC at c
  lia
 lia
theorem XX{l:Γ (Δ×β)}(hs:l.Pairwise λa b=>Kl a.1 b.1)(x:Δ×β){z:Int}(hz:z=(((l.filter λy=>EK y.1 x.1).length:Nat):Int)):[]++aY 0 (aZ (0+aE z) l)++[x]++aY (0+aE z) (aZ (0+aE ((l.length-0:Nat):Int)) l)=pR l x:=by
 have q:=FE hs x;rw[hz,aI,aI,bX,bX,Nat.sub_zero,List.take_length,q.tk,q.dr,bZ];rfl
theorem aGq{β:Type}(x:Δ):∀(l:Γ (Δ×β)),l.Pairwise (λa b=>Kl a.1 b.1)->XS x (l.map dB)=(l.filter λy=>EK y.1 x).length
 | [],_=>rfl
 | y::l,h=>by
  obtain⟨h1,h2⟩:=vZ.1 h;rw[dG,XS,tK,aGq x l h2];by_cases c:EK y.1 x=true
  ·rw[π c,π (show bK _ _=true from c)];rfl
  ·have hn:∀z∈l,¬EK z.1 x=true:=λz hz hk=>c (show Kl y.1 x from Kl.trans (h1 z hz) (show Kl z.1 x from hk));rw[ν c,ν (show ¬bK _ _=true from c),q7.2 hn];rfl
theorem Je{l:Γ (Δ×β)}(hs:l.Pairwise λa b=>Kl a.1 b.1)(x:Δ×β){m:Int}(hm:(l.length:Int)<=m):yM (l.map dB) x.1 m=pC l x m/\(pC l x m=0->fT (l.map dB) x.1 m=(((l.filter λy=>EK y.1 x.1).length:Nat):Int)):=by
 have q:=FE hs x;unfold fT yM XT pC;rw[aGq x.1 l hs,cM];by_cases c:(l.filter λy=>EK y.1 x.1).length<l.length
 ·have e:(aB ((l.map dB).getD (l.filter λy=>EK y.1 x.1).length aC)==aB x.1)=AS l x.1:=by
   rw[<- q.has x c];exact mK.2 (by grind [bE])
  lia
 ·rw[q.no c]
  lia
noncomputable section
def d33:jB:=D0 aH8 [.po iU,.v fQ] [.int .i64] [aQN]
mutual
def R33:Nat->bV->Δ×Int×Int×Int×Unit->Γ aS->Γ (Option jC)->Prop
 | 0,_,_,_,_=>False
 | n+1,x0,x1,ds,us=>aA2 n 0 ([]) x0 x1 ds us
def aA2:Nat->Int->Γ Δ->bV->Δ×Int×Int×Int×Unit->Γ aS->Γ (Option jC)->Prop
 | 0,_,_,_,_,_,_=>False
 | n+1,v6,h2,x0,x1,ds,us=>if decide (v6<(x0.1.length:Int))then 0<=v6/\v6<(x0.1.length:Int)/\(aF h2+1)*16<=140737488355328/\bA .i64 (v6+1)/\aA2 n (v6+1) (h2++[(aD x0.1 (aE v6) (aC,0,0,0,())).1]) x0 x1 ds us else if yM h2 x1.1 12==0 then 0<=fT h2 x1.1 12/\fT h2 x1.1 12<=(↑(aF x0.1-0):Int)/\(0+aF (aY 0 (aZ (0+aE (fT h2 x1.1 12)) x0.1)))*40<=140737488355328/\(aF ([]++aY 0 (aZ (0+aE (fT h2 x1.1 12)) x0.1))+1)*40<=140737488355328/\0<=fT h2 x1.1 12/\fT h2 x1.1 12<=(↑(aF x0.1-0):Int)/\(aF ([]++aY 0 (aZ (0+aE (fT h2 x1.1 12)) x0.1)++[x1])+aF (aY (0+aE (fT h2 x1.1 12)) (aZ (0+aE (↑(aF x0.1-0):Int)) x0.1)))*40<=140737488355328/\ds=[aJ (.int .i64) (yM h2 x1.1 12)]/\us=[some (fO iU [([]++aY 0 (aZ (0+aE (fT h2 x1.1 12)) x0.1)++[x1]++aY (0+aE (fT h2 x1.1 12)) (aZ (0+aE (↑(aF x0.1-0):Int)) x0.1),x0.2.1,x0.2.2.1,x0.2.2.2.1,x0.2.2.2.2.1,x0.2.2.2.2.2.1,x0.2.2.2.2.2.2.1,x0.2.2.2.2.2.2.2.1,x0.2.2.2.2.2.2.2.2.1,x0.2.2.2.2.2.2.2.2.2.1,x0.2.2.2.2.2.2.2.2.2.2.1,x0.2.2.2.2.2.2.2.2.2.2.2.1,())])] else ds=[aJ (.int .i64) (yM h2 x1.1 12)]/\us=[some (fO iU [x0])]
end
def bII(ds:Γ aS)(us:Γ (Option jC))(K:gU)(q:Nat->Value):∀n,(∀ {x0 x1},R33 n x0 x1 ds us->St d33 (x0,x1,()) ds us K q)/\(∀ {v6 h2 x0 x1},aA2 n v6 h2 x0 x1 ds us->Cu d33 3 ([eP 0 0 0 iU,eO 3 1 0 [],eW 5 2,eI 6 v6],[QW x0 3 4 5 6 7 8 9 10,some (iJ.mk fQ [x1] true none (some false)),cN .str h2,cN fQ x0.1,cN dX x0.2.2.1,cN dX x0.2.2.2.1,cN eC x0.2.2.2.2.2.2.1,cN fQ x0.2.2.2.2.2.2.2.2.1,cN dX x0.2.2.2.2.2.2.2.2.2.1,cN eC x0.2.2.2.2.2.2.2.2.2.2.1,cN eC x0.2.2.2.2.2.2.2.2.2.2.2.1]) ds us K q):=nI ⟨aH,aH⟩ λn ⟨i,i3⟩=>⟨cX i3,
  bU (eE<|aO<|aO<|cX i3)<|bS<|bU (eE<|aO<|aO<|eE<|aO Kv) Kv⟩
def XY(x0:DT5)(x1:eR):DT5:=(pL x0.1 x1 12,x0.2)
def aLd(x0:DT5)(x1:eR):Int:=pC x0.1 x1 12
def P33(x0:DT5)(x1:eR):Prop:=x0.1.Pairwise (λa b=>Kl a.1 b.1)/\(x0.1.length:Int)<=12
theorem bIJ(x0:DT5)(x1:eR)(h:P33 x0 x1):∀(k i:Nat) (h2:Γ Δ),i+k=x0.1.length->h2=(x0.1.take i).map dB->aA2 (k+1) (i:Int) h2 x0 x1 [⟨.int .i64,aLd x0 x1⟩] [some ⟨iU,[XY x0 x1]⟩]:=by
 obtain⟨hs,hl⟩:=h;intro k
 induction k with
 | zero =>
  intro i h2 hi hh;obtain⟨e1,e2⟩:=Je hs x1 hl;have hk:=(FE hs x1).le;have hn:h2=x0.1.map dB:=by rw[hh,cW (by omega)]
  rw[aA2,ν (by simp only[ε];omega),hn];by_cases c:pC x0.1 x1 12=0
  ·have e2:=e2 c;have ei:=XX hs x1 e2;have eu:pL x0.1 x1 12=pR x0.1 x1:=π c;have lk:((x0.1.take (0+aE (fT (x0.1.map dB) x1.1 12))).drop 0).length<=12:=by
    rw[gP,bW];omega
   have l2:((x0.1.take (0+aE ((x0.1.length-0:Nat):Int))).drop (0+aE (fT (x0.1.map dB) x1.1 12))).length<=12:=by
    rw[gQ,bW];omega
   refine(π (by rw[e1,c]<;>rfl)).mpr ⟨by omega,by omega,by omega,by rw[dL];omega,by omega,by omega,?_,?_,?_⟩
   ·rw[dL,aU,bP];omega
   ·rw[e1]<;>rfl
   ·show [some (fO iU [XY x0 x1])]=_;unfold XY;rw[eu, <- ei]
  ·refine(ν (by rw[e1,beq_iff_eq];exact c)).mpr ⟨by rw[e1]<;>rfl,?_⟩;have eu:pL x0.1 x1 12=x0.1:=ν c;show [some (fO iU [XY x0 x1])]=_;unfold XY;rw[eu]
 | succ k ih =>
  intro i h2 hi hh;have hlt:i<x0.1.length:=by omega
  have e3:(i:Int)+1=((i+1:Nat):Int):=by omega
  have hz:h2.length<=12:=by rw[hh,cM,bW];omega
  rw[aA2,π (by simp only[ε];omega),e3,aI];refine⟨by omega,by omega,by omega,by rw[aK];omega,ih (i+1) _ (by omega) ?_⟩;rw[hh,eG,aX hlt,jX x0.1 i _ hlt,iQ]<;>rfl
def bMO:KK:=mN d33 (DO aH8) P33 (λx=>[some ⟨iU,[XY x.1 x.2.1]⟩]) (aLd,()) (λ⟨x0,x1,_⟩ h hwf K q =>
 (bII _ _ K q ((x0.1.length+2))).1 (by rw[R33];exact bIJ x0 x1 h x0.1.length 0 [] (bX _) rfl))
def P34(x0:Δ):Prop:=((P41 x0)/\(if(!pO x0)=true then True else(if((↑(aF (dJ x0)):Int) != 4)=true then True else((0<(↑(aF (dJ x0)):Int))/\((1<(↑(aF (dJ x0)):Int))/\((2<(↑(aF (dJ x0)):Int))/\((3<(↑(aF (dJ x0)):Int))/\True)))))))
def aLe(x0:Δ):Int×Int×Int×Int×Unit:=if !pO x0 then(0,0,0,0,())else if(↑(aF (dJ x0)):Int) != 4 then(0,0,0,0,())else if !EF (aD (dJ x0) 0 0,aD (dJ x0) 1 0,aD (dJ x0) 2 0,aD (dJ x0) 3 0,())then(0,0,0,0,())else(aD (dJ x0) 0 0,aD (dJ x0) 1 0,aD (dJ x0) 2 0,aD (dJ x0) 3 0,())
def LW(x0:Δ):Bool:=if !pO x0 then false else if(↑(aF (dJ x0)):Int) != 4 then false else if !EF (aD (dJ x0) 0 0,aD (dJ x0) 1 0,aD (dJ x0) 2 0,aD (dJ x0) 3 0,())then false else true
def bMP:KK:=mB Tryz.func34 [.v (.str)] [.cons Jy dX,.bool] [aJw,aPM] P34 (aLe,LW,()) λ_=>aO<|dP (j0 pr)<|dP pr<|pq 0<|aO<|pq 1<|aO<|pq 2<|aO<|pq 3<|aO<|bS<|vD pr pr
def P35(x0:Δ):Prop:=((P41 x0)/\(if(!pO x0)=true then True else(if((↑(aF (dJ x0)):Int) != 3)=true then True else((0<(↑(aF (dJ x0)):Int))/\((1<(↑(aF (dJ x0)):Int))/\((2<(↑(aF (dJ x0)):Int))/\True))))))
def yN(x0:Δ):c7:=if !pO x0 then(0,0,0,())else if(↑(aF (dJ x0)):Int) != 3 then(0,0,0,())else if !ED (aD (dJ x0) 0 0,aD (dJ x0) 1 0,aD (dJ x0) 2 0,())then(0,0,0,())else(aD (dJ x0) 0 0,aD (dJ x0) 1 0,aD (dJ x0) 2 0,())
def uU(x0:Δ):Bool:=if !pO x0 then false else if(↑(aF (dJ x0)):Int) != 3 then false else if !ED (aD (dJ x0) 0 0,aD (dJ x0) 1 0,aD (dJ x0) 2 0,())then false else true
def bMQ:KK:=mB Tryz.func35 [.v (.str)] [.cons Jy YA7,.bool] [aJw,aWy] P35 (yN,uU,()) λ_=>aO<|dP (j0 pr)<|dP pr<|pq 0<|aO<|pq 1<|aO<|pq 2<|aO<|bS<|vD pr pr
def aLf(x0:Δ):c7:=if !pO x0 then(0,0,0,())else if(↑(aF (dJ x0)):Int) != 3 then(0,0,0,())else if !EG (aD (dJ x0) 0 0,aD (dJ x0) 1 0,aD (dJ x0) 2 0,())then(0,0,0,())else(aD (dJ x0) 0 0,aD (dJ x0) 1 0,aD (dJ x0) 2 0,())
def LX(x0:Δ):Bool:=if !pO x0 then false else if(↑(aF (dJ x0)):Int) != 3 then false else if !EG (aD (dJ x0) 0 0,aD (dJ x0) 1 0,aD (dJ x0) 2 0,())then false else true
def bMR:KK:=mB Tryz.func36 [.v (.str)] [.cons Jy YA7,.bool] [aJw,aPN] P35 (aLf,LX,()) λ_=>aO<|dP (j0 pr)<|dP pr<|pq 0<|aO<|pq 1<|aO<|pq 2<|aO<|bS<|vD pr pr
def P37(x0:Δ):Prop:=((P6 x0 32)/\(if((↑(aF (cD x0 32)):Int) != 3)=true then True else((1<(↑(aF (cD x0 32)):Int))/\((aPZ (aD (cD x0 32) 1 aC))/\((2<(↑(aF (cD x0 32)):Int))/\((aPZ (aD (cD x0 32) 2 aC))/\((0<(↑(aF (cD x0 32)):Int))/\True)))))))
def Sx(x0:Δ):b6:=if(↑(aF (cD x0 32)):Int) != 3 then(aC,0,0,())else if !CU (aD (cD x0 32) 1 aC)then(aC,0,0,())else if !CU (aD (cD x0 32) 2 aC)then(aC,0,0,())else if !CR (aD (cD x0 32) 0 aC,CT (aD (cD x0 32) 1 aC),CT (aD (cD x0 32) 2 aC),())then(aC,0,0,())else(aD (cD x0 32) 0 aC,CT (aD (cD x0 32) 1 aC),CT (aD (cD x0 32) 2 aC),())
def LY(x0:Δ):Bool:=if(↑(aF (cD x0 32)):Int) != 3 then false else if !CU (aD (cD x0 32) 1 aC)then false else if !CU (aD (cD x0 32) 2 aC)then false else if !CR (aD (cD x0 32) 0 aC,CT (aD (cD x0 32) 1 aC),CT (aD (cD x0 32) 2 aC),())then false else true
def bMS:KK:=mB Tryz.func37 [.v (.str)] [.cons .str YA7,.bool] [kx6,bHK,aW3] P37 (Sx,LY,()) λ_=>aO<|dP pr<|pq 1<|aO<|aO<|pq 2<|aO<|aO<|pq 0<|aO<|vD (j0<|j0 pr)<|vD (j0 pr)<|bS<|vD pr pr
def d38:jB:=D0 aH9 [.po iU,.v eC] [.int .i64] [aQN]
mutual
def R38:Nat->bV->Δ×Int×Int×Unit->Γ aS->Γ (Option jC)->Prop
 | 0,_,_,_,_=>False
 | n+1,x0,x1,ds,us=>aA3 n 0 ([]) x0 x1 ds us
def aA3:Nat->Int->Γ Δ->bV->Δ×Int×Int×Unit->Γ aS->Γ (Option jC)->Prop
 | 0,_,_,_,_,_,_=>False
 | n+1,v6,h2,x0,x1,ds,us=>if decide (v6<(x0.2.2.2.2.2.2.1.length:Int))then 0<=v6/\v6<(x0.2.2.2.2.2.2.1.length:Int)/\(aF h2+1)*16<=140737488355328/\bA .i64 (v6+1)/\aA3 n (v6+1) (h2++[(aD x0.2.2.2.2.2.2.1 (aE v6) (aC,0,0,())).1]) x0 x1 ds us else if yM h2 x1.1 12==0 then 0<=fT h2 x1.1 12/\fT h2 x1.1 12<=(↑(aF x0.2.2.2.2.2.2.1-0):Int)/\(0+aF (aY 0 (aZ (0+aE (fT h2 x1.1 12)) x0.2.2.2.2.2.2.1)))*32<=140737488355328/\(aF ([]++aY 0 (aZ (0+aE (fT h2 x1.1 12)) x0.2.2.2.2.2.2.1))+1)*32<=140737488355328/\0<=fT h2 x1.1 12/\fT h2 x1.1 12<=(↑(aF x0.2.2.2.2.2.2.1-0):Int)/\(aF ([]++aY 0 (aZ (0+aE (fT h2 x1.1 12)) x0.2.2.2.2.2.2.1)++[x1])+aF (aY (0+aE (fT h2 x1.1 12)) (aZ (0+aE (↑(aF x0.2.2.2.2.2.2.1-0):Int)) x0.2.2.2.2.2.2.1)))*32<=140737488355328/\ds=[aJ (.int .i64) (yM h2 x1.1 12)]/\us=[some (fO iU [(x0.1,x0.2.1,x0.2.2.1,x0.2.2.2.1,x0.2.2.2.2.1,x0.2.2.2.2.2.1,[]++aY 0 (aZ (0+aE (fT h2 x1.1 12)) x0.2.2.2.2.2.2.1)++[x1]++aY (0+aE (fT h2 x1.1 12)) (aZ (0+aE (↑(aF x0.2.2.2.2.2.2.1-0):Int)) x0.2.2.2.2.2.2.1),x0.2.2.2.2.2.2.2.1,x0.2.2.2.2.2.2.2.2.1,x0.2.2.2.2.2.2.2.2.2.1,x0.2.2.2.2.2.2.2.2.2.2.1,x0.2.2.2.2.2.2.2.2.2.2.2.1,())])] else ds=[aJ (.int .i64) (yM h2 x1.1 12)]/\us=[some (fO iU [x0])]
end
def bIL(ds:Γ aS)(us:Γ (Option jC))(K:gU)(q:Nat->Value):∀n,(∀ {x0 x1},R38 n x0 x1 ds us->St d38 (x0,x1,()) ds us K q)/\(∀ {v6 h2 x0 x1},aA3 n v6 h2 x0 x1 ds us->Cu d38 3 ([eP 0 0 0 iU,eO 3 1 0 [],eW 5 2,eI 6 v6],[QW x0 3 4 5 6 7 8 9 10,some (iJ.mk eC [x1] true none (some false)),cN .str h2,cN fQ x0.1,cN dX x0.2.2.1,cN dX x0.2.2.2.1,cN eC x0.2.2.2.2.2.2.1,cN fQ x0.2.2.2.2.2.2.2.2.1,cN dX x0.2.2.2.2.2.2.2.2.2.1,cN eC x0.2.2.2.2.2.2.2.2.2.2.1,cN eC x0.2.2.2.2.2.2.2.2.2.2.2.1]) ds us K q):=nI ⟨aH,aH⟩ λn ⟨i,i3⟩=>⟨cX i3,
  bU (eE<|aO<|aO<|cX i3)<|bS<|bU (eE<|aO<|aO<|eE<|aO Kv) Kv⟩
def XZ(x0:DT5)(x1:b6):DT5:=(x0.1,x0.2.1,x0.2.2.1,x0.2.2.2.1,x0.2.2.2.2.1,x0.2.2.2.2.2.1,pL x0.2.2.2.2.2.2.1 x1 12,x0.2.2.2.2.2.2.2)
def aLg(x0:DT5)(x1:b6):Int:=pC x0.2.2.2.2.2.2.1 x1 12
def P38(x0:DT5)(x1:b6):Prop:=x0.2.2.2.2.2.2.1.Pairwise (λa b=>Kl a.1 b.1)/\(x0.2.2.2.2.2.2.1.length:Int)<=12
theorem bIM(x0:DT5)(x1:b6)(h:P38 x0 x1):∀(k i:Nat) (h2:Γ Δ),i+k=x0.2.2.2.2.2.2.1.length->h2=(x0.2.2.2.2.2.2.1.take i).map dB->aA3 (k+1) (i:Int) h2 x0 x1 [⟨.int .i64,aLg x0 x1⟩] [some ⟨iU,[XZ x0 x1]⟩]:=by
 obtain⟨hs,hl⟩:=h;intro k
 induction k with
 | zero =>
  intro i h2 hi hh;obtain⟨e1,e2⟩:=Je hs x1 hl;have hk:=(FE hs x1).le;have hn:h2=x0.2.2.2.2.2.2.1.map dB:=by rw[hh,cW (by omega)]
  rw[aA3,ν (by simp only[ε];omega),hn];by_cases c:pC x0.2.2.2.2.2.2.1 x1 12=0
  ·have e2:=e2 c;have ei:=XX hs x1 e2;have eu:pL x0.2.2.2.2.2.2.1 x1 12=pR x0.2.2.2.2.2.2.1 x1:=π c;have lk:((x0.2.2.2.2.2.2.1.take (0+aE (fT (x0.2.2.2.2.2.2.1.map dB) x1.1 12))).drop 0).length<=12:=by
    rw[gP,bW];omega
   have l2:((x0.2.2.2.2.2.2.1.take (0+aE ((x0.2.2.2.2.2.2.1.length-0:Nat):Int))).drop (0+aE (fT (x0.2.2.2.2.2.2.1.map dB) x1.1 12))).length<=12:=by
    rw[gQ,bW];omega
   refine(π (by rw[e1,c]<;>rfl)).mpr ⟨by omega,by omega,by omega,by rw[dL];omega,by omega,by omega,?_,?_,?_⟩
   ·rw[dL,aU,bP];omega
   ·rw[e1]<;>rfl
   ·show [some (fO iU [XZ x0 x1])]=_;unfold XZ;rw[eu, <- ei]
  ·refine(ν (by rw[e1,beq_iff_eq];exact c)).mpr ⟨by rw[e1]<;>rfl,?_⟩;have eu:pL x0.2.2.2.2.2.2.1 x1 12=x0.2.2.2.2.2.2.1:=ν c;show [some (fO iU [XZ x0 x1])]=_;unfold XZ;rw[eu]
 | succ k ih =>
  intro i h2 hi hh;have hlt:i<x0.2.2.2.2.2.2.1.length:=by omega
  have e3:(i:Int)+1=((i+1:Nat):Int):=by omega
  have hz:h2.length<=12:=by rw[hh,cM,bW];omega
  rw[aA3,π (by simp only[ε];omega),e3,aI];refine⟨by omega,by omega,by omega,by rw[aK];omega,ih (i+1) _ (by omega) ?_⟩;rw[hh,eG,aX hlt,jX x0.2.2.2.2.2.2.1 i _ hlt,iQ]<;>rfl
def bMV:KK:=mN d38 (DO aH9) P38 (λx=>[some ⟨iU,[XZ x.1 x.2.1]⟩]) (aLg,()) (λ⟨x0,x1,_⟩ h hwf K q =>
 (bIL _ _ K q ((x0.2.2.2.2.2.2.1.length+2))).1 (by rw[R38];exact bIM x0 x1 h x0.2.2.2.2.2.2.1.length 0 [] (bX _) rfl))
def aLh(x0:Δ):Int×Int×Int×Int×Unit:=if !pO x0 then(0,0,0,0,())else if(↑(aF (dJ x0)):Int) != 4 then(0,0,0,0,())else if !EH (aD (dJ x0) 0 0,aD (dJ x0) 1 0,aD (dJ x0) 2 0,aD (dJ x0) 3 0,())then(0,0,0,0,())else(aD (dJ x0) 0 0,aD (dJ x0) 1 0,aD (dJ x0) 2 0,aD (dJ x0) 3 0,())
def LZ(x0:Δ):Bool:=if !pO x0 then false else if(↑(aF (dJ x0)):Int) != 4 then false else if !EH (aD (dJ x0) 0 0,aD (dJ x0) 1 0,aD (dJ x0) 2 0,aD (dJ x0) 3 0,())then false else true
def bMW:KK:=mB Tryz.func39 [.v (.str)] [.cons Jy dX,.bool] [aJw,aPO] P34 (aLh,LZ,()) λ_=>aO<|dP (j0 pr)<|dP pr<|pq 0<|aO<|pq 1<|aO<|pq 2<|aO<|pq 3<|aO<|bS<|vD pr pr
def NN(x0:Δ):eR:=if !BE x0 then(aC,0,0,0,())else if !JV (DW x0,aD (iT x0) 0 0,aD (iT x0) 1 0,aD (iT x0) 2 0,())then(aC,0,0,0,())else(DW x0,aD (iT x0) 0 0,aD (iT x0) 1 0,aD (iT x0) 2 0,())
def EN(x0:Δ):Bool:=if !BE x0 then false else if !JV (DW x0,aD (iT x0) 0 0,aD (iT x0) 1 0,aD (iT x0) 2 0,())then false else true
def bIN:KK:=mB Tryz.func106 [.v (.str)] [.cons .str dX,.bool] [bIE,aW6] P31 (NN,EN,()) λ_=>aO<|dP pr<|pq 0<|aO<|pq 1<|aO<|pq 2<|aO<|bS<|vD pr pr
def bB6:jB:=D0 aDY [.po iU,.v fQ] [.int .i64] [aQN]
mutual
def bIO:Nat->bV->Δ×Int×Int×Int×Unit->Γ aS->Γ (Option jC)->Prop
 | 0,_,_,_,_=>False
 | n+1,x0,x1,ds,us=>RT n 0 ([]) x0 x1 ds us
def RT:Nat->Int->Γ Δ->bV->Δ×Int×Int×Int×Unit->Γ aS->Γ (Option jC)->Prop
 | 0,_,_,_,_,_,_=>False
 | n+1,v6,h2,x0,x1,ds,us=>if decide (v6<(x0.2.2.2.2.2.2.2.2.1.length:Int))then 0<=v6/\v6<(x0.2.2.2.2.2.2.2.2.1.length:Int)/\(aF h2+1)*16<=140737488355328/\bA .i64 (v6+1)/\RT n (v6+1) (h2++[(aD x0.2.2.2.2.2.2.2.2.1 (aE v6) (aC,0,0,0,())).1]) x0 x1 ds us else if yM h2 x1.1 8==0 then 0<=fT h2 x1.1 8/\fT h2 x1.1 8<=(↑(aF x0.2.2.2.2.2.2.2.2.1-0):Int)/\(0+aF (aY 0 (aZ (0+aE (fT h2 x1.1 8)) x0.2.2.2.2.2.2.2.2.1)))*40<=140737488355328/\(aF ([]++aY 0 (aZ (0+aE (fT h2 x1.1 8)) x0.2.2.2.2.2.2.2.2.1))+1)*40<=140737488355328/\0<=fT h2 x1.1 8/\fT h2 x1.1 8<=(↑(aF x0.2.2.2.2.2.2.2.2.1-0):Int)/\(aF ([]++aY 0 (aZ (0+aE (fT h2 x1.1 8)) x0.2.2.2.2.2.2.2.2.1)++[x1])+aF (aY (0+aE (fT h2 x1.1 8)) (aZ (0+aE (↑(aF x0.2.2.2.2.2.2.2.2.1-0):Int)) x0.2.2.2.2.2.2.2.2.1)))*40<=140737488355328/\ds=[aJ (.int .i64) (yM h2 x1.1 8)]/\us=[some (fO iU [(x0.1,x0.2.1,x0.2.2.1,x0.2.2.2.1,x0.2.2.2.2.1,x0.2.2.2.2.2.1,x0.2.2.2.2.2.2.1,x0.2.2.2.2.2.2.2.1,[]++aY 0 (aZ (0+aE (fT h2 x1.1 8)) x0.2.2.2.2.2.2.2.2.1)++[x1]++aY (0+aE (fT h2 x1.1 8)) (aZ (0+aE (↑(aF x0.2.2.2.2.2.2.2.2.1-0):Int)) x0.2.2.2.2.2.2.2.2.1),x0.2.2.2.2.2.2.2.2.2.1,x0.2.2.2.2.2.2.2.2.2.2.1,x0.2.2.2.2.2.2.2.2.2.2.2.1,())])] else ds=[aJ (.int .i64) (yM h2 x1.1 8)]/\us=[some (fO iU [x0])]
end
def bB7(ds:Γ aS)(us:Γ (Option jC))(K:gU)(q:Nat->Value):∀n,(∀ {x0 x1},bIO n x0 x1 ds us->St bB6 (x0,x1,()) ds us K q)/\(∀ {v6 h2 x0 x1},RT n v6 h2 x0 x1 ds us->Cu bB6 3 ([eP 0 0 0 iU,eO 3 1 0 [],eW 5 2,eI 6 v6],[QW x0 3 4 5 6 7 8 9 10,some (iJ.mk fQ [x1] true none (some false)),cN .str h2,cN fQ x0.1,cN dX x0.2.2.1,cN dX x0.2.2.2.1,cN eC x0.2.2.2.2.2.2.1,cN fQ x0.2.2.2.2.2.2.2.2.1,cN dX x0.2.2.2.2.2.2.2.2.2.1,cN eC x0.2.2.2.2.2.2.2.2.2.2.1,cN eC x0.2.2.2.2.2.2.2.2.2.2.2.1]) ds us K q):=nI ⟨aH,aH⟩ λn ⟨i,i3⟩=>⟨cX i3,
  bU (eE<|aO<|aO<|cX i3)<|bS<|bU (eE<|aO<|aO<|eE<|aO Kv) Kv⟩
def NO(x0:DT5)(x1:eR):DT5:=(x0.1,x0.2.1,x0.2.2.1,x0.2.2.2.1,x0.2.2.2.2.1,x0.2.2.2.2.2.1,x0.2.2.2.2.2.2.1,x0.2.2.2.2.2.2.2.1,pL x0.2.2.2.2.2.2.2.2.1 x1 8,x0.2.2.2.2.2.2.2.2.2)
def aBR(x0:DT5)(x1:eR):Int:=pC x0.2.2.2.2.2.2.2.2.1 x1 8
def bB8(x0:DT5)(x1:eR):Prop:=x0.2.2.2.2.2.2.2.2.1.Pairwise (λa b=>Kl a.1 b.1)/\(x0.2.2.2.2.2.2.2.2.1.length:Int)<=8
theorem bB9(x0:DT5)(x1:eR)(h:bB8 x0 x1):∀(k i:Nat) (h2:Γ Δ),i+k=x0.2.2.2.2.2.2.2.2.1.length->h2=(x0.2.2.2.2.2.2.2.2.1.take i).map dB->RT (k+1) (i:Int) h2 x0 x1 [⟨.int .i64,aBR x0 x1⟩] [some ⟨iU,[NO x0 x1]⟩]:=by
 obtain⟨hs,hl⟩:=h;intro k
 induction k with
 | zero =>
  intro i h2 hi hh;obtain⟨e1,e2⟩:=Je hs x1 hl;have hk:=(FE hs x1).le;have hn:h2=x0.2.2.2.2.2.2.2.2.1.map dB:=by rw[hh,cW (by omega)]
  rw[RT,ν (by simp only[ε];omega),hn];by_cases c:pC x0.2.2.2.2.2.2.2.2.1 x1 8=0
  ·have e2:=e2 c;have ei:=XX hs x1 e2;have eu:pL x0.2.2.2.2.2.2.2.2.1 x1 8=pR x0.2.2.2.2.2.2.2.2.1 x1:=π c;have lk:((x0.2.2.2.2.2.2.2.2.1.take (0+aE (fT (x0.2.2.2.2.2.2.2.2.1.map dB) x1.1 8))).drop 0).length<=12:=by
    rw[gP,bW];omega
   have l2:((x0.2.2.2.2.2.2.2.2.1.take (0+aE ((x0.2.2.2.2.2.2.2.2.1.length-0:Nat):Int))).drop (0+aE (fT (x0.2.2.2.2.2.2.2.2.1.map dB) x1.1 8))).length<=12:=by
    rw[gQ,bW];omega
   refine(π (by rw[e1,c]<;>rfl)).mpr ⟨by omega,by omega,by omega,by rw[dL];omega,by omega,by omega,?_,?_,?_⟩
   ·rw[dL,aU,bP];omega
   ·rw[e1]<;>rfl
   ·show [some (fO iU [NO x0 x1])]=_;unfold NO;rw[eu, <- ei]
  ·refine(ν (by rw[e1,beq_iff_eq];exact c)).mpr ⟨by rw[e1]<;>rfl,?_⟩;have eu:pL x0.2.2.2.2.2.2.2.2.1 x1 8=x0.2.2.2.2.2.2.2.2.1:=ν c;show [some (fO iU [NO x0 x1])]=_;unfold NO;rw[eu]
 | succ k ih =>
  intro i h2 hi hh;have hlt:i<x0.2.2.2.2.2.2.2.2.1.length:=by omega
  have e3:(i:Int)+1=((i+1:Nat):Int):=by omega
  have hz:h2.length<=12:=by rw[hh,cM,bW];omega
  rw[RT,π (by simp only[ε];omega),e3,aI];refine⟨by omega,by omega,by omega,by rw[aK];omega,ih (i+1) _ (by omega) ?_⟩;rw[hh,eG,aX hlt,jX x0.2.2.2.2.2.2.2.2.1 i _ hlt,iQ]<;>rfl
def bIP:KK:=mN bB6 (DO aDY) bB8 (λx=>[some ⟨iU,[NO x.1 x.2.1]⟩]) (aBR,()) (λ⟨x0,x1,_⟩ h hwf K q =>
 (bB7 _ _ K q ((x0.2.2.2.2.2.2.2.2.1.length+2))).1 (by rw[bIO];exact bB9 x0 x1 h x0.2.2.2.2.2.2.2.2.1.length 0 [] (bX _) rfl))
def aUl(x0:Δ):Prop:=if(↑(aG x0):Int) != 10 then True else 4<(↑(aG x0):Int)/\if(↑(cR (aD (cE (bO x0)) 4 0)):Int) != 45 then True else 7<(↑(aG x0):Int)/\if(↑(cR (aD (cE (bO x0)) 7 0)):Int) != 45 then True else 4<=(↑(aG x0):Int)/\aFP (aN x0 0 4)/\7<=(↑(aG x0):Int)/\aFP (aN x0 5 7)/\8<=(↑(aG x0):Int)/\aFP (aN x0 8 (aE (↑(aG x0):Int)))/\True
def Jf(x0:Δ):Int:=if(↑(aG x0):Int) != 10 then 0 else if(↑(cR (aD (cE (bO x0)) 4 0)):Int) != 45 then 0 else if(↑(cR (aD (cE (bO x0)) 7 0)):Int) != 45 then 0 else if !oF (aN x0 0 4)then 0 else if !oF (aN x0 5 7)then 0 else if !oF (aN x0 8 (aE (↑(aG x0):Int)))then 0 else NB (kH (aN x0 0 4)) (kH (aN x0 5 7)) (kH (aN x0 8 (aE (↑(aG x0):Int))))
def CZ(x0:Δ):Bool:=if(↑(aG x0):Int) != 10 then false else if(↑(cR (aD (cE (bO x0)) 4 0)):Int) != 45 then false else if(↑(cR (aD (cE (bO x0)) 7 0)):Int) != 45 then false else if !oF (aN x0 0 4)then false else if !oF (aN x0 5 7)then false else if !oF (aN x0 8 (aE (↑(aG x0):Int)))then false else J3 (kH (aN x0 0 4)) (kH (aN x0 5 7)) (kH (aN x0 8 (aE (↑(aG x0):Int))))
def bIQ:KK:=mB Tryz.func210 [.v (.str)] [.int .i64,.bool] [aWF,bHM] aUl (Jf,CZ,()) λ_=>dP (j0<|j0 pr)<|pq 4<|aO<|dP (j0 pr)<|pq 7<|aO<|dP pr<|pq 4<|aO<|aO<|pq 5<|rY ((by decide):(5:Int)<=(7:Int))<|aO<|aO<|pq 8<|aO<|aO<|vD (j0<|j0 pr)<|vD (j0 pr)<|vD pr<|bS pr
def aNz(x0:Δ):Prop:=((P6 x0 32)/\(if((↑(aF (cD x0 32)):Int) != 2)=true then True else((0<(↑(aF (cD x0 32)):Int))/\((aUl (aD (cD x0 32) 0 aC))/\((1<(↑(aF (cD x0 32)):Int))/\((P41 (aD (cD x0 32) 1 aC))/\(if(!CZ (aD (cD x0 32) 0 aC))=true then True else(if(!pO (aD (cD x0 32) 1 aC))=true then True else(if((↑(aF (dJ (aD (cD x0 32) 1 aC))):Int) != 2)=true then True else((0<(↑(aF (dJ (aD (cD x0 32) 1 aC))):Int))/\((1<(↑(aF (dJ (aD (cD x0 32) 1 aC))):Int))/\True)))))))))))
def vW(x0:Δ):c7:=if(↑(aF (cD x0 32)):Int) != 2 then(0,0,0,())else if !CZ (aD (cD x0 32) 0 aC)then(0,0,0,())else if !pO (aD (cD x0 32) 1 aC)then(0,0,0,())else if(↑(aF (dJ (aD (cD x0 32) 1 aC))):Int) != 2 then(0,0,0,())else if !vS (Jf (aD (cD x0 32) 0 aC),aD (dJ (aD (cD x0 32) 1 aC)) 0 0,aD (dJ (aD (cD x0 32) 1 aC)) 1 0,())then(0,0,0,())else(Jf (aD (cD x0 32) 0 aC),aD (dJ (aD (cD x0 32) 1 aC)) 0 0,aD (dJ (aD (cD x0 32) 1 aC)) 1 0,())
def C0(x0:Δ):Bool:=if(↑(aF (cD x0 32)):Int) != 2 then false else if !CZ (aD (cD x0 32) 0 aC)then false else if !pO (aD (cD x0 32) 1 aC)then false else if(↑(aF (dJ (aD (cD x0 32) 1 aC))):Int) != 2 then false else if !vS (Jf (aD (cD x0 32) 0 aC),aD (dJ (aD (cD x0 32) 1 aC)) 0 0,aD (dJ (aD (cD x0 32) 1 aC)) 1 0,())then false else true
def bIR:KK:=mB Tryz.func108 [.v (.str)] [.cons Jy YA7,.bool] [kx6,bIQ,aJw,aPU] aNz (vW,C0,()) λ_=>aO<|dP pr<|pq 0<|aO<|aO<|pq 1<|aO<|aO<|dP (j0<|j0 pr)<|dP (j0 pr)<|dP pr<|pq 0<|aO<|pq 1<|aO<|bS<|vD pr pr
def aUm(x0:Γ c7)(x1:c7):Prop:=if !wF x0 then True else if !vS x1 then True else(0+aF x0)*24<=140737488355328/\(aF ([]++x0)+1)*24<=140737488355328/\True
def aBS(x0:Γ c7)(x1:c7):Γ c7:=if !wF x0 then [] else if !vS x1 then [] else if !JW ([]++x0++[x1])then [] else if decide ((↑(aF ([]++x0++[x1])):Int)>24)then [] else []++x0++[x1]
def zT(x0:Γ c7)(x1:c7):Int:=if !wF x0 then 1 else if !vS x1 then 2 else if !JW ([]++x0++[x1])then 6 else if decide ((↑(aF ([]++x0++[x1])):Int)>24)then 5 else 0
def bIS:KK:=mB Tryz.func109 [.v (.sl dX),.v dX] [.sl dX,.int .i64] [aTI,aPU,aWA] aUm (aBS,zT,()) λ_=>bS<|dP pr<|bS<|dP pr<|aO<|aO<|bS<|vD pr<|vD pr pr
def bBA:jB:=D0 aDZ [.v (.int .i64)] [.str] []
mutual
def bIT:Nat->Int->Γ aS->Prop
 | 0,_,_=>False
 | n+1,x0,ds=>Jg n (aA #[]) 0 x0 ds
def Jg:Nat->Δ->Int->Int->Γ aS->Prop
 | 0,_,_,_,_=>False
 | n+1,v3,v5,x0,ds=>if decide (v5<3)then bA .u64 v5/\0<=v5/\bA .i64 (cT x0 (2^yA (aE v5) 64))/\if mZ eY (↑(yB (gD 64 (cT x0 (2^yA (aE v5) 64)) &&& gD 64 1)):Int)==1 then(if !aB v3==aB (aA #[])then aG v3+1<=9223372036854775807/\0<=v5/\v5<3/\aG (v3++aA #[43])+aG (aD [aA #[114,111,112,101],aA #[102,105,114,115,116],aA #[114,97,100,105,111]] (aE v5) aC)<=9223372036854775807/\bA .i64 (v5+1)/\Jg n (v3++aA #[43]++aD [aA #[114,111,112,101],aA #[102,105,114,115,116],aA #[114,97,100,105,111]] (aE v5) aC) (v5+1) x0 ds else 0<=v5/\v5<3/\aG v3+aG (aD [aA #[114,111,112,101],aA #[102,105,114,115,116],aA #[114,97,100,105,111]] (aE v5) aC)<=9223372036854775807/\bA .i64 (v5+1)/\Jg n (v3++aD [aA #[114,111,112,101],aA #[102,105,114,115,116],aA #[114,97,100,105,111]] (aE v5) aC) (v5+1) x0 ds)else bA .i64 (v5+1)/\Jg n v3 (v5+1) x0 ds else if aB v3==aB (aA #[])then ds=[aJ .str (aA #[110,111,110,101])] else ds=[aJ .str v3]
end
def bBB(ds:Γ aS)(K:gU)(q:Nat->Value):∀n,(∀ {x0},bIT n x0 ds->St bBA (x0,()) ds [] K q)/\(∀ {v3 v5 x0},Jg n v3 v5 x0 ds->Cu bBA 4 ([eI 0 x0,eS 3 v3,eW 4 0,eI 5 v5],[cN .str [aA #[114,111,112,101],aA #[102,105,114,115,116],aA #[114,97,100,105,111]]]) ds [] K q):=nI ⟨aH,aH⟩ λn ⟨i,i4⟩=>⟨cX i4,
  bU (aO<|eE<|bU (bU (aO<|eE<|aO<|aO<|cX i4)<|eE<|aO<|aO<|cX i4)<|aO<|cX i4)<|bU dR dR⟩
def aQT(s w:Δ):Δ:=if(!aB s==aB (aA #[]))=true then s++aA #[43]++w else s++w
def NP(x0:Int):Nat->Nat->Δ->Δ
 | 0,_,s=>s
 | k+1,i,s=>NP x0 k (i+1) (if VX x0 i=true then aQT s (S8.getD i aC)else s)
def aBT(x0:Int):Δ:=if aB (NP x0 3 0 (aA #[]))==aB (aA #[])then aA #[110,111,110,101] else NP x0 3 0 (aA #[])
theorem bBC{x0:Int}(h:bA .i64 x0)(i:Nat):bA .i64 (cT x0 (2^yA i 64)):=by
 have hp:(0:Int)<2^yA i 64:=Int.pow_pos (by lia);rw[aK]at h;rw[Int.fdiv_eq_ediv_of_nonneg _ (by lia),aK];refine⟨(Int.le_ediv_iff_mul_le hp).2 ?_,?_⟩
 ·lia
 ·rcases Int.lt_or_le x0 0 with c | c
  ·have:=Int.ediv_neg_of_neg_of_pos c hp
   lia
  ·have:=FY (2^yA i 64) c
   lia
theorem bBD(i:Nat):(S8.getD i aC).size<=5:=by
 rcases i with _ | _ | _ | i
 ·decide
 ·decide
 ·decide
 simp
theorem bBE(x0:Int)(h:bA .i64 x0):∀(k i:Nat) (s:Δ),i+k=3->s.size<=6*i->Jg (k+1) s (i:Int) x0 [⟨.str,if(aB (NP x0 k i s)==aB (aA #[]))=true then aA #[110,111,110,101] else NP x0 k i s⟩]:=by
 intro k
 induction k with
 | zero =>
  intro i s hi hs;rw[Jg,NP]
  lia
 | succ k ih =>
  intro i s hi hs;have e3:(i:Int)+1=((i+1:Nat):Int):=by lia
  have hw:(aD [aA #[114,111,112,101],aA #[102,105,114,115,116],aA #[114,97,100,105,111]] i aC).size<=5:=bBD i;have e1:(s++aA #[43]).size=s.size+1:=by rw[bD]<;>rfl
  have u64:bA .u64 (i:Int):=by
   have e1:(aHA).min=0:=by rfl
   have e2:(aHA).max=18446744073709551615:=by rfl
   simp[bA]
   lia
  rw[NP,Jg,π (by lia),aI];refine⟨u64,by lia,bBC h i,?_⟩;unfold aQT;by_cases c:VX x0 i=true
  ·refine(π c).mpr ?_;rw[π c];by_cases d:(!aB s==aB (aA #[]))=true
   ·refine(π d).mpr ?_;rw[π d];exact⟨by lia,by lia,by lia,by lia,by grind [aK],ih (i+1) _ (by lia) (by grind)⟩
   ·grind [aK]
  ·refine(ν c).mpr ?_
   grind [aK]
def bIU:KK:=mL bBA (DO aDZ) nP (aBT,()) (λ⟨x0,_⟩ h hwf K q =>
 (bBB _ K q 5).1 (by rw[bIT];exact bBE x0 hwf.1 3 0 (aA #[]) rfl (aT _)))
def bBF:jB:=D0 aEa [.v (.str)] [.int .i64,.bool] [bIU]
mutual
def bIV:Nat->Δ->Γ aS->Prop
 | 0,_,_=>False
 | n+1,x0,ds=>RU n 0 x0 ds
def RU:Nat->Int->Δ->Γ aS->Prop
 | 0,_,_,_=>False
 | n+1,v4,x0,ds=>if decide (v4<=7)then(if aB (aBT v4)==aB x0 then ds=[aJ (.int .i64) v4,aJ .bool true] else bA .i64 (v4+1)/\RU n (v4+1) x0 ds)else ds=[aJ (.int .i64) 0,aJ .bool false]
end
def bBG(ds:Γ aS)(K:gU)(q:Nat->Value):∀n,(∀ {x0},bIV n x0 ds->St bBF (x0,()) ds [] K q)/\(∀ {v4 x0},RU n v4 x0 ds->Cu bBF 2 ([eS 0 x0,eI 4 v4],[]) ds [] K q):=nI ⟨aH,aH⟩ λn ⟨i,i2⟩=>⟨cX i2,
  bU (bS<|bU dR<|aO<|cX i2) dR⟩
def aQU(x0:Δ)(v:Int):Bool:=aB (aBT v)==aB x0
def Sy(x0:Δ):Nat->Int->Int×Bool
 | 0,_=>(0,false)
 | k+1,v=>if aQU x0 v=true then(v,true)else Sy x0 k (v+1)
def aBU(x0:Δ):Int:=(Sy x0 8 0).1
def RX(x0:Δ):Bool:=(Sy x0 8 0).2
theorem bBH(x0:Δ):∀(k:Nat) (v:Int),v+(k:Int)=8->0<=v->RU (k+1) v x0 [⟨.int .i64,(Sy x0 k v).1⟩,⟨.bool,(Sy x0 k v).2⟩]:=by
 intro k
 induction k with
 | zero =>
  intro v hv h0;rw[RU,ν (by simp only[ε];omega)];rfl
 | succ k ih =>
  intro v hv h0;rw[RU,π (by simp only[ε];omega),Sy];by_cases c:aQU x0 v=true
  ·rw[π c];exact(π c).mpr rfl
  ·rw[ν c];exact(ν c).mpr ⟨by rw[aK];omega,ih (v+1) (by omega) (by omega)⟩
def bIW:KK:=mL bBF (DO aEa) nP (aBU,RX,()) (λ⟨x0,_⟩ h hwf K q =>
 (bBG _ K q 10).1 (by rw[bIV];exact bBH x0 8 0 rfl (dO _)))
def aQV(x0:Δ):Prop:=((P6 x0 32)/\(if((↑(aF (cD x0 32)):Int) != 3)=true then True else((1<(↑(aF (cD x0 32)):Int))/\((2<(↑(aF (cD x0 32)):Int))/\((0<(↑(aF (cD x0 32)):Int))/\True)))))
def G8(x0:Δ):Δ:=if(↑(aF (cD x0 32)):Int) != 3 then aA #[] else if RX (aD (cD x0 32) 1 aC)then aD (cD x0 32) 0 aC else aD (cD x0 32) 0 aC
def G9(x0:Δ):Int:=if(↑(aF (cD x0 32)):Int) != 3 then 0 else if RX (aD (cD x0 32) 1 aC)then aBU (aD (cD x0 32) 1 aC)else aBU (aD (cD x0 32) 1 aC)
def Gb(x0:Δ):Int:=if(↑(aF (cD x0 32)):Int) != 3 then 0 else if RX (aD (cD x0 32) 1 aC)then nK (aD (cD x0 32) 2 aC)else nK (aD (cD x0 32) 2 aC)
def NQ(x0:Δ):Bool:=if(↑(aF (cD x0 32)):Int) != 3 then false else if RX (aD (cD x0 32) 1 aC)then wG (aD (cD x0 32) 2 aC)else false
def aWX:KK:=mB Tryz.func212 [.v (.str)] [.str,.int .i64,.int .i64,.bool] [kx6,bIW,aQw] aQV (G8,G9,Gb,NQ,()) λ_=>aO<|bDN pr<|pq 1<|aO<|bS<|pq 2<|aO<|bS<|pq 0<|aO<|pe4 pr pr
end
end Go.Proofs.YtgfpjekjhnkbfaaGreatDoor
