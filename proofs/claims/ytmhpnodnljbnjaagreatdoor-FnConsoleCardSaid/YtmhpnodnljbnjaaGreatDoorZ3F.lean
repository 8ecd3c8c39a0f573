/- The functions that this law reaches, and their laws. -/
import Derived.Test.YtmhpnodnljbnjaaGreatDoorZ3E
import Derived.Deep.DeepCutAuto
set_option linter.unusedVariables false
set_option linter.unusedSimpArgs false
open Bool renaming and_eq_true->aJ,eq_false_iff->bN,false_or->sN,not_eq_true'->cW
open ByteArray renaming append_assoc->EO,data_append->pV,empty->aC,mk->aA,size->aH,size_append->aS,size_extract->pB,toList->aB
open Go.Am renaming Good->dM
open Go.Lib renaming countB->gN,countB_le->sQ,cut->xL,extract_mk->SN,join->Av,joinTail->rO
open Go.Op renaming bytesLess->bE
open Go.Proofs.Tryz renaming func3->EP,prog->aL
open Iff renaming rfl->nX
open Int renaming eq_ofNat_of_zero_le->jJ,tdiv->bM,toNat_natCast->aF
open List renaming all_eq_true->jH,any_eq_false->iP,drop_eq_getElem_cons->mT,drop_eq_nil_of_le->dS,drop_left->vH,drop_zero->iS,foldl_cons->dY,getD_eq_getElem?_getD->bL,getElem?_eq_none->eV,getElem_append_right->iJ,getElem_drop->Lb,getElem_mem->rK,getElem_take->La,length_append->aO,length_cons->bA,length_drop->fD,length_map->eJ,length_nil->iW,length_singleton->cP,length_take->cJ,map_cons->bP,mem_append->bU,mem_append_left->bQ,mem_append_right->bF,mem_cons->aR,mem_cons_of_mem->aM,mem_cons_self->aQ,mem_iff_getElem->mZ,mem_map->eE,mem_nil_iff->bZ,pairwise_append->GW,pairwise_cons->BC,size_toArray->dK,take_left->jY,take_length->gU,toArray->kL
open Nat renaming add_sub_cancel->JX,add_zero->lE,le_refl->aT,le_trans->cO,lt_of_lt_of_le->cK,lt_or_ge->eK,zero_add->cV,zero_le->bW
set_option maxRecDepth 100000
namespace Go.Proofs.YtmhpnodnljbnjaaGreatDoor
open Go Go.Am Go.Proofs
def V12 (n:Int):Prop := -1000000000000<=n/\n<=1000000000000
theorem C7 {n:Int} (h:V12 n):N18 n:=by unfold V12 at h;exact ⟨by omega,by omega⟩
theorem wnT {x a b:Int}:cD x a b=true↔a<=x/\x<=b:=by
 unfold cD;by_cases h:x>=a
 ·rw [if_pos (decide_eq_true h),decide_eq_true_eq];omega
 ·rw [if_neg (by simp only [decide_eq_true_eq];exact h)];constructor
  ·intro hh;cases hh
  ·intro hh;omega
theorem Oe {x:Int×Int×Int×Unit} (h:tD x=true):(0<=x.1/\x.1<=36524)/\(0<=x.2.1/\x.2.1<=24000)/\(0<=x.2.2.1/\x.2.2.1<=1000):=by
 unfold tD at h;split at h
 ·rename_i h0;split at h
  ·rename_i h1;exact ⟨wnT.1 h0,wnT.1 h1,wnT.1 h⟩
  ·cases h
 ·cases h
theorem Gv {n:Int} (h:0<=n/\n<=36524):∃ a b c:Nat,u0 n=dT a b c/\OI n/\aG5 (dT a b c)/\DY (dT a b c)=n/\Fa (dT a b c)=true/\(32:UInt8) ∉ (dT a b c).data.toList:=by
 obtain ⟨y,m,d,hd,e⟩:=aMc h;have hp:=aAs hd;obtain ⟨⟨y1,y2⟩,⟨m1,m2⟩,d1,d2⟩:=id hd;obtain ⟨a,rfl⟩:=jJ (show 0<=y by omega);obtain ⟨b,rfl⟩:=jJ (show 0<=m by omega);obtain ⟨c,rfl⟩:=jJ (show 0<=d by omega);have hc:pS (a:Int) (b:Int)<=31:=by
  unfold pS
  repeat' split
  all_goals decide
 have ht:=U9 hd (by omega) (by omega) (by omega);obtain ⟨r0,r1⟩:=aPg hd (by omega) (by omega) (by omega);rw [e] at hp ht r0;refine ⟨a,b,c,ht,hp,aFz _ (by show (10:Nat)<=1048576;decide),r0,r1,?_⟩;have hD:∀ n,n<10->(32:UInt8)≠sF n:=λn hn e=>by
  have:=congrArg UInt8.toNat e;rw [Od hn] at this;have e32:(32:UInt8).toNat=32:=rfl;omega
 show (32:UInt8) ∉ [50,48,sF (a % 100 / 10),sF (a % 10)]++45 :: ([sF (b / 10),sF (b % 10)]++45 :: [sF (c / 10),sF (c % 10)]);simp only [aR,bU,bZ,or_false,not_or];exact ⟨⟨by decide,by decide,hD _ (by omega),hD _ (by omega)⟩,by decide,⟨hD _ (by omega),hD _ (by omega)⟩,by decide,hD _ (by omega),hD _ (by omega)⟩
abbrev TST:=Int×Int×Int×Unit
abbrev Ni:TST:=((0:Int),(0:Int),(0:Int),())
theorem aF0 {p:Nat->TST->Bool}:∀ (l:List TST) (k:Nat),lC p k l=true->∀ i,i<l.length->p (k+i) (l.getD i Ni)=true
 | [],k,_,i,hi=>by simp at hi
 | x :: r,k,h,i,hi=>by
  rw [lC,aJ] at h;cases i with
  | zero=>exact h.1
  | succ i =>
   have:=aF0 r (k+1) h.2 i (by simpa using hi);rw [List.getD_cons_succ,show k+(i+1)=k+1+i by omega];exact this
theorem aAt {xs:List TST} (h:jV xs=true):xs.length<=24/\AQ xs=true:=by
 unfold jV at h;split at h
 case isFalse=>cases h
 rename_i h1;exact ⟨by have:=of_decide_eq_true h;omega,h1⟩
theorem aAu {xs:List TST} (h:AQ xs=true):(∀ i,i<xs.length->tD (xs.getD i Ni)=true)/\∀ i,i+1<xs.length->(xs.getD i Ni).1<(xs.getD (i+1) Ni).1/\(xs.getD i Ni).2.1<=(xs.getD (i+1) Ni).2.1:=by
 have hk:=aF0 xs 0 h;refine ⟨λi hi => ?_,λi hi => ?_⟩
 ·have:=hk i hi;unfold N3 at this;rw [aJ] at this;exact this.1
 ·have:=hk (i+1) hi;unfold N3 at this;rw [aJ] at this;have h2:=this.2;rw [cV,show (i+1==0)=false from rfl,sN,JX] at h2;unfold aBU at h2;simp only [aJ,decide_eq_true_eq] at h2;exact ⟨h2.1.1,h2.1.2⟩
theorem Ua {xs:List TST} (h:∀ i,i+1<xs.length->(xs.getD i Ni).1<(xs.getD (i+1) Ni).1/\(xs.getD i Ni).2.1<=(xs.getD (i+1) Ni).2.1):∀ n,n+1<xs.length->(xs.getD 0 Ni).1<(xs.getD (n+1) Ni).1/\(xs.getD 0 Ni).2.1<=(xs.getD (n+1) Ni).2.1
 | 0,hn=>h 0 hn
 | n+1,hn=>by
  have h1:=Ua h n (by omega);have h2:=h (n+1) hn;exact ⟨by omega,by omega⟩
theorem aMd {a b:Int} (ha:0<=a/\a<=24000000) (hb:1<=b/\b<=36524):M2 a b/\0<=pT a b/\pT a b<=30000000:=by
 have t1:bM a b=a / b:=Int.tdiv_eq_ediv_of_nonneg ha.1;have t2:Int.tmod a b=a % b:=Int.tmod_eq_emod_of_nonneg ha.1;have d1:0<=a / b:=Int.ediv_nonneg ha.1 (by omega);have d2:a / b<=a:=Int.ediv_le_self _ ha.1;have m1:0<=a % b:=Int.emod_nonneg _ (by omega);have m2:a % b<b:=Int.emod_lt_of_pos _ (by omega);have a1:nN b=b:=by
  unfold nN;rw [if_neg (by simp only [decide_eq_true_eq];omega)]
 have a2:nN (a % b)=a % b:=by
  unfold nN;rw [if_neg (by simp only [decide_eq_true_eq];omega)]
 have p1:OJ b:=by
  unfold OJ;rw [if_neg (by simp only [decide_eq_true_eq];omega)];trivial
 have p2:OJ (a % b):=by
  unfold OJ;rw [if_neg (by simp only [decide_eq_true_eq];omega)];trivial
 have c0:decide (a<0)=false:=decide_eq_false (by omega);have c1:decide (b<0)=false:=decide_eq_false (by omega);unfold M2 pT;rw [t1,t2,a1,a2,c0,c1];generalize a / b=q at *;generalize a % b=m at *;have hn:¬ (!(false==false))=true:=by decide
 have i1:cC .i64 q:=by rw [aK];omega
 have i2:cC .i64 m:=by rw [aK];omega
 have i3:cC .i64 (b - m):=by rw [aK];omega
 have i4:cC .i64 (q+1):=by rw [aK];omega
 by_cases hc:m>=b - m
 ·rw [if_pos (decide_eq_true hc),if_pos (decide_eq_true hc),if_neg hn,if_neg hn];exact ⟨⟨by omega,i1,by omega,i2,p2,p1,i3,i4,trivial⟩,by omega,by omega⟩
 ·rw [if_neg (by simp only [decide_eq_true_eq];exact hc),if_neg (by simp only [decide_eq_true_eq];exact hc)];exact ⟨⟨by omega,i1,by omega,i2,p2,p1,i3,trivial⟩,by omega,by omega⟩
theorem aEi (xs:List TST):aKQ xs/\(jV xs=true->(tM xs=0↔2<=xs.length))/\(0<=mS xs/\mS xs<=30000000)/\(jV xs=true->1<=xs.length->UK xs):=by
 by_cases hv:jV xs=true
 ·obtain ⟨hl,ha⟩:=aAt hv;obtain ⟨h1,h2⟩:=aAu ha;have hlt:∀ i,i<xs.length->(0<=(xs.getD i Ni).1/\(xs.getD i Ni).1<=36524)/\(0<=(xs.getD i Ni).2.1/\(xs.getD i Ni).2.1<=24000):=λi hi=>⟨(Oe (h1 i hi)).1,(Oe (h1 i hi)).2.1⟩;have big:2<=xs.length->M2 (UI xs) (UJ xs)/\0<=pT (UI xs) (UJ xs)/\pT (UI xs) (UJ xs)<=30000000:=λh=>by
   have hf:=Ua h2 (xs.length - 2) (by omega);rw [show xs.length - 2+1=xs.length - 1 by omega] at hf;have b0:=hlt 0 (by omega);have b1:=hlt (xs.length - 1) (by omega);refine aMd ?_ ?_
   ·show 0<=1000*((xs.getD (xs.length - 1) Ni).2.1 - (xs.getD 0 Ni).2.1)/\1000*((xs.getD (xs.length - 1) Ni).2.1 - (xs.getD 0 Ni).2.1)<=24000000;omega
   ·show 1<=(xs.getD (xs.length - 1) Ni).1 - (xs.getD 0 Ni).1/\(xs.getD (xs.length - 1) Ni).1 - (xs.getD 0 Ni).1<=36524;omega
  have hg:0<=mS xs/\mS xs<=30000000:=by
   unfold mS;rw [if_pos hv];split
   ·omega
   ·exact (big (by omega)).2
  refine ⟨λ_ h=>⟨hl,(big h).1,?_,?_⟩,λ_ => ?_,hg,λ_ h => ?_⟩
  ·have:=(big h).2;rw [aK];omega
  ·have b0:=hlt 0 (by omega);have b1:=hlt (xs.length - 1) (by omega);have le:∀ {a:Int},a<=36524->a<=100000:=λh=>by omega
   have le2:∀ {a:Int},a<=24000->a<=100000:=λh=>by omega
   exact ⟨b1.1.1,le b1.1.2,b0.1.1,le b0.1.2,b1.2.1,le2 b1.2.2,b0.2.1,le2 b0.2.2⟩
  ·unfold tM;rw [if_pos hv];constructor
   ·intro h;by_cases h3:xs.length<2
    ·rw [if_pos h3] at h;exact absurd h (by decide)
    ·omega
   ·intro h;rw [if_neg (by omega)]
  ·have b1:=hlt (xs.length - 1) (by omega);have e:Int.toNat ((xs.length:Int) - 1)=xs.length - 1:=by omega
   unfold UK oH;rw [e];exact ⟨h,hl,b1.1,b1.2,hg⟩
 ·refine ⟨λh=>absurd h hv,λh=>absurd h hv,?_,λh=>absurd h hv⟩;unfold mS;rw [if_neg hv];decide
theorem aF1 (xs:List TST) (v:Int):∀ (k:Nat) (d:Int),(kT xs v k d = -1)\/(d<=kT xs v k d/\kT xs v k d<d+k/\oB xs (kT xs v k d)>=v/\∀ e,d<=e->e<kT xs v k d->oB xs e<v)
 | 0,d => .inl rfl
 | k+1,d=>by
  have ef:kT xs v (k+1) d=if oB xs d>=v then d else kT xs v k (d+1):=rfl
  by_cases h:oB xs d>=v
  ·rw [if_pos h] at ef;rw [ef];exact .inr ⟨Int.le_refl _,by omega,h,λe h1 h2=>by omega⟩
  ·rw [if_neg h] at ef;rw [ef];rcases aF1 xs v k (d+1) with h1 | ⟨h1,h2,h3,h4⟩
   ·exact .inl h1
   ·refine .inr ⟨by omega,by omega,h3,λe e1 e2 => ?_⟩;by_cases he:e=d
    ·subst he;omega
    ·exact h4 e (by omega) e2
theorem aGX (xs:List TST) (v:Int):aOC xs v/\(Ix xs v=0->UK xs/\(oH xs).1<=Bw xs v/\Bw xs v<=36524/\oB xs (Bw xs v)>=v/\∀ e,(oH xs).1<=e->e<Bw xs v->oB xs e<v):=by
 obtain ⟨p,h1,h2,h3⟩:=aEi xs;have hB:jV xs=true->tM xs=0->UK xs:=λhv hg=>h3 hv (by have:=(h1 hv).1 hg;omega);refine ⟨⟨p,hB⟩,λh => ?_⟩;unfold Ix at h;unfold Bw;split at h
 case isFalse=>exact absurd h (by decide)
 rename_i hv;rw [if_pos hv];split at h
 case isFalse=>exact absurd h (by decide)
 rename_i hw;rw [if_pos hw];split at h
 case isFalse=>rename_i hg;exact absurd h hg
 rename_i hg;rw [if_pos hg];split at h
 case isTrue=>exact absurd h (by decide)
 rename_i hd;rw [if_neg hd];have hb:=hB hv hg;have hb':=hb;obtain ⟨_,_,⟨l1,l2⟩,_,_⟩:=hb';refine ⟨hb,?_⟩;rcases aF1 xs v (36525 - (oH xs).1).toNat (oH xs).1 with e | ⟨e1,e2,e3,e4⟩
 ·exfalso;apply hd;show kT xs v (36525 - (oH xs).1).toNat (oH xs).1<0;omega
 ·exact ⟨e1,by show kT xs v (36525 - (oH xs).1).toNat (oH xs).1<=36524;omega,e3,e4⟩
theorem aPi {h:Int×Int×Int×Unit} (q:wE h=true):(0<=h.1/\h.1<=1000) /\ -400<=h.2.1/\h.2.1<=500:=by
 unfold wE at q;obtain ⟨a,q⟩:=wX q;exact ⟨wi a,wi (wX q).1⟩
theorem C8 {l:List cU} (h:AN l=true):l.length<=48/\∀ x∈l,wE x=true:=by
 unfold AN AM at h;obtain ⟨a,h⟩:=wX h;rw [IZ,cW,iP] at h;exact ⟨by have:=of_decide_eq_true a;omega,λx hx=>nb (h x hx)⟩
theorem Dn {l:List cU} (h:yT l=true):l.length<=8/\∀ x∈l,rT x=true:=by
 unfold yT AP at h;obtain ⟨a,h⟩:=wX h;rw [I1,cW,iP] at h;exact ⟨by have:=of_decide_eq_true a;omega,λx hx=>nb (h x hx)⟩
theorem aMe {l:List cU} (h1:l.length<=48) (h2:∀ x∈l,wE x=true):AN l=true:=by
 unfold AN AM;rw [IZ,if_pos (decide_eq_true (by omega)),cW,iP];exact λx hx=>by rw [show AL x = !wE x from rfl,h2 x hx];decide
theorem aGY {l:List cU} (h1:l.length<=8) (h2:∀ x∈l,rT x=true):yT l=true:=by
 unfold yT AP;rw [I1,if_pos (decide_eq_true (by omega)),cW,iP];exact λx hx=>by rw [show AO x = !rT x from rfl,h2 x hx];decide
theorem aAv (l h:List cU):aOk l h:=λho=>by
 unfold Hk at ho;rw [aJ] at ho;obtain ⟨h1,h2⟩:=C8 ho.2;refine ⟨by omega,λx hx y hy => ?_⟩;obtain ⟨_,q⟩:=aPi (h2 x hx);unfold aK6;split
 ·trivial
 ·split
  ·exact ⟨by rw [aK];omega,trivial⟩
  ·trivial
theorem aAw {l:List Int} (h:qL l=true):l.length<=60/\∀ x∈l,0<=x/\x<=1000:=by
 unfold qL at h;obtain ⟨_,h⟩:=wX h;obtain ⟨b,h⟩:=wX h;have b:=of_decide_eq_true b;refine ⟨by omega,λx hx => ?_⟩;unfold I5 at h;rw [aCl,cW,iP] at h;have q:¬ (!aCg x)=true:=h x hx;exact wi (show cD x 0 1000=true from nb q)
theorem aGZ (l:List Int) (e s:Int):aOs l e s:=by
 have key:∀ c:Bool,¬ (Af l c != 0)=true->qL l=true/\c=true:=λc hc=>by
  unfold Af at hc;cases v:qL l
  ·rw [v] at hc;exact absurd rfl hc
  ·rw [v] at hc;cases c
   ·exact absurd rfl hc
   ·exact ⟨rfl,rfl⟩
 unfold aOs;split
 ·rename_i he;refine BH λc=>⟨?_,trivial⟩;obtain ⟨h1,h2⟩:=key _ c;obtain ⟨q1,q2⟩:=aAw h1;have w1:=wi (show cD e 1 60=true from he);have w2:=wi (show cD s 1 1000=true from h2);exact ⟨by omega,by omega,by omega,q2⟩
 ·exact BH λc=>absurd (key _ c).2 (by decide)
theorem aMf {l:List bX} (h:xV l=true):l.length<=10:=by
 unfold xV at h;rw [aJ,decide_eq_true_eq] at h;exact h.2
theorem aMg {l:List bX} (h:xW l=true):l.length<=8:=by
 unfold xW at h;rw [aJ,decide_eq_true_eq] at h;exact h.2
theorem aMh {l:List bX} (h:rR l=true):l.length<=12:=by
 unfold rR at h;rw [aJ,decide_eq_true_eq] at h;exact h.2
theorem aQm {l:List dG} (h:qK l=true):l.length<=8:=by
 unfold qK at h;rw [aJ,decide_eq_true_eq] at h;exact h.2
theorem aQn {l:List dG} (h:sL l=true):l.length<=100:=by
 unfold sL at h;rw [aJ,decide_eq_true_eq] at h;omega
theorem aMi (a b:List bX) (ha:xV a=true) (hb:xW b=true):aOx a b:=by
 unfold aOx;have h1:=aMf ha;have h2:=aMg hb;exact BH λc=>⟨⟨bW _,show b.length+1 - 0<=2000 by omega,by omega,by omega⟩,trivial⟩
theorem Rg {l:List dG} (h:qK l=true):∀ x∈l,rU x=true:=by
 unfold qK at h;rw [aJ] at h;intro x hx;obtain ⟨j,hj⟩:=Kp _ _ h.1 x hx;unfold aBR at hj;rw [aJ] at hj;exact hj.1
theorem aEj {l:List dG} (h:sL l=true):∀ x∈l,pR x=true:=by
 unfold sL at h;rw [aJ] at h;intro x hx;obtain ⟨j,hj⟩:=Kp _ _ h.1 x hx;unfold aBF at hj;rw [aJ] at hj;exact hj.1
theorem aF2 {f:ByteArray×Int×Int×Int×Unit} (q:rU f=true):qJ f.1=true/\(0<=f.2.1/\f.2.1<=100000)/\(1<=f.2.2.1/\f.2.2.1<=1000)/\1<=f.2.2.2.1/\f.2.2.2.1<=400:=by
 unfold rU at q;obtain ⟨a,q⟩:=wX q;obtain ⟨b,q⟩:=wX q;obtain ⟨c,q⟩:=wX q;exact ⟨a,wi b,wi c,wi q⟩
theorem aAx {l:List Int} (h:kD l=true):l.length<=40/\∀ y∈l,0<=y/\y<=36524:=by
 unfold kD at h;rw [aJ,decide_eq_true_eq] at h;refine ⟨by omega,λx hx => ?_⟩;obtain ⟨j,hj⟩:=Kp _ _ h.1 x hx;unfold UH at hj;rw [aJ] at hj;exact wi (show cD x 0 36524=true from hj.1)
theorem aHa (l:List dG) (t:List Int):aO4 l t:=by
 refine ⟨λy hy=>(by cases hy),λh => ?_⟩;have q:qK l=true/\kD t=true:=by
  unfold nO at h;split at h
  ·cases h
  ·rename_i c;split at h
   ·cases h
   ·rename_i c2;exact ⟨nb c,nb c2⟩
 obtain ⟨t1,t2⟩:=aAx q.2;refine ⟨by omega,λf hf => ?_,λy hy => ?_⟩
 ·obtain ⟨_,f1,f2,f3⟩:=aF2 (Rg q.1 f hf);omega
 ·have:=t2 y hy;omega
theorem Ak {l:List cU} (h:jV l=true):l.length<=24/\∀ x∈l,(0<=x.1/\x.1<=36524)/\(0<=x.2.1/\x.2.1<=24000)/\0<=x.2.2.1/\x.2.2.1<=1000:=by
 obtain ⟨h1,h2⟩:=aAt h;refine ⟨h1,λx hx => ?_⟩;obtain ⟨i,hi,rfl⟩:=mZ.1 hx;have:=(aAu h2).1 i hi;rw [iV _ i _ hi] at this;exact Oe this
theorem aPj (l:List cU) (a b:Int):aOD l a b:=by
 unfold aOD;refine BH λc1=>BH λc2=>BH λc3=>BH λc4 => ?_;obtain ⟨h1,h2⟩:=Ak (nb c1);have w:=wi (nb c3);have hl:l.length≠0:=λe=>by rw [e] at c4;exact c4 rfl
 have e:(((l.length:Nat):Int) - 1).toNat=l.length - 1:=by omega
 have hm:=h2 _ (dN l (l.length - 1) (0,0,0,()) (by omega));refine ⟨by rw [aK];omega,by omega,by omega,?_,(aGX l a).1,trivial⟩;rw [e,aK];omega
theorem aEk (l:List cU):aOK l:=λh=>by
 obtain ⟨h1,h2⟩:=Ak h;refine ⟨by omega,λf hf => ?_⟩;obtain ⟨q1,q2,q3⟩:=h2 f hf;obtain ⟨a,b,c,e,p,_⟩:=Gv q1;refine ⟨p,zA _,zA _,λx hx => ?_⟩;unfold Hl at hx;simp only [aR,bZ,or_false] at hx;rcases hx with rfl | rfl | rfl
 ·rw [e,show (dT a b c).size=10 from rfl];omega
 ·have:=JE (x:=f.2.1) (by rw [aK];omega);omega
 ·have:=JE (x:=f.2.2.1) (by rw [aK];omega);omega
def Few (ls:List ByteArray):Prop:=ls.length<=1000/\∀ l∈ls,l.size<=50000000
theorem aAy {s:ByteArray} (h:s.size<=50000000):Few [s]:=⟨by show 1<=1000;decide,λl hl=>by simp only [aR,bZ,or_false] at hl;rw [hl];exact h⟩
theorem WZ:Few []:=⟨bW _,λl hl=>by cases hl⟩
theorem aPk (l:List ByteArray):Few (Mf l):=by
 unfold Mf;split
 ·exact WZ
 ·rename_i c;have c:=nb c;unfold WO at c;obtain ⟨a,c⟩:=wX c;have a:=of_decide_eq_true a;unfold Iy at c;rw [aDC,cW,iP] at c;refine ⟨by omega,λs hs => ?_⟩;have q:¬ (!WN s)=true:=c s hs;have q:=nb q;unfold WN at q;have:=of_decide_eq_true (wX q).1;omega
theorem aEl (l:List cU):Few (Mj l):=by
 unfold Mj JA;split
 ·split
  ·exact WZ
  ·exact aPk _
 ·exact WZ
theorem aF3:∀ (w:List (List UInt8)) (M:Nat),(∀ x∈w,x.length<=M)->(rO [44] w).length<=w.length*(M+1)
 | [],M,_=>by simp [rO]
 | x :: r,M,h=>by
  have:=aF3 r M (λy hy=>h y (aM _ hy));have hx:=h x (aQ ..);simp only [rO,bP,List.flatten_cons,aO,bA,iW,Nat.add_mul,Nat.one_mul] at this ⊢;omega
theorem Of (l:List Int):(n9 l).size<=50000000:=by
 unfold n9;split
 ·exact bW _
 ·rename_i c1;split
  ·exact bW _
  ·rename_i c2;split
   ·show 1<=50000000;decide
   ·unfold AR at c2;rw [aCe,List.any_eq_true] at c2;have hv:∀ x∈l,(dU x).data.toList.length<=21:=λx hx=>by
     have q:¬ (!aBZ x)=true:=λq=>c2 ⟨x,hx,q⟩;have w:=wi (show cD x (-1000000000000) 1000000000000=true from nb q);have:=JE (x:=x) (by rw [aK];omega);simpa using this
    unfold tE;show (Av (List.map (λx=>x.data.toList) (l.map dU)) [44]).toArray.size<=_;rw [dK,List.map_map];cases l with
    | nil=>show (Av [] [44]).length<=_;exact bW _
    | cons a r =>
     rw [bP,Lib.join_cons];have ha:=hv a (aQ ..);have hr:=aF3 (r.map (λx=>(dU x).data.toList)) 21 (λy hy=>by
      obtain ⟨x,hx,rfl⟩:=eE.1 hy;exact hv x (aM _ hx))
     rw [eJ] at hr;simp only [bA] at c1;rw [aO];show (dU a).data.toList.length+(rO [44] (r.map (λx=>(dU x).data.toList))).length<=_;omega
theorem aPl {s:ByteArray} (h:qJ s=true):s.size<=10:=by
 unfold qJ at h;simp only [aJ,decide_eq_true_eq] at h;omega
theorem aHb (l:List dG) (t:List Int):Few (Me l t):=by
 unfold Me;split
 ·rename_i c;have q:qK l=true/\kD t=true:=by
   unfold Gs nO at c;cases v:qK l
   ·rw [v] at c;exact absurd (show (1:Int)=0 from c) (by decide)
   ·cases v2:kD t
    ·rw [v,v2] at c;exact absurd (show (2:Int)=0 from c) (by decide)
    ·exact ⟨rfl,rfl⟩
  have t1:=(aAx q.2).1;have key:∀ (e:List Int) (k a:Nat),(Dg l t e k a).length<=k/\∀ s∈Dg l t e k a,s.size<=50000000:=by
   intro e k
   induction k with
   | zero=>exact λa=>⟨aT _,λs hs=>by cases hs⟩
   | succ k ih =>
    intro a;unfold Dg;split
    ·obtain ⟨i1,i2⟩:=ih (e.getD a 0).toNat;refine ⟨by rw [bA];omega,λs hs => ?_⟩;rcases aR.1 hs with rfl | hs
     ·rcases Fy l (Fx t a (e.getD a 0).toNat) l (false,(aC,0,0,0,())) (λf hf=>hf) with h | h
      ·show (Md l _).2.1.size<=_;unfold Md;rw [h];exact bW _
      ·have hn:=(aF2 (Rg q.1 _ h)).1;have:=aPl hn;show (Md l _).2.1.size<=_;unfold Md;omega
     ·exact i2 s hs
    ·exact ⟨bW _,λs hs=>by cases hs⟩
  obtain ⟨k1,k2⟩:=key (Iw l t).2 (t.length+1) 0;exact ⟨by omega,k2⟩
 ·exact WZ
theorem aMj (x k:ByteArray) (hk:1<=k.size):(bY x k).length=gN x k+1:=Lib.splitB_all k hk 0 (gN x k) x rfl
theorem aF4 (x k:ByteArray) (i:Nat):((bY x k).getD i aC).size<=x.size:=by
 by_cases c:i<(bY x k).length
 ·exact uE k 0 _ _ _ (dN (bY x k) i aC c)
 ·rw [bL,eV (by omega)];exact bW _
theorem aF5 {k:ByteArray} (hk:1<=k.size):(bY (aA #[]) k).length=1:=by
 rw [aMj _ _ hk];have:=sQ k hk 0 (aA #[]) (aT _);have e:(aA #[]).size=0:=rfl;omega
theorem Gw (t s:ByteArray):(pI t s).size<=t.size/\(iR t s).size<=t.size:=by
 obtain ⟨l1,l2⟩:=Yh t.data.toList s.data.toList;have e:t.data.toList.length=t.size:=rfl;have a1:(pI t s).size=(xL t.data.toList s.data.toList).1.length:=by
  show (kL _).size=_;rw [dK]
 have a2:(iR t s).size=(xL t.data.toList s.data.toList).2.1.length:=by
  show (kL _).size=_;rw [dK]
 omega
theorem aWT (x:ByteArray):(uX x).length=0\/(uX x).length=(bY x (aA #[44])).length:=by
 unfold uX aFe;split
 ·exact .inl rfl
 ·split
  ·exact .inr (by show (I4 x).length=_;unfold I4;rw [eJ];rfl)
  ·exact .inl rfl
theorem W0 (k:Nat) (hk:2<=k):(uX (aA #[])).length≠k:=by
 rcases aWT (aA #[]) with h | h
 ·omega
 ·rw [aF5 (by decide)] at h;omega
theorem W2 (k:ByteArray):pI (aA #[]) k=aA #[]/\iR (aA #[]) k=aA #[]:=by
 have hz:∀ s:ByteArray,s.size<=0->s=aA #[]:=λs hs=>by
  obtain ⟨⟨l⟩⟩:=s;cases l with
  | nil=>rfl
  | cons a r=>exact absurd hs (by show ¬ (r.length+1<=0);omega)
 have h:=Gw (aA #[]) k;exact ⟨hz _ h.1,hz _ h.2⟩
theorem Gx {x:ByteArray} (h:x.size<=1048576) (k:Int):aN7 x k:=by
 have:=(Gw x (aA #[32])).2;exact ⟨show x.size<4294967281 by omega,show (iR x (aA #[32])).size<=1048576 by omega,trivial⟩
theorem aF6 {x:ByteArray} (h:x.size<=1048576):aN9 x/\(F1 x=true->pR (rW x)=true):=by
 unfold aN9 F1 rW;by_cases c:(!AV x 3)=true
 ·rw [if_pos c,if_pos c];exact ⟨⟨Gx h 3,trivial⟩,λh=>by cases h⟩
 ·rw [if_neg c,if_neg c,if_neg c];have c:=nb c;have hl:((gE x 3).length:Int)=3:=by simpa [AV,gE] using c
  have hs:=(Gw x (aA #[32])).1;generalize hb:(AU x 3,(gE x 3).getD 0 0,(gE x 3).getD 1 0,(gE x 3).getD 2 0,())=b;have hb1:b.1.size<=1048576:=by rw [<- hb];show (pI x (aA #[32])).size<=_;omega
  have hp:aN8 b:=by
   unfold aN8;have:=Of [b.2.1,b.2.2.1,b.2.2.2.1];refine BH λ_=>⟨by omega,?_,trivial⟩;rw [aS,show (aA #[32]).size=1 from rfl];omega
  refine ⟨⟨Gx h 3,by omega,by omega,by omega,hp,trivial⟩,λe => ?_⟩;by_cases t:(!aB (QO b)==aB x)=true
  ·rw [if_pos t] at e;cases e
  ·rw [if_neg t];have t:=(eR _ _).1 (nb t);cases v:pR b
   ·unfold QO at t;rw [v] at t;have t:aA #[]=x:=t;subst t;exfalso;have:(uX (iR (aA #[]) (aA #[32]))).length=3:=by
     have hl:(((uX (iR (aA #[]) (aA #[32]))).length:Nat):Int)=3:=hl;omega
    rw [(W2 _).2] at this;exact W0 3 (by decide) this
   ·rfl
theorem aF7 {x:ByteArray} (h:x.size<=1048576):aNF x/\(F4 x=true->rU (rY x)=true):=by
 unfold aNF F4 rY;by_cases c:(!AV x 3)=true
 ·rw [if_pos c,if_pos c];exact ⟨⟨Gx h 3,trivial⟩,λh=>by cases h⟩
 ·rw [if_neg c,if_neg c,if_neg c];have c:=nb c;have hl:((gE x 3).length:Int)=3:=by simpa [AV,gE] using c
  have hs:=(Gw x (aA #[32])).1;generalize hb:(AU x 3,(gE x 3).getD 0 0,(gE x 3).getD 1 0,(gE x 3).getD 2 0,())=b;have hb1:b.1.size<=1048576:=by rw [<- hb];show (pI x (aA #[32])).size<=_;omega
  have hp:aNE b:=by
   unfold aNE;have:=Of [b.2.1,b.2.2.1,b.2.2.2.1];refine BH λ_=>⟨by omega,?_,trivial⟩;rw [aS,show (aA #[32]).size=1 from rfl];omega
  refine ⟨⟨Gx h 3,by omega,by omega,by omega,hp,trivial⟩,λe => ?_⟩;by_cases t:(!aB (QQ b)==aB x)=true
  ·rw [if_pos t] at e;cases e
  ·rw [if_neg t];have t:=(eR _ _).1 (nb t);cases v:rU b
   ·unfold QQ at t;rw [v] at t;have t:aA #[]=x:=t;subst t;exfalso;have:(uX (iR (aA #[]) (aA #[32]))).length=3:=by
     have hl:(((uX (iR (aA #[]) (aA #[32]))).length:Nat):Int)=3:=hl;omega
    rw [(W2 _).2] at this;exact W0 3 (by decide) this
   ·rfl
theorem Nj {x:ByteArray} (h:x.size<=1048576):aJF x:=by
 unfold aJF;refine ⟨⟨by omega,by decide⟩,BH λc => ?_⟩;have hl:((bY x (aA #[32])).length:Int)=3:=by simpa using c
 have:=aF4 x (aA #[32]) 2;exact ⟨by omega,by omega,show _<=281474976710656 by omega,by omega,trivial⟩
theorem Ub {x:ByteArray} (h:x.size<=1048576):aS9 x/\(F5 x=true->yH (rZ x)=true):=by
 refine ⟨⟨Nj h,trivial⟩,?_⟩;unfold F5 rZ;intro e;split at e
 ·cases e
 ·split at e
  ·cases e
  ·rename_i c1 c2;rw [if_neg c1,if_neg c2];exact nb c2
theorem aF8 {x:ByteArray} (h:x.size<=1048576):aSB x/\(F6 x=true->yI (r9 x)=true):=by
 refine ⟨⟨Nj h,trivial⟩,?_⟩;unfold F6 r9;intro e;split at e
 ·cases e
 ·split at e
  ·cases e
  ·rename_i c1 c2;rw [if_neg c1,if_neg c2];exact nb c2
theorem aF9 {x:ByteArray} (h:x.size<=1048576):aNI x/\(F7 x=true->wE (sA x)=true):=by
 unfold aNI F7 sA;refine ⟨⟨⟨h,trivial⟩,BH λc => ?_⟩,λe => ?_⟩
 ·have hl:((dC x 3).length:Int)=3:=by simpa [mR,dC] using nb c
  exact ⟨by omega,by omega,by omega,trivial⟩
 ·split at e
  ·cases e
  ·split at e
   ·cases e
   ·rename_i c1 c2;rw [if_neg c1,if_neg c2];exact nb c2
theorem aAz {x:ByteArray} (h:x.size<=1048576):aNQ x/\(Vg x=true->vQ (Vf x)=true):=by
 unfold aNQ Vg Vf;refine ⟨⟨⟨h,trivial⟩,BH λc => ?_⟩,λe => ?_⟩
 ·have hl:((dC x 3).length:Int)=3:=by simpa [mR,dC] using nb c
  exact ⟨by omega,by omega,by omega,trivial⟩
 ·split at e
  ·cases e
  ·split at e
   ·cases e
   ·rename_i c1 c2;rw [if_neg c1,if_neg c2];exact nb c2
theorem aFA {x:ByteArray} (h:x.size<=1048576):aNP x/\(Ve x=true->BV (Vc x)=true):=by
 unfold aNP Ve Vc;refine ⟨⟨⟨h,trivial⟩,BH λc => ?_⟩,λe => ?_⟩
 ·have hl:((dC x 4).length:Int)=4:=by simpa [mR,dC] using nb c
  exact ⟨by omega,by omega,by omega,by omega,trivial⟩
 ·split at e
  ·cases e
  ·split at e
   ·cases e
   ·rename_i c1 c2;rw [if_neg c1,if_neg c2];exact nb c2
theorem aA0 {x:ByteArray} (h:x.size<=1048576):aNR x/\(Vi x=true->uG (Vh x)=true):=by
 unfold aNR Vi Vh;refine ⟨⟨⟨h,trivial⟩,BH λc => ?_⟩,λe => ?_⟩
 ·have hl:((dC x 4).length:Int)=4:=by simpa [mR,dC] using nb c
  exact ⟨by omega,by omega,by omega,by omega,trivial⟩
 ·split at e
  ·cases e
  ·split at e
   ·cases e
   ·rename_i c1 c2;rw [if_neg c1,if_neg c2];exact nb c2
theorem Uc {x:ByteArray} (h:x.size<=1048576):aND x/\(F3 x=true->tC (rX x)=true):=by
 have hs:=λi=>aF4 x (aA #[32]) i;have hd:=λi=>aWS (x:=(bY x (aA #[32])).getD i aC) (by have:=hs i;omega);have hz:∀ n,0<=n->n<=1440->(Bt n).size=5:=λn h0 h1=>by
  obtain ⟨k,rfl⟩:=jJ h0;have h1:(k:Int)<=1440:=h1;have e:=aLP (n:=k) (by omega);rw [e];rfl
 unfold aND F3 rX;by_cases c:(((bY x (aA #[32])).length:Int) != 3)=true
 ·rw [if_pos c,if_pos c];exact ⟨⟨⟨by omega,by decide⟩,trivial⟩,λh=>by cases h⟩
 ·rw [if_neg c,if_neg c,if_neg c];have hl:((bY x (aA #[32])).length:Int)=3:=by simpa using c
  generalize hb:((bY x (aA #[32])).getD 0 aC,AX ((bY x (aA #[32])).getD 1 aC),AX ((bY x (aA #[32])).getD 2 aC),())=b;have hb1:b.1.size<=1048576:=by rw [<- hb];have:=hs 0;exact cO this h
  have hp:aNC b:=by
   unfold aNC;refine BH λv => ?_;have m:=aAl (a:=b.1) (n:=b.2.1) (m:=b.2.2.1) (nb v);have z1:=hz b.2.1 m.1 m.2.1;have z2:=hz b.2.2.1 m.2.2.1 m.2.2.2;have i1:(aA #[32]).size=1:=rfl;simp only [aS,z1,z2,i1];exact ⟨by omega,aFu _,by omega,by omega,aFu _,by omega,trivial⟩
  refine ⟨⟨⟨by omega,by decide⟩,by omega,by omega,hd 1,by omega,hd 2,hp,trivial⟩,λe => ?_⟩;by_cases t:(!aB (QP b)==aB x)=true
  ·rw [if_pos t] at e;cases e
  ·rw [if_neg t];have t:=(eR _ _).1 (nb t);cases v:tC b
   ·unfold QP at t;rw [v] at t;have t:aA #[]=x:=t;subst t;rw [aF5 (by decide)] at hl;exact absurd hl (by decide)
   ·rfl
theorem aPm {x:ByteArray} (h:x.size<=1048576):aNO x/\(V9 x=true->tD (MY x)=true):=by
 have hc:=Gw x (aA #[32]);have hd:aG5 (pI x (aA #[32])):=aFz _ (by omega);unfold aNO V9 MY;by_cases c:(!Fa (pI x (aA #[32])))=true
 ·rw [if_pos c,if_pos c];exact ⟨⟨show x.size<4294967281 by omega,hd,⟨show (iR x (aA #[32])).size<=1048576 by omega,trivial⟩,trivial⟩,λh=>by cases h⟩
 ·rw [if_neg c,if_neg c,if_neg c];by_cases c2:(!mR (iR x (aA #[32])) 2)=true
  ·rw [if_pos c2,if_pos c2];exact ⟨⟨show x.size<4294967281 by omega,hd,⟨show (iR x (aA #[32])).size<=1048576 by omega,trivial⟩,trivial⟩,λh=>by cases h⟩
  ·rw [if_neg c2,if_neg c2,if_neg c2];have hl:((dC (iR x (aA #[32])) 2).length:Int)=2:=by simpa [mR,dC] using nb c2
   generalize hb:(DY (pI x (aA #[32])),(dC (iR x (aA #[32])) 2).getD 0 0,(dC (iR x (aA #[32])) 2).getD 1 0,())=b;have hp:aNN b:=by
    unfold aNN;have z:=Of [b.2.1,b.2.2.1];refine BH λv => ?_;obtain ⟨p,q,r,e,dp,_⟩:=Gv (Oe (nb v)).1;have i1:(aA #[32]).size=1:=rfl;have i2:(dT p q r).size=10:=rfl;refine ⟨dp,?_⟩;rw [e];simp only [aS,i1,i2];exact ⟨by omega,by omega,trivial⟩
   refine ⟨⟨show x.size<4294967281 by omega,hd,⟨show (iR x (aA #[32])).size<=1048576 by omega,trivial⟩,by omega,by omega,hp,trivial⟩,λe => ?_⟩;by_cases t:(!aB (QY b)==aB x)=true
   ·rw [if_pos t] at e;cases e
   ·rw [if_neg t];have t:=(eR _ _).1 (nb t);cases v:tD b
    ·unfold QY at t;rw [v] at t;have t:aA #[]=x:=t;subst t;exfalso;have:(uX (iR (aA #[]) (aA #[32]))).length=2:=by
      have hl:(((uX (iR (aA #[]) (aA #[32]))).length:Nat):Int)=2:=hl;omega
     rw [(W2 _).2] at this;exact W0 2 (by decide) this
    ·rfl
theorem aPn (s:ByteArray):MZ s=false:=by simp [MZ]
def Kl (a b:ByteArray):Prop:=bE (aB a) (aB b)=true
theorem Kl.trans {a b c:ByteArray} (h:Kl a b) (k:Kl b c):Kl a c:=Pn _ _ _ h k
theorem Kl.tri {a b:ByteArray} (h:¬ Kl a b) (k:¬ a=b):Kl b a:=by
 unfold Kl at *;cases h2:bE (aB b) (aB a) with
 | true=>rfl
 | false=>exact absurd ((eR a b).1 (beq_iff_eq.2 (aB8 _ _ (bN.2 h) h2))) k
theorem aMk (p:Nat->Bool) (k N:Nat) (hk:∀ i,i<N->p i=decide (i<k)):∀ (m i j:Nat),j - i<m->i<=k->k<=j->j<=N->gS p m i j=k
 | 0,i,j,h,_,_,_=>by omega
 | m+1,i,j,h,h1,h2,h3=>by
  simp only [gS];split
  ·rw [hk _ (by omega)];split
   ·rename_i h4;simp only [decide_eq_true_eq] at h4;exact aMk p k N hk m _ _ (by omega) (by omega) h2 h3
   ·rename_i h4;simp only [decide_eq_true_eq] at h4;exact aMk p k N hk m _ _ (by omega) h1 (by omega) (by omega)
  ·omega
theorem aMl {α:Type} (key:α->ByteArray) (x:ByteArray):∀ (l:List α),l.Pairwise (λa b=>Kl (key a) (key b))->∃ A B,l=A++B/\(∀ y∈A,Kl (key y) x)/\∀ y∈B,¬ Kl (key y) x
 | [],_=>⟨[],[],rfl,λ_ h=>(by cases h),λ_ h=>(by cases h)⟩
 | y :: r,h=>by
  obtain ⟨h1,h2⟩:=BC.1 h;by_cases c:Kl (key y) x
  ·obtain ⟨A,B,e,k1,k2⟩:=aMl key x r h2;refine ⟨y :: A,B,by rw [e];rfl,λz hz => ?_,k2⟩;rcases aR.1 hz with rfl | hz
   ·exact c
   ·exact k1 z hz
  ·refine ⟨[],y :: r,rfl,λ_ h=>(by cases h),λz hz hb => ?_⟩;rcases aR.1 hz with rfl | hz
   ·exact c hb
   ·exact c ((h1 z hz).trans hb)
theorem aMm {α:Type} {q:Nat->α->Bool}:∀ {l:List α} {i:Nat},lC q i l=true↔∀ (j:Nat) (h:j<l.length),q (i+j) l[j]=true
 | [],i=>⟨λ_ j h=>absurd h (Nat.not_lt_zero j),λ_=>rfl⟩
 | x :: r,i=>by
  simp only [lC,aJ,aMm (l:=r)];constructor
  ·rintro ⟨h1,h2⟩ j hj;cases j with
   | zero=>exact h1
   | succ j =>
    have:=h2 j (by simpa using hj);rw [show i+(j+1)=i+1+j from by omega];exact this
  ·intro h;refine ⟨h 0 (by simp),λj hj => ?_⟩;have:=h (j+1) (by simpa using hj);rw [show i+(j+1)=i+1+j from by omega] at this;exact this
theorem Kr {α:Type} (q:α->Bool) (r:α->α->Prop) (rb:α->α->Bool) (d:α) (hr:∀ a b,rb a b=true↔r a b) (tr:∀ a b c,r a b->r b c->r a c) (l:List α):lC (λi x=>q x&&(i==0||rb (l.getD (i - 1) d) x)) 0 l=true↔(∀ x∈l,q x=true)/\l.Pairwise r:=by
 rw [aMm,List.pairwise_iff_getElem];simp only [cV,aJ,Bool.or_eq_true,hr,beq_iff_eq];constructor
 ·intro h;refine ⟨λx hx => ?_,?_⟩
  ·obtain ⟨j,hj,rfl⟩:=mZ.1 hx;exact (h j hj).1
  ·have step:∀ j (hj:j+1<l.length),r l[j] l[j+1]:=λj hj=>by
    have:=(h (j+1) hj).2.resolve_left (by omega);rw [JX,iV l j d (by omega)] at this;exact this
   intro i j hi hj hij
   induction j with
   | zero=>omega
   | succ j ih =>
    rcases eK i j with hlt | hge
    ·exact tr _ _ _ (ih (by omega) hlt) (step j hj)
    ·obtain rfl:i=j:=by omega
     exact step i hj
 ·rintro ⟨h1,h2⟩ j hj;refine ⟨h1 _ (rK hj),?_⟩;rcases Nat.eq_zero_or_pos j with h | h
  ·exact .inl h
  ·refine .inr ?_;rw [iV l (j - 1) d (by omega)];exact h2 (j - 1) j (by omega) hj (by omega)
theorem Rh {α:Type} (key:α->ByteArray) (x:α) (l:List α) (hs:l.Pairwise λa b=>Kl (key a) (key b)) (p:Nat->Bool) (d:α) (hp:∀ i,i<l.length->(p i=true↔Kl (key (l.getD i d)) (key x))) :
  ∃ A B,l=A++B/\gS p (l.length+1) 0 l.length=A.length/\((∀ b,B.head? = some b->key b≠key x)->(A++x :: B).Pairwise λa b=>Kl (key a) (key b)):=by
 obtain ⟨A,B,e,k1,k2⟩:=aMl key (key x) l hs;refine ⟨A,B,e,aMk p A.length l.length (λi hi => ?_) _ _ _ (by omega) (bW _) (by rw [e,aO];omega) (aT _),λhb => ?_⟩
 ·have hh:=hp i hi;subst e;rw [iV _ i d hi] at hh;rcases eK i A.length with c | c
  ·rw [decide_eq_true c,hh,List.getElem_append_left c];exact k1 _ (rK c)
  ·rw [decide_eq_false (p:=i<A.length) (by omega),bN,Ne,hh,iJ c];exact k2 _ (rK _)
 ·subst e;have k3:∀ y∈B,Kl (key x) (key y):=by
   cases B with
   | nil=>intro y hy;cases hy
   | cons b r =>
    have hb:Kl (key x) (key b):=Kl.tri (k2 b (aQ ..)) (hb b rfl);intro y hy;rcases aR.1 hy with rfl | hy
    ·exact hb
    ·exact hb.trans ((BC.1 (GW.1 hs).2.1).1 y hy)
  rw [GW] at hs ⊢;refine ⟨hs.1,BC.2 ⟨k3,hs.2.1⟩,λa ha b hb => ?_⟩;rcases aR.1 hb with rfl | hb
  ·exact k1 a ha
  ·exact hs.2.2 a ha b hb
theorem Bz (a b:ByteArray):(DZ a b<0↔Kl a b)/\(DZ a b=0↔a=b):=by
 unfold DZ Kl;simp only [aPn,Bool.false_eq_true,if_false];by_cases h:bE (aB a) (aB b)=true
 ·rw [if_pos h];exact ⟨⟨λ_=>h,λ_=>by decide⟩,⟨λe=>absurd e (by decide),λe=>by rw [e,Gk] at h;cases h⟩⟩
 ·rw [if_neg h,bN.2 h,sN];by_cases k:a=b
  ·have kk:(aB a==aB b)=true:=(eR a b).2 k;rw [kk,if_neg (by decide)];exact ⟨⟨λe=>absurd e (by decide),λe=>absurd e (by decide)⟩,⟨λ_=>k,λ_=>rfl⟩⟩
  ·have kk:(aB a==aB b)=false:=bN.2 λq=>k ((eR a b).1 q);rw [kk,if_pos (by decide)];exact ⟨⟨λe=>absurd e (by decide),λe=>absurd e (by decide)⟩,⟨λe=>absurd e (by decide),λe=>absurd e k⟩⟩
theorem aFB (l:List dG):sL l=true↔((∀ x∈l,pR x=true)/\l.Pairwise λa b=>Kl a.1 b.1)/\l.length<=12:=by
 unfold sL;rw [aJ,decide_eq_true_eq];have key:=Kr pR (λa b:dG=>Kl a.1 b.1) (λa b:dG => !(bE (aB b.1) (aB a.1)||aB b.1==aB a.1)) (aC,(0:Int),(0:Int),(0:Int),()) (λa b=>by rw [By];exact nX) (λ_ _ _=>Kl.trans) l;rw [<- key];exact nX
theorem aA1 {l:List dG} (hv:sL l=true) (x:dG):KL l x 12/\(pR x=true->qM l x 12=0->sL (A4 l x 12)=true):=by
 obtain ⟨⟨h1,h2⟩,h3⟩:=(aFB l).1 hv;have hcmp:∀ i,i<l.length->(AZ l x (some 132) i=true↔Kl (l.getD i (aC,(0:Int),(0:Int),(0:Int),())).1 x.1):=λi _=>by
  unfold AZ;rw [decide_eq_true_eq];exact (Bz _ _).1
 obtain ⟨A,B,e,hk,hs⟩:=Rh (λy:dG=>y.1) x l h2 (AZ l x (some 132)) (aC,(0:Int),(0:Int),(0:Int),()) hcmp;have hk:Q3 l x (some 132)=A.length:=hk;have hA:A.length<=l.length:=by rw [e,aO];omega
 have hg:l5 l x (some 132)=(A.length:Int):=by unfold l5;rw [hk]
 constructor
 ·unfold KL;refine ⟨⟨show l.length<=4611686018427387903 by omega,λy _=>⟨rfl,trivial⟩⟩,BH λ_=>BH λ_=>⟨show l.length<=1048576 by omega,⟨?_,?_,rfl,show l.length<=1048576 by omega⟩,trivial⟩⟩
  ·rw [hg];omega
  ·rw [hg];show (A.length:Int)<=(l.length:Int);omega
 ·intro hx hc;unfold qM at hc;unfold A4;split at hc
  ·cases hc
  ·rename_i c1;split at hc
   ·cases hc
   ·rename_i c2;rw [if_neg c1,if_neg c2,hg];have c2:=of_decide_eq_false (bN.2 c2);have c1:Fc l x (some 132) A.length=false:=by
     have:=bN.2 c1;unfold mA at this;rw [hk] at this;exact this
    have hs:=hs λb hb=>by
     intro he;unfold Fc at c1;cases B with
     | nil=>cases hb
     | cons b' r =>
      cases hb;subst e;rw [if_pos (by rw [aO,bA];omega),iV _ _ _ (by rw [aO,bA];omega),iJ (aT _),beq_eq_false_iff_ne] at c1;refine c1 ((Bz _ _).2.2 ?_);simpa [Vj] using he
    show sL (l.take (A.length:Int).toNat++([x]++l.drop (A.length:Int).toNat))=true;rw [aF];subst e;rw [jY,vH];refine (aFB _).2 ⟨⟨λy hy => ?_,hs⟩,?_⟩
    ·rcases bU.1 hy with hy | hy
     ·exact h1 y (bQ _ hy)
     ·rcases aR.1 hy with rfl | hy
      ·exact hx
      ·exact h1 y (bF _ hy)
    ·simp only [aO,bA,iW] at c2 h3 ⊢;omega
theorem Ud (l:List bX):rR l=true↔((∀ x∈l,tC x=true)/\l.Pairwise λa b=>Kl a.1 b.1)/\l.length<=12:=by
 unfold rR;rw [aJ,decide_eq_true_eq];have key:=Kr tC (λa b:bX=>Kl a.1 b.1) (λa b:bX => !(bE (aB b.1) (aB a.1)||aB b.1==aB a.1)) (aC,(0:Int),(0:Int),()) (λa b=>by rw [By];exact nX) (λ_ _ _=>Kl.trans) l;rw [<- key];exact nX
theorem Ri {l:List bX} (hv:rR l=true) (x:bX):KN l x 12/\(tC x=true->qN l x 12=0->rR (A6 l x 12)=true):=by
 obtain ⟨⟨h1,h2⟩,h3⟩:=(Ud l).1 hv;have hcmp:∀ i,i<l.length->(A5 l x (some 135) i=true↔Kl (l.getD i (aC,(0:Int),(0:Int),())).1 x.1):=λi _=>by
  unfold A5;rw [decide_eq_true_eq];exact (Bz _ _).1
 obtain ⟨A,B,e,hk,hs⟩:=Rh (λy:bX=>y.1) x l h2 (A5 l x (some 135)) (aC,(0:Int),(0:Int),()) hcmp;have hk:Q6 l x (some 135)=A.length:=hk;have hA:A.length<=l.length:=by rw [e,aO];omega
 have hg:mB l x (some 135)=(A.length:Int):=by unfold mB;rw [hk]
 constructor
 ·unfold KN;refine ⟨⟨show l.length<=4611686018427387903 by omega,λy _=>⟨rfl,trivial⟩⟩,BH λ_=>BH λ_=>⟨show l.length<=1048576 by omega,⟨?_,?_,rfl,show l.length<=1048576 by omega⟩,trivial⟩⟩
  ·rw [hg];omega
  ·rw [hg];show (A.length:Int)<=(l.length:Int);omega
 ·intro hx hc;unfold qN at hc;unfold A6;split at hc
  ·cases hc
  ·rename_i c1;split at hc
   ·cases hc
   ·rename_i c2;rw [if_neg c1,if_neg c2,hg];have c2:=of_decide_eq_false (bN.2 c2);have c1:Ff l x (some 135) A.length=false:=by
     have:=bN.2 c1;unfold mC at this;rw [hk] at this;exact this
    have hs:=hs λb hb=>by
     intro he;unfold Ff at c1;cases B with
     | nil=>cases hb
     | cons b' r =>
      cases hb;subst e;rw [if_pos (by rw [aO,bA];omega),iV _ _ _ (by rw [aO,bA];omega),iJ (aT _),beq_eq_false_iff_ne] at c1;refine c1 ((Bz _ _).2.2 ?_);simpa [Vk] using he
    show rR (l.take (A.length:Int).toNat++([x]++l.drop (A.length:Int).toNat))=true;rw [aF];subst e;rw [jY,vH];refine (Ud _).2 ⟨⟨λy hy => ?_,hs⟩,?_⟩
    ·rcases bU.1 hy with hy | hy
     ·exact h1 y (bQ _ hy)
     ·rcases aR.1 hy with rfl | hy
      ·exact hx
      ·exact h1 y (bF _ hy)
    ·simp only [aO,bA,iW] at c2 h3 ⊢;omega
theorem aFC (l:List dG):qK l=true↔((∀ x∈l,rU x=true)/\l.Pairwise λa b=>Kl a.1 b.1)/\l.length<=8:=by
 unfold qK;rw [aJ,decide_eq_true_eq];have key:=Kr rU (λa b:dG=>Kl a.1 b.1) (λa b:dG => !(bE (aB b.1) (aB a.1)||aB b.1==aB a.1)) (aC,(0:Int),(0:Int),(0:Int),()) (λa b=>by rw [By];exact nX) (λ_ _ _=>Kl.trans) l;rw [<- key];exact nX
theorem aA2 {l:List dG} (hv:qK l=true) (x:dG):KP l x 8/\(rU x=true->qO l x 8=0->qK (A8 l x 8)=true):=by
 obtain ⟨⟨h1,h2⟩,h3⟩:=(aFC l).1 hv;have hcmp:∀ i,i<l.length->(A7 l x (some 138) i=true↔Kl (l.getD i (aC,(0:Int),(0:Int),(0:Int),())).1 x.1):=λi _=>by
  unfold A7;rw [decide_eq_true_eq];exact (Bz _ _).1
 obtain ⟨A,B,e,hk,hs⟩:=Rh (λy:dG=>y.1) x l h2 (A7 l x (some 138)) (aC,(0:Int),(0:Int),(0:Int),()) hcmp;have hk:Q8 l x (some 138)=A.length:=hk;have hA:A.length<=l.length:=by rw [e,aO];omega
 have hg:mD l x (some 138)=(A.length:Int):=by unfold mD;rw [hk]
 constructor
 ·unfold KP;refine ⟨⟨show l.length<=4611686018427387903 by omega,λy _=>⟨rfl,trivial⟩⟩,BH λ_=>BH λ_=>⟨show l.length<=1048576 by omega,⟨?_,?_,rfl,show l.length<=1048576 by omega⟩,trivial⟩⟩
  ·rw [hg];omega
  ·rw [hg];show (A.length:Int)<=(l.length:Int);omega
 ·intro hx hc;unfold qO at hc;unfold A8;split at hc
  ·cases hc
  ·rename_i c1;split at hc
   ·cases hc
   ·rename_i c2;rw [if_neg c1,if_neg c2,hg];have c2:=of_decide_eq_false (bN.2 c2);have c1:Fh l x (some 138) A.length=false:=by
     have:=bN.2 c1;unfold mE at this;rw [hk] at this;exact this
    have hs:=hs λb hb=>by
     intro he;unfold Fh at c1;cases B with
     | nil=>cases hb
     | cons b' r =>
      cases hb;subst e;rw [if_pos (by rw [aO,bA];omega),iV _ _ _ (by rw [aO,bA];omega),iJ (aT _),beq_eq_false_iff_ne] at c1;refine c1 ((Bz _ _).2.2 ?_);simpa [Vl] using he
    show qK (l.take (A.length:Int).toNat++([x]++l.drop (A.length:Int).toNat))=true;rw [aF];subst e;rw [jY,vH];refine (aFC _).2 ⟨⟨λy hy => ?_,hs⟩,?_⟩
    ·rcases bU.1 hy with hy | hy
     ·exact h1 y (bQ _ hy)
     ·rcases aR.1 hy with rfl | hy
      ·exact hx
      ·exact h1 y (bF _ hy)
    ·simp only [aO,bA,iW] at c2 h3 ⊢;omega
theorem Ue (l:List bX):xV l=true↔((∀ x∈l,yH x=true)/\l.Pairwise λa b=>Kl a.1 b.1)/\l.length<=10:=by
 unfold xV;rw [aJ,decide_eq_true_eq];have key:=Kr yH (λa b:bX=>Kl a.1 b.1) (λa b:bX => !(bE (aB b.1) (aB a.1)||aB b.1==aB a.1)) (aC,(0:Int),(0:Int),()) (λa b=>by rw [By];exact nX) (λ_ _ _=>Kl.trans) l;rw [<- key];exact nX
theorem Rj {l:List bX} (hv:xV l=true) (x:bX):KS l x 10/\(yH x=true->qP l x 10=0->xV (Aa l x 10)=true):=by
 obtain ⟨⟨h1,h2⟩,h3⟩:=(Ue l).1 hv;have hcmp:∀ i,i<l.length->(A9 l x (some 141) i=true↔Kl (l.getD i (aC,(0:Int),(0:Int),())).1 x.1):=λi _=>by
  unfold A9;rw [decide_eq_true_eq];exact (Bz _ _).1
 obtain ⟨A,B,e,hk,hs⟩:=Rh (λy:bX=>y.1) x l h2 (A9 l x (some 141)) (aC,(0:Int),(0:Int),()) hcmp;have hk:Qa l x (some 141)=A.length:=hk;have hA:A.length<=l.length:=by rw [e,aO];omega
 have hg:mF l x (some 141)=(A.length:Int):=by unfold mF;rw [hk]
 constructor
 ·unfold KS;refine ⟨⟨show l.length<=4611686018427387903 by omega,λy _=>⟨rfl,trivial⟩⟩,BH λ_=>BH λ_=>⟨show l.length<=1048576 by omega,⟨?_,?_,rfl,show l.length<=1048576 by omega⟩,trivial⟩⟩
  ·rw [hg];omega
  ·rw [hg];show (A.length:Int)<=(l.length:Int);omega
 ·intro hx hc;unfold qP at hc;unfold Aa;split at hc
  ·cases hc
  ·rename_i c1;split at hc
   ·cases hc
   ·rename_i c2;rw [if_neg c1,if_neg c2,hg];have c2:=of_decide_eq_false (bN.2 c2);have c1:Fj l x (some 141) A.length=false:=by
     have:=bN.2 c1;unfold mG at this;rw [hk] at this;exact this
    have hs:=hs λb hb=>by
     intro he;unfold Fj at c1;cases B with
     | nil=>cases hb
     | cons b' r =>
      cases hb;subst e;rw [if_pos (by rw [aO,bA];omega),iV _ _ _ (by rw [aO,bA];omega),iJ (aT _),beq_eq_false_iff_ne] at c1;refine c1 ((Bz _ _).2.2 ?_);simpa [Vm] using he
    show xV (l.take (A.length:Int).toNat++([x]++l.drop (A.length:Int).toNat))=true;rw [aF];subst e;rw [jY,vH];refine (Ue _).2 ⟨⟨λy hy => ?_,hs⟩,?_⟩
    ·rcases bU.1 hy with hy | hy
     ·exact h1 y (bQ _ hy)
     ·rcases aR.1 hy with rfl | hy
      ·exact hx
      ·exact h1 y (bF _ hy)
    ·simp only [aO,bA,iW] at c2 h3 ⊢;omega
theorem aFD (l:List bX):xW l=true↔((∀ x∈l,yI x=true)/\l.Pairwise λa b=>Kl a.1 b.1)/\l.length<=8:=by
 unfold xW;rw [aJ,decide_eq_true_eq];have key:=Kr yI (λa b:bX=>Kl a.1 b.1) (λa b:bX => !(bE (aB b.1) (aB a.1)||aB b.1==aB a.1)) (aC,(0:Int),(0:Int),()) (λa b=>by rw [By];exact nX) (λ_ _ _=>Kl.trans) l;rw [<- key];exact nX
theorem aA3 {l:List bX} (hv:xW l=true) (x:bX):KU l x 8/\(yI x=true->qQ l x 8=0->xW (Ac l x 8)=true):=by
 obtain ⟨⟨h1,h2⟩,h3⟩:=(aFD l).1 hv;have hcmp:∀ i,i<l.length->(Ab l x (some 144) i=true↔Kl (l.getD i (aC,(0:Int),(0:Int),())).1 x.1):=λi _=>by
  unfold Ab;rw [decide_eq_true_eq];exact (Bz _ _).1
 obtain ⟨A,B,e,hk,hs⟩:=Rh (λy:bX=>y.1) x l h2 (Ab l x (some 144)) (aC,(0:Int),(0:Int),()) hcmp;have hk:Qc l x (some 144)=A.length:=hk;have hA:A.length<=l.length:=by rw [e,aO];omega
 have hg:mH l x (some 144)=(A.length:Int):=by unfold mH;rw [hk]
 constructor
 ·unfold KU;refine ⟨⟨show l.length<=4611686018427387903 by omega,λy _=>⟨rfl,trivial⟩⟩,BH λ_=>BH λ_=>⟨show l.length<=1048576 by omega,⟨?_,?_,rfl,show l.length<=1048576 by omega⟩,trivial⟩⟩
  ·rw [hg];omega
  ·rw [hg];show (A.length:Int)<=(l.length:Int);omega
 ·intro hx hc;unfold qQ at hc;unfold Ac;split at hc
  ·cases hc
  ·rename_i c1;split at hc
   ·cases hc
   ·rename_i c2;rw [if_neg c1,if_neg c2,hg];have c2:=of_decide_eq_false (bN.2 c2);have c1:Fl l x (some 144) A.length=false:=by
     have:=bN.2 c1;unfold mI at this;rw [hk] at this;exact this
    have hs:=hs λb hb=>by
     intro he;unfold Fl at c1;cases B with
     | nil=>cases hb
     | cons b' r =>
      cases hb;subst e;rw [if_pos (by rw [aO,bA];omega),iV _ _ _ (by rw [aO,bA];omega),iJ (aT _),beq_eq_false_iff_ne] at c1;refine c1 ((Bz _ _).2.2 ?_);simpa [Vn] using he
    show xW (l.take (A.length:Int).toNat++([x]++l.drop (A.length:Int).toNat))=true;rw [aF];subst e;rw [jY,vH];refine (aFD _).2 ⟨⟨λy hy => ?_,hs⟩,?_⟩
    ·rcases bU.1 hy with hy | hy
     ·exact h1 y (bQ _ hy)
     ·rcases aR.1 hy with rfl | hy
      ·exact hx
      ·exact h1 y (bF _ hy)
    ·simp only [aO,bA,iW] at c2 h3 ⊢;omega
theorem aMn:∀ a b c d e f g h i j k l:Bool,(if a=true then (if b=true then (if c=true then (if d=true then (if f=true then (if g=true then (if h=true then (if e=true then (if i=true then (if j=true then (if k=true then l else false) else false) else false) else false) else (if e=true then false else false)) else (if e=true then false else false)) else (if e=true then false else false)) else (if f=true then (if g=true then (if h=true then false else false) else false) else false)) else (if f=true then (if g=true then (if h=true then false else false) else false) else false)) else (if f=true then (if g=true then (if h=true then false else false) else false) else false)) else (if f=true then (if g=true then (if h=true then false else false) else false) else false))=(a&&(b&&(c&&(d&&(e&&(f&&(g&&(h&&(i&&(j&&(k&&l))))))))))):=by
 intro a b c d e f g h i j k l;cases a
 ·cases f <;> cases g <;> cases h <;> rfl
 cases b
 ·cases f <;> cases g <;> cases h <;> rfl
 cases c
 ·cases f <;> cases g <;> cases h <;> rfl
 cases d
 ·cases f <;> cases g <;> cases h <;> rfl
 cases f
 ·cases e <;> rfl
 cases g
 ·cases e <;> rfl
 cases h
 ·cases e <;> rfl
 cases e
 ·rfl
 cases i
 ·rfl
 cases j
 ·rfl
 cases k <;> rfl
def Vd (d:(fV)):Prop:=sL d.1=true/\BV d.2.1=true/\AN d.2.2.1=true/\yT d.2.2.2.1=true/\vQ d.2.2.2.2.1=true/\kW d.2.2.2.2.2.1=true/\rR d.2.2.2.2.2.2.1=true/\uG d.2.2.2.2.2.2.2.1=true/\qK d.2.2.2.2.2.2.2.2.1=true/\jV d.2.2.2.2.2.2.2.2.2.1=true/\xV d.2.2.2.2.2.2.2.2.2.2.1=true/\xW d.2.2.2.2.2.2.2.2.2.2.2.1=true
theorem Mt (d:(fV)):BW d=true↔Vd d:=by
 have h:BW d=_:=aMn (sL d.1) (BV d.2.1) (AN d.2.2.1) (yT d.2.2.2.1) (vQ d.2.2.2.2.1) (kW d.2.2.2.2.2.1) (rR d.2.2.2.2.2.2.1) (uG d.2.2.2.2.2.2.2.1) (qK d.2.2.2.2.2.2.2.2.1) (jV d.2.2.2.2.2.2.2.2.2.1) (xV d.2.2.2.2.2.2.2.2.2.2.1) (xW d.2.2.2.2.2.2.2.2.2.2.2.1);rw [h];simp only [aJ];exact nX
theorem pJ {b:Bool} {A B:Prop} (h1:b=true->A) (h2:b=false->B):if b=true then A else B:=by
 cases b
 ·exact h2 rfl
 ·exact h1 rfl
theorem aMo {d:(fV)} (hd:Vd d) (c:ByteArray×ByteArray×List Int×List Int×Unit) (hc:c.2.1.size<=1048576):P84 d c:=by
 obtain ⟨v1,v2,v3,v4,v5,v6,v7,v8,v9,v10,v11,v12⟩:=hd;have hh:=(C8 v3).1;have ht:=(Ak v10).1;exact pJ (λ_=>⟨(aF6 hc).1,(aA1 v1 _).1,trivial⟩) λ_=>pJ (λ_=>⟨(Uc hc).1,(Ri v7 _).1,trivial⟩) λ_=>pJ (λ_=>⟨(aF7 hc).1,(aA2 v9 _).1,trivial⟩) λ_ =>
  pJ (λ_=>⟨(Ub hc).1,(Rj v11 _).1,trivial⟩) λ_=>pJ (λ_=>⟨(aF8 hc).1,(aA3 v12 _).1,trivial⟩) λ_=>pJ (λ_=>⟨(aF9 hc).1,aLS (by omega) _ _,trivial⟩) λ_ =>
  pJ (λ_=>⟨(aPm hc).1,aLU (by omega) _,trivial⟩) λ_=>pJ (λ_=>⟨(aFA hc).1,trivial⟩) λ_=>pJ (λ_=>⟨(aAz hc).1,trivial⟩) λ_=>⟨(aA0 hc).1,trivial⟩
theorem aPo {l:List cU} (hl:AN l=true) {x:Int×Int×Int×Unit} (hx:wE x=true) (hc:F8 l x 48=0):AN (QW l x 48)=true:=by
 obtain ⟨h1,h2⟩:=C8 hl;unfold F8 at hc;unfold QW;split at hc
 ·cases hc
 ·rename_i c;rw [if_neg c];have c:=of_decide_eq_false (bN.2 c);refine aMe (l:=l++[x]) (by rw [aO,cP];omega) λy hy => ?_;rcases bU.1 hy with hy | hy
  ·exact h2 y hy
  ·simp only [aR,bZ,or_false] at hy;rw [hy];exact hx
theorem aPp {l:List cU} (hl:yT l=true) {x:Int×Int×Int×Unit} (hx:rT x=true) (hc:Fp l x 8=0):yT (Qd l x 8)=true:=by
 obtain ⟨h1,h2⟩:=Dn hl;unfold Fp at hc;unfold Qd;split at hc
 ·cases hc
 ·rename_i c;rw [if_neg c];have c:=of_decide_eq_false (bN.2 c);refine aGY (l:=l++[x]) (by rw [aO,cP];omega) λy hy => ?_;rcases bU.1 hy with hy | hy
  ·exact h2 y hy
  ·simp only [aR,bZ,or_false] at hy;rw [hy];exact hx
theorem aPq {l:List cU} {x:Int×Int×Int×Unit} (hc:Vb l x=0):jV (Va l x)=true:=by
 unfold Vb at hc;unfold Va;split at hc
 ·cases hc
 ·rename_i c1;split at hc
  ·cases hc
  ·rename_i c2;split at hc
   ·cases hc
   ·rename_i c3;split at hc
    ·cases hc
    ·rename_i c4;rw [if_neg c1,if_neg c2,if_neg c3,if_neg c4];have c4:=of_decide_eq_false (bN.2 c4);show jV (l++[x])=true;unfold jV;rw [if_pos (show AQ (l++[x])=true from nb c3),decide_eq_true_eq,aO,cP];omega
theorem Do {b:Bool} {α β γ:Type} {A1 A2:α} {B1 B2:β} {C1 C2:γ} {Q:α->β->γ->Prop} (h1:b=true->Q A1 B1 C1) (h2:b=false->Q A2 B2 C2):Q (if b=true then A1 else A2) (if b=true then B1 else B2) (if b=true then C1 else C2):=by
 cases b
 ·exact h2 rfl
 ·exact h1 rfl
def KQ (o:Bool) (k:Int) (y:(fV)):Prop:=o=true->k=0->Vd y
theorem aPr {d:(fV)} (hd:Vd d) (c:ByteArray×ByteArray×List Int×List Int×Unit) (hc:c.2.1.size<=1048576):Z0 d c=true->Z1 d c=0->Vd (Z2 d c):=by
 obtain ⟨v1,v2,v3,v4,v5,v6,v7,v8,v9,v10,v11,v12⟩:=hd;show KQ (Z0 d c) (Z1 d c) (Z2 d c);unfold Z0 Z1 Z2;exact Do (λ_ o k=>⟨(aA1 v1 _).2 ((aF6 hc).2 o) k,v2,v3,v4,v5,v6,v7,v8,v9,v10,v11,v12⟩) λ_ =>
  Do (λ_ o k=>⟨v1,v2,v3,v4,v5,v6,(Ri v7 _).2 ((Uc hc).2 o) k,v8,v9,v10,v11,v12⟩) λ_ =>
  Do (λ_ o k=>⟨v1,v2,v3,v4,v5,v6,v7,v8,(aA2 v9 _).2 ((aF7 hc).2 o) k,v10,v11,v12⟩) λ_ =>
  Do (λ_ o k=>⟨v1,v2,v3,v4,v5,v6,v7,v8,v9,v10,(Rj v11 _).2 ((Ub hc).2 o) k,v12⟩) λ_ =>
  Do (λ_ o k=>⟨v1,v2,v3,v4,v5,v6,v7,v8,v9,v10,v11,(aA3 v12 _).2 ((aF8 hc).2 o) k⟩) λ_ =>
  Do (λ_ o k=>⟨v1,v2,aPo v3 ((aF9 hc).2 o) k,v4,v5,v6,v7,v8,v9,v10,v11,v12⟩) λ_ =>
  Do (λ_ o k=>⟨v1,v2,v3,v4,v5,v6,v7,v8,v9,aPq k,v11,v12⟩) λ_ =>
  Do (λ_ o k=>⟨v1,(aFA hc).2 o,v3,v4,v5,v6,v7,v8,v9,v10,v11,v12⟩) λ_ =>
  Do (λ_ o k=>⟨v1,v2,v3,v4,(aAz hc).2 o,v6,v7,v8,v9,v10,v11,v12⟩) λ_ =>
  λo k=>⟨v1,v2,v3,v4,v5,v6,v7,(aA0 hc).2 o,v9,v10,v11,v12⟩
theorem W3 {d:Int×Int×Int×Unit} (h:kW d=true):(0<=d.2.1/\d.2.1<=2)/\0<=d.2.2.1/\d.2.2.1<=3:=by
 unfold kW at h;split at h
 ·cases h
 ·split at h
  ·split at h
   ·rename_i c;simp only [beq_iff_eq] at c h;omega
   ·cases h
  ·split at h
   ·rename_i c;exact ⟨wi c,wi h⟩
   ·cases h
theorem aPs {x a b:Int} (h:a<=x/\x<=b):cD x a b=true:=by rw [aEd,decide_eq_true_eq];exact h
theorem Ks {p t r:Int} (hp:p=1\/p=3) (ht:0<=t/\t<=2) (hr:0<=r/\r<=3):kW (p,t,r,())=true:=by
 unfold kW FU;simp only;rw [aPs (x:=p) (by omega),aPs ht,aPs hr];rcases hp with rfl | rfl <;> rfl
theorem aFE {p:Int} (hp:p=0\/p=2):kW (p,0,0,())=true:=by
 unfold kW FU;simp only;rw [aPs (x:=p) (by omega)];rcases hp with rfl | rfl <;> rfl
theorem aPt {d:Int×Int×Int×Unit} (h:kW d=true):kW (Vp d)=true:=by
 obtain ⟨t,r⟩:=W3 h;unfold Vp;split
 ·exact h
 ·rename_i c;have c:=nb c;have hp:d.1=1\/d.1=3:=by
   unfold FU at c;split at c
   ·rename_i q;exact .inl (by simpa using q)
   ·exact .inr (by simpa using c)
  split
  ·rename_i q;have q:=of_decide_eq_true q;exact Ks hp (by omega) r
  ·split
   ·exact aFE (.inl rfl)
   ·split
    ·exact aFE (.inr rfl)
    ·exact Ks (.inr rfl) (by omega) r
theorem W6 {d:Int×Int×Int×Unit} (h:kW d=true) (e:Int):kW (Vq d e)=true:=by
 obtain ⟨t,r⟩:=W3 h;have m1:kW (1,0,0,())=true:=Ks (.inl rfl) (by omega) (by omega);have m3:kW (3,0,0,())=true:=Ks (.inr rfl) (by omega) (by omega);have mb:¬ decide (d.2.2.1<3)=false->kW (1,0,d.2.2.1+1,())=true:=λq=>Ks (.inl rfl) (by omega) (by
  have:d.2.2.1<3:=by simpa using q
  omega)
 have tk:=aPt h;unfold Vq
 repeat (first | exact h | exact m1 | exact m3 | exact tk | (rename_i q;exact mb (by rw [q];decide)) | split)
theorem aA4 {d:Int×Int×Int×Unit} (h:kW d=true) (e:Int) (hc:¬ (Fo d e != 0)=true):kW (M0 d e)=true:=by
 unfold Fo at hc;unfold M0;split at hc
 ·exact absurd rfl hc
 ·rename_i c1;split at hc
  ·exact absurd rfl hc
  ·rename_i c2;split at hc
   ·exact absurd rfl hc
   ·rename_i c3;rw [if_neg c1,if_neg c2,if_neg c3];exact W6 h e
theorem aPu (x:Int):(qR x).size<=8/\∀ s:ByteArray,qR x++aA #[47]++s≠aA #[]:=by
 refine ⟨?_,λs e => ?_⟩
 ·unfold qR;split
  ·exact bW _
  ·rename_i c;have w:=wi (nb c);have:x=0\/x=1\/x=2\/x=3:=by omega
   rcases this with rfl | rfl | rfl | rfl <;> decide
 ·have:=congrArg aH e;rw [aS,aS,show (aA #[47]).size=1 from rfl,show (aA #[]).size=0 from rfl] at this;omega
theorem Uf {d:Int×Int×Int×Unit} (h:kW d=true):aNU d/\(M1 d).size<=60/\M1 d=qR d.1++aA #[47]++dU d.2.1++aA #[47]++dU d.2.2.1:=by
 obtain ⟨t,r⟩:=W3 h;have n1:=(aPu d.1).1;have s1:=JE (x:=d.2.1) (by rw [aK];omega);have s2:=JE (x:=d.2.2.1) (by rw [aK];omega);have i1:(aA #[47]).size=1:=rfl;have hn:aNT d.1:=by
  unfold aNT;exact BH λc=>by have w:=wi (nb c);exact ⟨w.1,by omega,trivial⟩
 have e:M1 d=qR d.1++aA #[47]++dU d.2.1++aA #[47]++dU d.2.2.1:=by
  unfold M1;rw [h];rfl
 refine ⟨?_,?_,e⟩
 ·unfold aNU;refine BH λ_=>⟨hn,?_⟩;simp only [aS,i1];exact ⟨by omega,zA _,by omega,by omega,zA _,by omega,trivial⟩
 ·rw [e];simp only [aS,i1];omega
theorem aMp {l:List cU} (h:yT l=true):l.length<=8:=(Dn h).1
theorem Rk {d:(fV)} (hd:Vd d) (c:ByteArray×ByteArray×List Int×List Int×Unit) (h1:(aB c.1==aB (aA #[101,118,101,110,116]))=true->1<=c.2.2.1.length) (h2:(aB c.1==aB (aA #[101,118,101,110,116]))=false->3<=c.2.2.1.length):P85 d c:=by
 obtain ⟨v1,v2,v3,v4,v5,v6,v7,v8,v9,v10,v11,v12⟩:=hd;have hl:=aMp v4;exact pJ (λq=>⟨by have:=h1 q;omega,Sg _ _,BH λk=>⟨(Uf (aA4 v6 _ k)).1,trivial⟩⟩) λq=>by
  have:=h2 q;exact ⟨by omega,by omega,by omega,BH λ_=>⟨aLT (by omega) _ _,trivial⟩⟩
def CQ (o:List ByteArray) (k:Int) (y:(fV)):Prop:=Few o/\(k=0->Vd y/\(o=[aA #[111,107]]\/∃ x s,o=[qR x++aA #[47]++s]))
theorem aHc {d:(fV)} (hd:Vd d) (c:ByteArray×ByteArray×List Int×List Int×Unit):CQ (Z3 d c) (Z4 d c) (Z5 d c):=by
 obtain ⟨v1,v2,v3,v4,v5,v6,v7,v8,v9,v10,v11,v12⟩:=hd;unfold Z3 Z4 Z5;refine Do (λ_=>Do (λq => ?a) λq => ?b) λ_=>Do (λq => ?c) λq => ?d
 case a =>
  refine ⟨WZ,λk => ?_⟩;rw [k] at q;exact absurd q (by decide)
 case b =>
  have hv:=aA4 v6 (c.2.2.1.getD 0 0) (by rw [q];decide);obtain ⟨_,z,e⟩:=Uf hv;refine ⟨aAy (by omega),λ_=>⟨⟨v1,v2,v3,v4,v5,hv,v7,v8,v9,v10,v11,v12⟩,.inr ?_⟩⟩;rw [e];exact ⟨_,_,by rw [EO,EO]⟩
 case c=>exact ⟨WZ,λk=>(by cases k)⟩
 case d =>
  have hx:rT (c.2.2.1.getD 0 0,c.2.2.1.getD 1 0,c.2.2.1.getD 2 0,())=true:=by
   cases v:rT (c.2.2.1.getD 0 0,c.2.2.1.getD 1 0,c.2.2.1.getD 2 0,())
   ·rw [v] at q;cases q
   ·rfl
  exact ⟨aAy (by decide),λk=>⟨⟨v1,v2,v3,aPp v4 hx k,v5,v6,v7,v8,v9,v10,v11,v12⟩,.inl rfl⟩⟩
def eqw (s w:ByteArray):Prop:=(aB s==aB w)=true
def Ku:ByteArray:=ByteArray.mk #[115,108,111,119,101,115,116]
def Kv:ByteArray:=ByteArray.mk #[114,101,115,101,114,118,101]
def W8:ByteArray:=ByteArray.mk #[112,111,119,101,114]
def aFF:ByteArray:=ByteArray.mk #[118,111,116,101]
def Rl:ByteArray:=ByteArray.mk #[119,97,116,101,114]
def aEm:ByteArray:=ByteArray.mk #[99,111,118,101,114]
def aEn:ByteArray:=ByteArray.mk #[113,117,101,117,101]
def aWU:ByteArray:=ByteArray.mk #[100,117,101]
def aEo:ByteArray:=ByteArray.mk #[101,118,101,110,116]
def aEp:ByteArray:=ByteArray.mk #[108,105,109,105,116]
abbrev CMD:Type:=ByteArray×ByteArray×List Int×List Int×Unit
def Cn (c:CMD):Prop:=(eqw c.1 Ku->1<=c.2.2.1.length)/\(eqw c.1 Kv->1<=c.2.2.1.length)/\(eqw c.1 W8->2<=c.2.2.1.length)/\(eqw c.1 aFF->1<=c.2.2.1.length)/\(eqw c.1 Rl->5<=c.2.2.1.length)/\(eqw c.1 aEm->2<=c.2.2.1.length)/\(eqw c.1 aEn->2<=c.2.2.1.length)/\(eqw c.1 aWU->2<=c.2.2.1.length)/\(eqw c.1 aEo->1<=c.2.2.1.length)/\(eqw c.1 aEp->3<=c.2.2.1.length)
theorem Al {d:(fV)} (hd:Vd d) {c:CMD} (hc:Cn c) (hw:eqw c.1 Ku\/eqw c.1 Kv\/eqw c.1 W8\/eqw c.1 aFF\/eqw c.1 Rl):Ze d c:=by
 obtain ⟨k1,k2,k3,k4,k5,_⟩:=hc;unfold Ze;refine pJ (λq=>⟨by have:=k1 q;omega,aAp _ _ (λh=>aEj h),trivial⟩) λq1=>pJ (λq=>⟨by have:=k2 q;omega,aAm _ _,trivial⟩) λq2=>pJ (λq=>⟨by have:=k3 q;omega,by have:=k3 q;omega,aGR _ _ _,trivial⟩) λq3=>pJ (λq=>⟨by have:=k4 q;omega,aLX _ _,trivial⟩) λq4 => ?_;have q5:eqw c.1 Rl:=by
  rcases hw with h | h | h | h | h
  ·exact absurd (h.symm.trans q1) (by decide)
  ·exact absurd (h.symm.trans q2) (by decide)
  ·exact absurd (h.symm.trans q3) (by decide)
  ·exact absurd (h.symm.trans q4) (by decide)
  ·exact h
 have:=k5 q5;exact ⟨by omega,by omega,by omega,by omega,by omega,aGS _ _ _ _ _ _,trivial⟩
theorem Kw {d:(fV)} (hd:Vd d) {c:CMD} (hc:Cn c):aDs d c:=by
 obtain ⟨v1,v2,v3,v4,v5,v6,v7,v8,v9,v10,v11,v12⟩:=hd;obtain ⟨k1,k2,k3,k4,k5,k6,k7,k8,k9⟩:=hc;unfold aDs;have:=aMh v7;exact pJ (λq=>⟨aAv _ _,trivial⟩) λ_=>pJ (λq=>⟨by have:=k6 q;omega,by have:=k6 q;omega,show _<=1000 by omega,trivial⟩) λ_=>pJ (λq=>⟨by have:=k7 q;omega,by have:=k7 q;omega,aGZ _ _ _,trivial⟩) λ_=>⟨aMi _ _ v11 v12,trivial⟩
theorem aMq (n:Int):OI n:=by
 by_cases h:rV n=true
 ·obtain ⟨_,_,_,_,p,_⟩:=Gv (wi (show cD n 0 36524=true from h));exact p
 ·unfold OI;rw [bN.2 h];exact trivial
theorem aPv (n:Int):(u0 n).size<=50000000:=by
 by_cases h:rV n=true
 ·obtain ⟨a,b,c,e,_⟩:=Gv (wi (show cD n 0 36524=true from h));rw [e,show (dT a b c).size=10 from rfl];omega
 ·unfold u0;rw [bN.2 h];exact bW _
theorem aMr {d:(fV)} (hd:Vd d) {c:CMD} (hc:Cn c):P86 d c:=by
 have hk:=hc;obtain ⟨_,_,_,_,_,_,_,k8,_⟩:=hk;unfold P86;exact pJ (λq=>⟨Al hd hc (.inl q),zA _,trivial⟩) λ_=>pJ (λq=>⟨Al hd hc (.inr (.inl q)),zA _,trivial⟩) λ_=>pJ (λq=>⟨Al hd hc (.inr (.inr (.inl q))),zA _,trivial⟩) λ_ =>
  pJ (λq=>⟨Al hd hc (.inr (.inr (.inr (.inl q)))),zA _,trivial⟩) λ_=>pJ (λq=>⟨Al hd hc (.inr (.inr (.inr (.inr q)))),zA _,trivial⟩) λ_ =>
  pJ (λq=>⟨Kw hd hc,trivial⟩) λ_=>pJ (λq=>⟨Kw hd hc,trivial⟩) λ_=>pJ (λq=>⟨Kw hd hc,trivial⟩) λ_=>pJ (λq=>⟨Kw hd hc,trivial⟩) λ_ =>
  pJ (λq=>⟨aHa _ _,trivial⟩) λ_=>pJ (λq=>⟨by have:=k8 q;omega,by have:=k8 q;omega,aPj _ _ _,aMq _,trivial⟩) λ_=>pJ (λq=>⟨aEk _,trivial⟩) λ_=>trivial
def Sm (x:Int):Prop := -100000000000000<=x/\x<=100000000000000
theorem sm0:Sm 0:=⟨by decide,by decide⟩
theorem Eg {b:Bool} {A B:Int} (h1:b=true->Sm A) (h2:b=false->Sm B):Sm (if b=true then A else B):=by
 cases b
 ·exact h2 rfl
 ·exact h1 rfl
theorem Kx {b:Bool} {A B:List ByteArray} (h1:b=true->Few A) (h2:b=false->Few B):Few (if b=true then A else B):=by
 cases b
 ·exact h2 rfl
 ·exact h1 rfl
theorem aWV {x:Int} (h:Sm x):Few [dU x]:=aAy (by
 have:=JE (x:=x) (by rw [aK];unfold Sm at h;omega);omega)
theorem aPw (l:List dG) (n:Int):Sm (M3 l n):=by
 unfold M3;split
 ·unfold Qg Sm;have bs:=Re (λx=>D0 x (l.getD (y7 l n l.length 0 0).toNat (aC,0,0,0,())) n) (20000+1 - 0:Int).toNat 0 20001 (by decide) (by decide);have e:D4 (l.getD (y7 l n l.length 0 0).toNat (aC,0,0,0,())) n=bsI (λx=>D0 x (l.getD (y7 l n l.length 0 0).toNat (aC,0,0,0,())) n) (20000+1 - 0:Int).toNat 0 20001 - 1:=rfl;rw [e];omega
 ·exact sm0
theorem aPx {r:Int×Int×Int×Int×Unit} (v:BV r=true):1000<=r.2.2.2.1/\r.2.2.2.1<=10000000:=by
 unfold BV at v;exact wi (wX (wX (wX v).2).2).2
theorem aWW {r:Int×Int×Int×Int×Unit} (v:BV r=true) (n:Int):Sm (Vu r n):=by
 have hv:=aPx v;have t:=tdb n (a:=1000*r.2.2.2.1) (A:=10000000000) (by omega);unfold Vu;exact Eg (λ_=>sm0) λ_=>⟨by omega,by omega⟩
theorem aWX {m:Int×Int×Int×Unit} (v:vQ m=true) (f s:Int):Sm (Vw m f s):=by
 obtain ⟨_,_,m3⟩:=aAn v;unfold Vw;refine Eg (λhf=>Eg (λ_=>sm0) λc=>Eg (λ_=>sm0) λ_ => ?_) λ_=>Eg (λ_=>sm0) λc => ?_
 ·obtain ⟨_,hs⟩:=Gu (by rw [c];decide);have hf:=wi (show cD f (-1000000) 1000000=true from hf);have hs:=wi (show cD s 0 20000=true from hs);have b1:=mb (A:=1000000) (B:=20000) (a:=f) (b:=s) (by omega) (by omega);have b2:=tdb 1000 b1;have b3:=mb (A:=20000000000) (B:=1000) (a:=0 - bM (f*s) 1000) (b:=1000 - m.2.2.1) (by omega) (by omega);have b4:=tdb 1000 b3;unfold Qh;refine Eg (λc => ?_) λ_=>⟨by omega,by omega⟩;unfold aCV;have b2':bM (f*s) 1000<=20000000:=by
   have e:=Int.natAbs_tdiv (f*s) 1000;have c:=of_decide_eq_true c;have:(bM (f*s) 1000).natAbs<=20000000:=by
    rw [e];have:(f*s).natAbs<=20000000000:=by omega
    exact cO (Nat.div_le_div_right this) (by decide)
   omega
  have t:=tdb (1000 - m.2.2.1) (a:=1000*bM (f*s) 1000+(1000 - m.2.2.1) - 1) (A:=9000000000000) (by have c:=of_decide_eq_true c;omega);exact ⟨by omega,by omega⟩
 ·exact absurd (Gu (by rw [c];decide)).2 (by decide)
theorem aPy (l:List Int) (n:Int):Sm (Vx l n):=by
 unfold Vx;refine Eg (λ_=>sm0) λc=>Eg (λ_=>sm0) λ_=>Eg (λ_=>sm0) λ_ => ?_;have h3:=(Ng (l:=l) (k:=3) (by cases v:Ii l 3 <;> simp_all)).2.2;generalize (Fu (jW l n) (u3 (jW l n))).toNat=k;by_cases hk:k<l.length
 ·have:=h3 _ (dN l k 0 hk);exact ⟨by omega,by omega⟩
 ·rw [bL,eV (by omega)];exact sm0
theorem aMs {x:Int×Int×Int×Int×Unit} (v:uG x=true) (t b r g n:Int):Sm (Vy x t b r g n):=by
 have hv:=aAq v;have key:Sm (Qn x t b r g n):=by
  have bs:=Re (λy=>M7 y t b r g n) (x.1+1 - 0).toNat 0 (x.1+1) (by decide) (by omega);have e:Qn x t b r g n=bsI (λy=>M7 y t b r g n) (x.1+1 - 0).toNat 0 (x.1+1):=rfl;rw [e];exact ⟨by omega,by omega⟩
 unfold Vy;exact Eg (λ_=>Eg (λ_=>sm0) λ_=>Eg (λ_=>sm0) λ_=>key) λ_=>Eg (λ_=>sm0) λ_=>Eg (λ_=>sm0) λ_=>key
theorem aHe {d:(fV)} (hd:Vd d) (c:CMD):Sm (wQ d c):=by
 obtain ⟨v1,v2,v3,v4,v5,v6,v7,v8,v9,v10,v11,v12⟩:=hd;unfold wQ;exact Eg (λ_=>aPw _ _) λ_=>Eg (λ_=>aWW v2 _) λ_=>Eg (λ_=>aWX v5 _ _) λ_=>Eg (λ_=>aPy _ _) λ_=>aMs v8 _ _ _ _ _
theorem aMt {d:(fV)} (hd:Vd d):Few (Ml d):=by
 have hk:=hd;obtain ⟨v1,v2,v3,v4,v5,v6,v7,v8,v9,v10,v11,v12⟩:=hk;have l1:=aQn v1;have l3:=(C8 v3).1;have l4:=(Dn v4).1;have l7:=aMh v7;have l9:=aQm v9;have l10:=(Ak v10).1;have l11:=aMf v11;have l12:=aMg v12;have l8:0<=d.2.2.2.2.2.2.2.1.2.2.1/\d.2.2.2.2.2.2.2.1.2.2.1<=10000000:=by
  unfold uG at v8;exact wi (show cD _ 0 10000000=true from (wX (wX (wX v8).2).2).1)
 unfold Ml;refine Kx (λ_ => ?_) λ_=>WZ;have key:∀ (W:List ByteArray) (N:List Int),(∀ w∈W,w.size<=7)->(∀ n∈N,Sm n)->∀ s∈List.zipWith UN W N,s.size<=50000000:=by
  intro W
  induction W with
  | nil=>intro N _ _ s hs;simp at hs
  | cons w W ih =>
   intro N hw hn s hs;cases N with
   | nil=>simp at hs
   | cons n N =>
    rw [List.zipWith_cons_cons] at hs;rcases aR.1 hs with rfl | hs
    ·have a:=hw w (aQ ..);have b:=hn n (aQ ..);have:=JE (x:=n) (by rw [aK];unfold Sm at b;omega);unfold UN;rw [aS,aS,show (aA #[32]).size=1 from rfl];omega
    ·exact ih N (λw h=>hw w (aM _ h)) (λn h=>hn n (aM _ h)) s hs
 refine ⟨?_,key _ _ aQk λn hn => ?_⟩
 ·rw [List.length_zipWith];exact cO (Nat.min_le_left _ _) (by decide)
 ·unfold OM at hn;simp only [aR,bZ,or_false] at hn;unfold Sm;rcases hn with rfl | rfl | rfl | rfl | rfl | rfl | rfl | rfl | rfl <;> omega
theorem aHf:Few N4:=by
 have h:N4.all (λl=>decide (l.size<=50000000))=true:=by decide
 refine ⟨by decide,λl hl => ?_⟩;rw [jH] at h;exact of_decide_eq_true (h l hl)
theorem aMu {d:(fV)} (hd:Vd d) (c:CMD):Few (aFo d c):=by
 have n:=aWV (aHe hd c);have l:=aAy (Of (Mc d c));unfold aFo;exact Kx (λ_=>n) λ_=>Kx (λ_=>n) λ_=>Kx (λ_=>n) λ_=>Kx (λ_=>n) λ_=>Kx (λ_=>n) λ_=>Kx (λ_=>l) λ_=>Kx (λ_=>l) λ_=>Kx (λ_=>l) λ_=>Kx (λ_=>l) λ_ =>
  Kx (λ_=>aHb _ _) λ_=>Kx (λ_=>aAy (aPv _)) λ_=>Kx (λ_=>aEl _) λ_=>Kx (λ_=>aMt hd) λ_=>aHf
theorem aWY (x:ByteArray):∀ (k i:Nat) (n l:List Int) (r:List Int×List Int),i+k=(Bs x).data.toList.length->Se x k i n l=some r->r.1.length=n.length+((Bs x).data.toList.drop i).countP (λb=>b==110):=by
 intro k
 induction k with
 | zero =>
  intro i n l r hi h;unfold Se at h;cases h;rw [dS (by omega)];rfl
 | succ k ih =>
  intro i n l r hi h;have hlt:i<(Bs x).data.toList.length:=by omega
  rw [mT hlt,List.countP_cons];have hk:Yr x i=((((Bs x).data.toList)[i]).toNat:Int):=by
   unfold Yr;rw [iV _ i _ hlt]
  unfold Se at h;by_cases c:(Yr x i==110)=true
  ·rw [if_pos c] at h;have e:((Bs x).data.toList[i]==110)=true:=by
    rw [beq_iff_eq] at c ⊢;rw [hk] at c;exact UInt8.toNat_inj.1 (by show _=110;omega)
   rw [e,if_pos rfl];split at h
   ·have:=ih (i+1) _ _ r (by omega) h;rw [this,aO,cP];omega
   ·cases h
  ·rw [if_neg c] at h;have e:((Bs x).data.toList[i]==110)=false:=by
    rw [beq_eq_false_iff_ne];intro q;rw [hk,q] at c;exact c rfl
   rw [e,if_neg (by decide),lE];split at h
   ·split at h
    ·exact ih (i+1) _ _ r (by omega) h
    ·cases h
   ·split at h
    ·exact ih (i+1) _ _ r (by omega) h
    ·cases h
theorem Rm:jD Ku=aA #[110]:=by
 unfold jD Ku;simp only [eR];decide
theorem Rn:jD Kv=aA #[110]:=by
 unfold jD Kv;simp only [eR];decide
theorem aA6:jD W8=aA #[110,110]:=by
 unfold jD W8;simp only [eR];decide
theorem aFG:jD aFF=aA #[108,110]:=by
 unfold jD aFF;simp only [eR];decide
theorem aA7:jD Rl=aA #[110,110,110,110,110]:=by
 unfold jD Rl;simp only [eR];decide
theorem aA8:jD aEm=aA #[110,110]:=by
 unfold jD aEm;simp only [eR];decide
theorem aA9:jD aEn=aA #[97,110,110]:=by
 unfold jD aEn;simp only [eR];decide
theorem aMv:jD aWU=aA #[110,110]:=by
 unfold jD aWU;simp only [eR];decide
theorem aAA:jD aEo=aA #[110]:=by
 unfold jD aEo;simp only [eR];decide
theorem aAB:jD aEp=aA #[110,110,110]:=by
 unfold jD aEp;simp only [eR];decide
theorem aQp {w:ByteArray} {n:Nat} (h:∀ v,eqw w v->aA #[116]≠jD v->(jD v).data.toList.countP (λb=>b==110)<=n) (t:ByteArray) (a l:List Int) (ha:a.length=n):Cn (w,t,a,l,()):=by
 refine ⟨λq => ?_,λq => ?_,λq => ?_,λq => ?_,λq => ?_,λq => ?_,λq => ?_,λq => ?_,λq => ?_,λq => ?_⟩
 ·have:=h _ q (by rw [Rm];decide);rw [Rm] at this;exact ha ▸ this
 ·have:=h _ q (by rw [Rn];decide);rw [Rn] at this;exact ha ▸ this
 ·have:=h _ q (by rw [aA6];decide);rw [aA6] at this;exact ha ▸ this
 ·have:=h _ q (by rw [aFG];decide);rw [aFG] at this;exact ha ▸ this
 ·have:=h _ q (by rw [aA7];decide);rw [aA7] at this;exact ha ▸ this
 ·have:=h _ q (by rw [aA8];decide);rw [aA8] at this;exact ha ▸ this
 ·have:=h _ q (by rw [aA9];decide);rw [aA9] at this;exact ha ▸ this
 ·have:=h _ q (by rw [aMv];decide);rw [aMv] at this;exact ha ▸ this
 ·have:=h _ q (by rw [aAA];decide);rw [aAA] at this;exact ha ▸ this
 ·have:=h _ q (by rw [aAB];decide);rw [aAB] at this;exact ha ▸ this
theorem aQq {x:ByteArray} (h:KE x=true):Cn (iN x)/\(iN x).2.1.size<=x.size:=by
 unfold KE at h;unfold iN;unfold Ys at h ⊢;split at h
 ·cases h
 ·rename_i c1;rw [if_neg c1];split at h
  ·cases h
  ·rename_i c2;rw [if_neg c2];split at h
   ·rename_i c3;rw [if_pos c3];refine ⟨aQp (n:=0) (λv q hv => ?_) _ [] [] rfl,(Gw x (aA #[32])).2⟩;have e:=(eR _ _).1 q;exact absurd (show aA #[116]=jD v by rw [<- c3, <- e];rfl) hv
   ·rename_i c3;rw [if_neg c3];split at h
    ·rename_i c4;rw [if_pos c4];cases hr:Se x (Bs x).size 0 [] [] with
     | none=>rw [hr] at h;cases h
     | some r =>
      have hl:=aWY x _ 0 [] [] r (by rw [cV];rfl) hr;refine ⟨aQp (n:=r.1.length) (λv q _ => ?_) _ r.1 r.2 rfl,bW _⟩;have e:=(eR _ _).1 q;rw [hl, <- e];exact Nat.le_of_eq (by rw [iS,iW,cV];rfl)
    ·cases h
theorem aAC {d:(fV)} (hd:Vd d):P21 d:=by
 obtain ⟨v1,v2,v3,v4,v5,v6,v7,v8,v9,v10,v11,v12⟩:=hd;have l1:=aQn v1;have l3:=(C8 v3).1;have l4:=(Dn v4).1;have l7:=aMh v7;have l9:=aQm v9;have l10:=(Ak v10).1;have l11:=aMf v11;have l12:=aMg v12;exact ⟨show _<=1048576 by omega,show _<=1048576 by omega,show _<=1048576 by omega,show _<=1048576 by omega,show _<=1048576 by omega,show _<=1048576 by omega,show _<=1048576 by omega,show _<=1048576 by omega,trivial⟩
theorem aMw {d:(fV)} (hd:Vd d) {c:CMD} (hc:Cn c) (ht:c.2.1.size<=1048576):P22 d c:=by
 have hk:=hc;obtain ⟨_,_,_,_,_,_,_,_,k9,k10⟩:=hk;unfold P22;exact pJ (λ_=>⟨aMo hd c ht,trivial⟩) λ_=>pJ (λq=>⟨Rk hd c k9 (λr=>absurd (q.symm.trans r) (by decide)),trivial⟩) λq=>pJ (λr=>⟨Rk hd c k9 (λ_=>k10 r),trivial⟩) λ_=>⟨aMr hd hc,trivial⟩
def XQ (d:(fV)) (o:List ByteArray) (k:Int) (b:Bool) (y:(fV)):Prop:=Few o/\(b=true->k=0->Vd y/\(y=d\/o=[aA #[111,107]]\/∃ x s,o=[qR x++aA #[47]++s]))
theorem aWZ {b:Bool} {α β γ δ:Type} {A1 A2:α} {B1 B2:β} {C1 C2:γ} {D1 D2:δ} {Q:α->β->γ->δ->Prop} (h1:b=true->Q A1 B1 C1 D1) (h2:b=false->Q A2 B2 C2 D2):Q (if b=true then A1 else A2) (if b=true then B1 else B2) (if b=true then C1 else C2) (if b=true then D1 else D2):=by
 cases b
 ·exact h2 rfl
 ·exact h1 rfl
theorem aPz {d:(fV)} (hd:Vd d) (c:CMD) (ht:c.2.1.size<=1048576):XQ d (u5 d c) (C6 d c) (Ke d c) (Kf d c):=by
 unfold u5 C6 Ke Kf;have ch:=aHc hd c;refine aWZ (λ_=>⟨aAy (by decide),λb k=>⟨aPr hd c ht b k,.inr (.inl rfl)⟩⟩) λ_=>aWZ (λ_=>⟨ch.1,λ_ k=>⟨(ch.2 k).1,.inr (ch.2 k).2⟩⟩) λ_=>aWZ (λ_=>⟨ch.1,λ_ k=>⟨(ch.2 k).1,.inr (ch.2 k).2⟩⟩) λ_=>⟨aMu hd c,λ_ _=>⟨hd,.inl rfl⟩⟩
theorem getD_all {l:List ByteArray} {M:Nat} (h:l.all (λs=>decide (s.size<=M))=true) (i:Nat):(l.getD i aC).size<=M:=by
 by_cases c:i<l.length
 ·rw [jH] at h;exact of_decide_eq_true (h _ (dN l i aC c))
 ·rw [bL,eV (by omega)];exact bW _
theorem Ug (k:Int):P23 k/\(aAf k).size<=20:=by
 constructor
 ·unfold P23;exact BH λa=>BH λb=>by
   have a:=of_decide_eq_false (bN.2 a);have b:=of_decide_eq_false (bN.2 b);exact ⟨by omega,by omega,trivial⟩
 ·unfold aAf;split
  ·exact bW _
  ·split
   ·exact bW _
   ·exact getD_all (by decide) _
def DQ (d:(fV)) (y:(fV)) (o:List ByteArray) (k:Int):Prop:=Few o/\(k=8\/(k=0/\Vd y/\o≠[]/\(y=d\/(o.getD 0 aC).data.toList.head? ≠ some 101)))
theorem aHg (x:Int) (s:ByteArray):(qR x++aA #[47]++s).data.toList.head? ≠ some 101:=by
 have e:(qR x++aA #[47]++s).data.toList=(qR x).data.toList++([47]++s.data.toList):=by
  rw [pV,pV,Array.toList_append,Array.toList_append,List.append_assoc]
 rw [e];unfold qR;split
 ·show (List.head? ([]++([47]++s.data.toList)):Option UInt8)≠some 101;simp
 ·rename_i c;have w:=wi (nb c);have:x=0\/x=1\/x=2\/x=3:=by omega
  rcases this with rfl | rfl | rfl | rfl
  ·show (some (115:UInt8))≠some 101;decide
  ·show (some (111:UInt8))≠some 101;decide
  ·show (some (111:UInt8))≠some 101;decide
  ·show (some (115:UInt8))≠some 101;decide
theorem W9 {d:(fV)} (hv:BW d=true) {x:ByteArray} (hx:x.size<=1048576):P8 d x/\DQ d (GB d x) (Ai d x) (RW d x):=by
 have hd:=(Mt d).1 hv;constructor
 ·unfold P8;refine pJ (λ_=>trivial) λ_=>⟨hx,pJ (λ_=>trivial) λq => ?_⟩;obtain ⟨hc,ht⟩:=aQq (x:=x) (by cases v:KE x <;> simp_all);have n:=(Ug (C6 (jE d) (iN x)));exact ⟨aAC hd,aMw hd hc (by omega),pJ (λ_=>trivial) λ_=>pJ (λ_=>⟨aAC hd,n.1,by omega,trivial⟩) λ_=>pJ (λ_=>trivial) λ_=>pJ (λr=>⟨by rw [beq_iff_eq] at r;omega,trivial⟩) λ_=>trivial⟩
 ·unfold GB Ai RW;refine Do (λq => ?_) λ_=>Do (λ_=>⟨WZ,.inl rfl⟩) λq => ?_
  ·rw [hv] at q;cases q
  obtain ⟨hc,ht⟩:=aQq (x:=x) (by cases v:KE x <;> simp_all);have hX:=aPz hd (iN x) (by omega);have hX:XQ d (u5 (jE d) (iN x)) (C6 (jE d) (iN x)) (Ke (jE d) (iN x)) (Kf (jE d) (iN x)):=hX;generalize u5 (jE d) (iN x)=o at *;generalize C6 (jE d) (iN x)=k at *;generalize Ke (jE d) (iN x)=b at *;generalize Kf (jE d) (iN x)=y at *;refine Do (λ_=>⟨WZ,.inl rfl⟩) λhb=>Do (λhk => ?_) λhk => ?_
  ·have n:=(Ug k).2;exact ⟨aAy (by rw [aS,show (aA #[101,114,114,111,114,32]).size=6 from rfl];omega),.inr ⟨rfl,hd,by simp,.inl rfl⟩⟩
  ·have hb:b=true:=by cases b <;> simp_all
   have hk:k=0:=by simpa using hk
   obtain ⟨hy,hz⟩:=hX.2 hb hk;have none_ok:DQ d y [aA #[110,111,110,101]] 0:=⟨aAy (by decide),.inr ⟨rfl,hy,by simp,.inr (by
    show (some (110:UInt8))≠some 101;decide)⟩⟩
   have all_ok:o≠[]->DQ d y o 0:=λhne=>⟨hX.1,.inr ⟨rfl,hy,hne,by
    rcases hz with h | h | ⟨x,s,h⟩
    ·exact .inl h
    ·right;rw [h];show (some (111:UInt8))≠some 101;decide
    ·right;rw [h];exact aHg x s⟩⟩
   refine Do (λ_=>none_ok) λh0 => ?_;have hne:o≠[]:=λe=>by rw [e] at h0;exact absurd h0 (by decide)
   exact Do (λ_=>Do (λ_=>none_ok) λ_=>all_ok hne) λ_=>all_ok hne
def lnz (ps:List (List UInt8)):List ByteArray:=(ps.take (ps.length - 1)).map (λl=>⟨⟨l⟩⟩)++(if ps.getD (ps.length - 1) []=[] then [] else [⟨⟨ps.getD (ps.length - 1) []⟩⟩])
theorem aMx (p:List UInt8) {qs:List (List UInt8)} (h:qs≠[]):lnz (p :: qs)=⟨⟨p⟩⟩ :: lnz qs:=by
 cases qs with
 | nil=>exact absurd rfl h
 | cons q r=>rfl
theorem aP0 (p:List UInt8):lnz [p]=if p=[] then [] else [⟨⟨p⟩⟩]:=by
 unfold lnz;simp
def Wa (l:List UInt8):List ByteArray:=lnz (nL 10 l)
theorem aP1 {p:List UInt8} (r:List UInt8) (h:(10:UInt8) ∉ p):Wa (p++10 :: r)=⟨⟨p⟩⟩ :: Wa r:=by
 unfold Wa;rw [AI 10 r h,aMx _ (MN 10 r)]
theorem aAD {p:List UInt8} (h:(10:UInt8) ∉ p):Wa p=if p=[] then [] else [⟨⟨p⟩⟩]:=by
 unfold Wa;rw [xS 10 h,aP0]
theorem aFH:Wa []=[]:=by rw [aAD (by simp)];rfl
theorem aQs (x:ByteArray):Aj x=Wa x.data.toList:=by
 have hs:bY x (aA #[10])=bss (nL 10 x.data.toList):=Pr 10 x;unfold Aj Hh C4 Wa lnz;rw [hs];have hne:=MN 10 x.data.toList;generalize nL 10 x.data.toList=ps at *;have hl:(bss ps).length=ps.length:=by unfold bss;rw [eJ]
 have h1:1<=ps.length:=by cases ps with
  | nil=>exact absurd rfl hne
  | cons a r=>simp
 have e1:(((bss ps).length:Int) - 1).toNat=ps.length - 1:=by rw [hl];omega
 have e2:(bss ps).getD (ps.length - 1) aC=⟨⟨ps.getD (ps.length - 1) []⟩⟩:=by
  rw [iV _ _ _ (by omega),iV _ _ _ (by omega)];unfold bss;rw [List.getElem_map]
 rw [e1,e2,cV,iS]
 congr 1
 ·unfold bss;rw [List.map_take]
 ·by_cases c:ps.getD (ps.length - 1) []=[]
  ·rw [c,if_pos rfl,if_pos rfl]
  ·rw [if_neg c,if_neg];intro e;exact c (by injection e with e;injection e)
theorem aMy {ps:List (List UInt8)} {M:Nat} (h:∀ p∈ps,p.length<=M):∀ s∈lnz ps,s.size<=M:=by
 intro s hs;unfold lnz at hs;rcases bU.1 hs with hs | hs
 ·obtain ⟨p,hp,rfl⟩:=eE.1 hs;exact h p (List.mem_of_mem_take hp)
 ·split at hs
  ·cases hs
  ·simp only [aR,bZ,or_false] at hs;rw [hs];by_cases c:ps.length - 1<ps.length
   ·exact h _ (dN ps _ [] c)
   ·show (ps.getD (ps.length - 1) []).length<=M;rw [bL,eV (by omega)];exact bW _
theorem Nk (c:UInt8):∀ (l:List UInt8),∀ p∈nL c l,p.length<=l.length
 | [],p,h=>by simp [nL] at h;simp [h]
 | b :: r,p,h=>by
  have ih:=Nk c r;unfold nL at h;split at h
  ·rcases aR.1 h with rfl | h
   ·exact bW _
   ·have:=ih p h;simp only [bA];omega
  ·split at h
   ·rename_i e;exact absurd e (MN c r)
   ·rename_i q qs e;rw [e] at ih;simp only [bA];rcases aR.1 h with rfl | h
    ·have:=ih q (aQ ..);simp only [bA];omega
    ·have:=ih p (aM _ h);omega
theorem aMz:Vd Sc:=(Mt _).1 (by decide)
theorem aM0 {ls:List ByteArray} (hz:∀ l∈ls,l.size<=1048576):∀ k,k<=ls.length->Vd (Kg ls k).1
 | 0,_=>aMz
 | k+1,hk=>by
  have ih:=aM0 hz k (by omega);have hd:=(W9 ((Mt _).2 ih) (hz _ (dN ls k aC (by omega)))).2;rw [RX ls k (by omega)];unfold Oc;split
  ·rename_i c;rcases hd.2 with h | ⟨_,h,_⟩
   ·rw [c] at h;cases h
   ·exact h
  ·exact ih
theorem aFI {x:ByteArray} (hx:x.size<=10000):P6 x:=by
 have hz:∀ l∈Aj x,l.size<=1048576:=λl hl=>by
  rw [aQs] at hl;have:=aMy (M:=10000) (λp hp=>cO (Nk 10 x.data.toList p hp) hx) l hl;omega
 have hc:=sQ (aA #[10]) (by decide) x.size x (aT _);have hl:=aMj x (aA #[10]) (by decide);refine ⟨?_,?_,λh60 k hk => ?_⟩
 ·exact ⟨⟨by omega,by decide⟩,by rw [aK];omega,by omega,by omega,by omega,by omega,trivial⟩
 ·unfold Hh;rw [iS,cJ];exact cO (Nat.min_le_right _ _) (by omega)
 ·have hv:=aM0 hz k (by omega);obtain ⟨p,q⟩:=W9 ((Mt _).2 hv) (hz _ (dN (Aj x) k aC hk));exact ⟨p,q.1⟩
theorem aHh (d:(fV)):aAi d d=true:=by
 have e1:∀ l,aLA l l=true:=λl=>decide_eq_true rfl;have e2:∀ l,aLB l l=true:=λl=>decide_eq_true rfl;have e3:∀ l,aLC l l=true:=λl=>decide_eq_true rfl;have e4:∀ l,Rb l l=true:=λl=>decide_eq_true rfl;have e5:∀ l,aLD l l=true:=λl=>decide_eq_true rfl;have e6:∀ l,aLE l l=true:=λl=>decide_eq_true rfl;have e7:∀ l,aLF l l=true:=λl=>decide_eq_true rfl;have e8:∀ l,aLG l l=true:=λl=>decide_eq_true rfl;have q3:∀ x,xM fL x x=true:=λx=>(n7 rfl).2 rfl;have q4:∀ x,xM X1 x x=true:=λx=>(n7 rfl).2 rfl;unfold aAi;simp only [e1,e2,e3,e4,e5,e6,e7,e8,q3,q4,if_true]
theorem aEq {d:(fV)} (h:Vd d):aOU d=true:=(aEe d).symm.trans ((Mt d).2 h)
end Go.Proofs.YtmhpnodnljbnjaaGreatDoor
-- facts: deskRun
set_option maxRecDepth 100000
namespace Go.Proofs.YtmhpnodnljbnjaaGreatDoor
open Go Go.Am Go.Proofs Go.RowKit
theorem lg3 (W:World) (v:Value) (x0:List Int) (hgo:E9 W []) (ha:rS W (dM W []) (iG (.sl (.int .u8)) x0) v) :
  Calls aL 4 #[v] W λe w'=>e = .returned (.bool (aQI x0))/\cE [] W w':=by
 have h:=bGl.2.down rfl W (x0,()) [v] [[]] hgo trivial ⟨v,[],[],[],rfl,rfl,⟨rfl,ha⟩,rfl,rfl⟩ (by simp);refine h.mono ?_;rintro e w' ⟨rs,ubs,rbs,rfl,hk,⟨u,s,b1,bs1,cs,rfl,rfl,ho,hv,rfl,rfl⟩,_⟩;obtain ⟨ho,_⟩:=ho;have hv:cs=[u]:=hv;rw [ho] at hv;cases hv;exact ⟨rfl,hk⟩
theorem dr3 (W:World) (v:Value) (x0:List Int) (hgo:E9 W []) (ha:rS W (dM W []) (iG (.sl (.int .u8)) x0) v) :
  Calls aL 5 #[v] W λe w'=>e = .returned (.string (aGu x0))/\cE [] W w':=by
 have h:=bGN.2.down rfl W (x0,()) [v] [[]] hgo trivial ⟨v,[],[],[],rfl,rfl,⟨rfl,ha⟩,rfl,rfl⟩ (by simp);refine h.mono ?_;rintro e w' ⟨rs,ubs,rbs,rfl,hk,⟨u,s,b1,bs1,cs,rfl,rfl,ho,hv,rfl,rfl⟩,_⟩;obtain ⟨ho,_⟩:=ho;have hv:cs=[u]:=hv;rw [ho] at hv;cases hv;exact ⟨rfl,hk⟩
theorem vs3 (W:World) (X:List Nat) (d:(fV)) (cs:List Value) (hgo:E9 W []) (hd:dW W (dM W X) (.cons (.sl (.cons .str (.cons (.int .i64) (.cons (.int .i64) (.cons (.int .i64) .unit))))) (.cons (.cons (.int .i64) (.cons (.int .i64) (.cons (.int .i64) (.cons (.int .i64) .unit)))) (.cons (.sl (.cons (.int .i64) (.cons (.int .i64) (.cons (.int .i64) .unit)))) (.cons (.sl (.cons (.int .i64) (.cons (.int .i64) (.cons (.int .i64) .unit)))) (.cons (.cons (.int .i64) (.cons (.int .i64) (.cons (.int .i64) .unit))) (.cons (.cons (.int .i64) (.cons (.int .i64) (.cons (.int .i64) .unit))) (.cons (.sl (.cons .str (.cons (.int .i64) (.cons (.int .i64) .unit)))) (.cons (.cons (.int .i64) (.cons (.int .i64) (.cons (.int .i64) (.cons (.int .i64) .unit)))) (.cons (.sl (.cons .str (.cons (.int .i64) (.cons (.int .i64) (.cons (.int .i64) .unit))))) (.cons (.sl (.cons (.int .i64) (.cons (.int .i64) (.cons (.int .i64) .unit)))) (.cons (.sl (.cons .str (.cons (.int .i64) (.cons (.int .i64) .unit)))) (.cons (.sl (.cons .str (.cons (.int .i64) (.cons (.int .i64) .unit)))) .unit)))))))))))) d cs) :
  Calls aL 9 #[.agg cs.toArray] W λe w'=>e = .returned (.bool (aOU d))/\cE [] W w':=by
 refine (bMu.2 W (dM W X) (dM W X) (d,()) [.agg cs.toArray] [[]] hgo (λb h=>⟨h.1,by simp⟩) (λ_ h=>h) trivial ⟨_,_,_,_,rfl,rfl,⟨rfl,cs,rfl,hd⟩,rfl,rfl⟩ (by simp)).mono ?_;rintro e w' ⟨rs,ubs,rbs,F,rfl,hk,⟨v,s,b,bs,rfl,rfl,⟨cs1,ho,hv⟩,rfl,rfl⟩,_⟩;have hv:cs1=[v]:=hv;subst hv;obtain ⟨e1,_⟩:=ho;cases e1;exact ⟨rfl,hk⟩
theorem sm3 (W:World) (X:List Nat) (d1 d2:(fV)) (cs1 cs2:List Value) (hgo:E9 W []) (h1:dW W (dM W X) (.cons (.sl (.cons .str (.cons (.int .i64) (.cons (.int .i64) (.cons (.int .i64) .unit))))) (.cons (.cons (.int .i64) (.cons (.int .i64) (.cons (.int .i64) (.cons (.int .i64) .unit)))) (.cons (.sl (.cons (.int .i64) (.cons (.int .i64) (.cons (.int .i64) .unit)))) (.cons (.sl (.cons (.int .i64) (.cons (.int .i64) (.cons (.int .i64) .unit)))) (.cons (.cons (.int .i64) (.cons (.int .i64) (.cons (.int .i64) .unit))) (.cons (.cons (.int .i64) (.cons (.int .i64) (.cons (.int .i64) .unit))) (.cons (.sl (.cons .str (.cons (.int .i64) (.cons (.int .i64) .unit)))) (.cons (.cons (.int .i64) (.cons (.int .i64) (.cons (.int .i64) (.cons (.int .i64) .unit)))) (.cons (.sl (.cons .str (.cons (.int .i64) (.cons (.int .i64) (.cons (.int .i64) .unit))))) (.cons (.sl (.cons (.int .i64) (.cons (.int .i64) (.cons (.int .i64) .unit)))) (.cons (.sl (.cons .str (.cons (.int .i64) (.cons (.int .i64) .unit)))) (.cons (.sl (.cons .str (.cons (.int .i64) (.cons (.int .i64) .unit)))) .unit)))))))))))) d1 cs1) (h2:dW W (dM W X) (.cons (.sl (.cons .str (.cons (.int .i64) (.cons (.int .i64) (.cons (.int .i64) .unit))))) (.cons (.cons (.int .i64) (.cons (.int .i64) (.cons (.int .i64) (.cons (.int .i64) .unit)))) (.cons (.sl (.cons (.int .i64) (.cons (.int .i64) (.cons (.int .i64) .unit)))) (.cons (.sl (.cons (.int .i64) (.cons (.int .i64) (.cons (.int .i64) .unit)))) (.cons (.cons (.int .i64) (.cons (.int .i64) (.cons (.int .i64) .unit))) (.cons (.cons (.int .i64) (.cons (.int .i64) (.cons (.int .i64) .unit))) (.cons (.sl (.cons .str (.cons (.int .i64) (.cons (.int .i64) .unit)))) (.cons (.cons (.int .i64) (.cons (.int .i64) (.cons (.int .i64) (.cons (.int .i64) .unit)))) (.cons (.sl (.cons .str (.cons (.int .i64) (.cons (.int .i64) (.cons (.int .i64) .unit))))) (.cons (.sl (.cons (.int .i64) (.cons (.int .i64) (.cons (.int .i64) .unit)))) (.cons (.sl (.cons .str (.cons (.int .i64) (.cons (.int .i64) .unit)))) (.cons (.sl (.cons .str (.cons (.int .i64) (.cons (.int .i64) .unit)))) .unit)))))))))))) d2 cs2) :
  Calls aL 10 #[.agg cs1.toArray,.agg cs2.toArray] W λe w'=>e = .returned (.bool (aAi d1 d2))/\cE [] W w':=by
 refine (bFk.2 W (dM W X) (dM W X) (d1,d2,()) [.agg cs1.toArray,.agg cs2.toArray] [[],[]] hgo (λb h=>⟨h.1,by simp⟩) (λ_ h=>h) trivial ⟨_,_,_,_,rfl,rfl,⟨rfl,cs1,rfl,h1⟩,_,_,_,_,rfl,rfl,⟨rfl,cs2,rfl,h2⟩,rfl,rfl⟩ (by simp)).mono ?_;rintro e w' ⟨rs,ubs,rbs,F,rfl,hk,⟨v,s,b,bs,rfl,rfl,⟨cs3,ho,hv⟩,rfl,rfl⟩,_⟩;have hv:cs3=[v]:=hv;subst hv;obtain ⟨e1,_⟩:=ho;cases e1;exact ⟨rfl,hk⟩
theorem tk3 {l:List UInt8} {f k:Nat} (hf:f<=k) (h:(10:UInt8) ∉ (l.drop f).take (k - f)) (hs:k<l.length->l.getD k 0≠10):(10:UInt8) ∉ (l.drop f).take (k+1 - f):=by
 intro hm;obtain ⟨i,hi,e⟩:=mZ.1 hm;have hi':=hi;rw [cJ,fD] at hi';rw [La,Lb] at e;by_cases c:i<k - f
 ·exact h (mZ.2 ⟨i,by rw [cJ,fD];omega,by rw [La,Lb];exact e⟩)
 ·obtain rfl:k=f+i:=by omega
  exact hs (by omega) (by rw [iV _ _ _ (by omega)];exact e)
theorem nw3 {l:List UInt8} {f k:Nat} (hf:f<=k) (hk:k<l.length) (hb:l.getD k 0=10):l.drop f=(l.drop f).take (k - f)++10 :: l.drop (k+1):=by
 conv=>lhs;rw [<- List.take_append_drop (k - f) (l.drop f)]
 rw [List.drop_drop,show f+(k - f)=k by omega,mT hk];rw [iV _ _ _ hk] at hb;rw [hb]
theorem pc3 (t:ByteArray) (f k:Nat):t.extract f k=⟨⟨(t.data.toList.drop f).take (k - f)⟩⟩:=by
 obtain ⟨⟨l⟩⟩:=t;exact SN l f k
theorem hd3 {s:ByteArray} (h5:5<s.size) (h:(s.extract 0 6).toList=[101,114,114,111,114,32]):s.data.toList.head? = some 101:=by
 have e:aB (aA #[101,114,114,111,114,32])=[101,114,114,111,114,32]:=by simp
 rw [<- e] at h;have h:=(eR _ _).1 (beq_iff_eq.2 h);obtain ⟨⟨l⟩⟩:=s;rw [SN] at h;have h:(l.drop 0).take (6 - 0)=[101,114,114,111,114,32]:=by
  injection h with h
  injection h
 cases l with
 | nil=>cases h
 | cons a r =>
  rw [iS,List.take_succ_cons] at h
  injection h with h _
  rw [h];rfl
theorem up3 (ls:List ByteArray):∀ (s:(fV)×ByteArray),s.2.size<=(ls.foldl Oc s).2.size:=by
 have hn:∀ (o:ByteArray) (l:List ByteArray),o.size<=(UO o l).size:=by
  intro o l;unfold UO
  induction l generalizing o with
  | nil=>exact aT _
  | cons a r ih =>
   rw [dY];refine cO ?_ (ih _);rw [aS];omega
 induction ls with
 | nil=>intro s;exact aT _
 | cons a r ih =>
  intro s;rw [dY];refine cO ?_ (ih _);unfold Oc;split
  ·exact hn _ _
  ·show s.2.size<=(s.2++aA #[63,10]).size;rw [aS];omega
structure In3 (w:World) (nb db:Nat) (y d:(fV)) (cs6 cs:List Value) (ot:List ByteArray) (lv:Value) (W:World):Prop where
 n:WV nb cs6 W
 o:WV db cs W
 y:dW W (dM W [db]) (.cons (.sl (.cons .str (.cons (.int .i64) (.cons (.int .i64) (.cons (.int .i64) .unit))))) (.cons (.cons (.int .i64) (.cons (.int .i64) (.cons (.int .i64) (.cons (.int .i64) .unit)))) (.cons (.sl (.cons (.int .i64) (.cons (.int .i64) (.cons (.int .i64) .unit)))) (.cons (.sl (.cons (.int .i64) (.cons (.int .i64) (.cons (.int .i64) .unit)))) (.cons (.cons (.int .i64) (.cons (.int .i64) (.cons (.int .i64) .unit))) (.cons (.cons (.int .i64) (.cons (.int .i64) (.cons (.int .i64) .unit))) (.cons (.sl (.cons .str (.cons (.int .i64) (.cons (.int .i64) .unit)))) (.cons (.cons (.int .i64) (.cons (.int .i64) (.cons (.int .i64) (.cons (.int .i64) .unit)))) (.cons (.sl (.cons .str (.cons (.int .i64) (.cons (.int .i64) (.cons (.int .i64) .unit))))) (.cons (.sl (.cons (.int .i64) (.cons (.int .i64) (.cons (.int .i64) .unit)))) (.cons (.sl (.cons .str (.cons (.int .i64) (.cons (.int .i64) .unit)))) (.cons (.sl (.cons .str (.cons (.int .i64) (.cons (.int .i64) .unit)))) .unit)))))))))))) y cs6
 l:dW W (dM W [db]) (.sl .str) ot [lv]
 d:dW W (dM W [db]) (.cons (.sl (.cons .str (.cons (.int .i64) (.cons (.int .i64) (.cons (.int .i64) .unit))))) (.cons (.cons (.int .i64) (.cons (.int .i64) (.cons (.int .i64) (.cons (.int .i64) .unit)))) (.cons (.sl (.cons (.int .i64) (.cons (.int .i64) (.cons (.int .i64) .unit)))) (.cons (.sl (.cons (.int .i64) (.cons (.int .i64) (.cons (.int .i64) .unit)))) (.cons (.cons (.int .i64) (.cons (.int .i64) (.cons (.int .i64) .unit))) (.cons (.cons (.int .i64) (.cons (.int .i64) (.cons (.int .i64) .unit))) (.cons (.sl (.cons .str (.cons (.int .i64) (.cons (.int .i64) .unit)))) (.cons (.cons (.int .i64) (.cons (.int .i64) (.cons (.int .i64) (.cons (.int .i64) .unit)))) (.cons (.sl (.cons .str (.cons (.int .i64) (.cons (.int .i64) (.cons (.int .i64) .unit))))) (.cons (.sl (.cons (.int .i64) (.cons (.int .i64) (.cons (.int .i64) .unit)))) (.cons (.sl (.cons .str (.cons (.int .i64) (.cons (.int .i64) .unit)))) (.cons (.sl (.cons .str (.cons (.int .i64) (.cons (.int .i64) .unit)))) .unit)))))))))))) d cs
 k:cE [] w W
 ld:db<W.heap.size
 ln:nb<W.heap.size
theorem In3.keep {w:World} {nb db:Nat} {y d:(fV)} {cs6 cs:List Value} {ot:List ByteArray} {lv:Value} {W W':World} (h:In3 w nb db y d cs6 cs ot lv W) (k:cE [] W W'):In3 w nb db y d cs6 cs ot lv W':=by
 have s:JC [db] W [db] W':=⟨k.mono (λi hi=>by cases hi),λx hx => .inl hx⟩;have hs:=k.size;exact ⟨h.n.keep (k.block nb h.ln (by simp)),h.o.keep (k.block db h.ld (by simp)),s.keep h.y,s.keep h.l,s.keep h.d,h.k.trans k,cK h.ld hs,cK h.ln hs⟩
set_option maxHeartbeats 4000000 in
theorem bFm (w:World) (v:Value) (x0:List Int) (hgo:E9 w []) (hwf:Wf (.sl (.int .u8)) x0) (ha:rS w (dM w []) (iG (.sl (.int .u8)) x0) v) :
  Calls aL 3 #[v] w λe w'=>e = .returned (.bool true)/\cE [] w w':=by
 have HA:Aside (rS w (dM w []) (iG (.sl (.int .u8)) x0) v):=ha;have ht:=(q5 x0 (ex5 x0 hwf)).1;clear ha;have mixed:=mixed
 go_enter EP,Tryz.ntmps3
 go_upto_if 16 with (go_at_call 4;refine (lg3 _ v x0 hgo HA.out).mono ?_;rintro e w1 ⟨rfl,k1⟩)
 cases hb:aQI x0 with
 | true =>
  go_wp2
  go_ret
  exact ⟨rfl,k1⟩
 | false =>
  have K1:Aside (cE [] w w1):=k1;clear k1;generalize hgt:aGu x0=t at *;have HT:Aside (aGu x0=t):=hgt;clear hgt
  go_upto_if 25 with (first
   | (go_at_call 5;refine (dr3 _ v x0 (aAg hgo K1.out) (lP (λb h=>⟨cK h.1 K1.out.size,h.2⟩) (λb h=>K1.out.block b h.1 h.2) HA.out)).mono ?_;rintro e w2 ⟨rfl,k2⟩;rw [HT.out])
   | (go_at_call 6;refine (bDI _ t (aAg hgo (K1.out.trans k2)) (by unfold maxLen;omega) (aFI ht)).mono ?_;rintro e w3 ⟨rfl,k3⟩))
  have K3:Aside (cE [] w w3):=(K1.out.trans k2).trans k3;clear k2 k3;have e0:aOP t=if 60<(Aj t).length then aA #[] else (Kg (Aj t) (Aj t).length).2:=rfl
  have e1:aOQ t=if 60<(Aj t).length then 5 else 0:=rfl
  have HP:Aside ((Aj t).length<=60->∀ k,k<(Aj t).length->Pk6 (Aj t) k):=(aFI ht).2.2;by_cases h60:60<(Aj t).length
  ·rw [if_pos h60] at e0 e1;rw [e0,e1];clear e0 e1
   go_wp2
   go_ret
   exact ⟨rfl,K3.out⟩
  ·rw [if_neg h60] at e0 e1;rw [e0,e1];clear e0 e1;have HL:Aside (Aj t=Wa t.data.toList):=aQs t;have HT2:Aside ((Kg (Aj t) (Aj t).length).2.size<=50000001000*60):=by
    have:=RZ (Aj t) (HP.out (by omega)) (Aj t).length (aT _);show _<=_;omega
   generalize hTT:Kg (Aj t) (Aj t).length=T at *;have HTT:Aside (Kg (Aj t) (Aj t).length=T):=hTT;clear hTT
   go_wp2_with (first
    | (go_at_call 7;refine (nd6 _ [] (aAg hgo K3.out) (by simp)).mono ?_;rintro e w4 ⟨cs0,rfl,k4,r4⟩;have L4:Aside (cs0.length=22):=r4.length;have O4:Aside (∀ c∈cs0,c.oneCell'=true):=r4.one;have R4:Aside (dW w4 (dM w4 []) (.cons (.sl (.cons .str (.cons (.int .i64) (.cons (.int .i64) (.cons (.int .i64) .unit))))) (.cons (.cons (.int .i64) (.cons (.int .i64) (.cons (.int .i64) (.cons (.int .i64) .unit)))) (.cons (.sl (.cons (.int .i64) (.cons (.int .i64) (.cons (.int .i64) .unit)))) (.cons (.sl (.cons (.int .i64) (.cons (.int .i64) (.cons (.int .i64) .unit)))) (.cons (.cons (.int .i64) (.cons (.int .i64) (.cons (.int .i64) .unit))) (.cons (.cons (.int .i64) (.cons (.int .i64) (.cons (.int .i64) .unit))) (.cons (.sl (.cons .str (.cons (.int .i64) (.cons (.int .i64) .unit)))) (.cons (.cons (.int .i64) (.cons (.int .i64) (.cons (.int .i64) (.cons (.int .i64) .unit)))) (.cons (.sl (.cons .str (.cons (.int .i64) (.cons (.int .i64) (.cons (.int .i64) .unit))))) (.cons (.sl (.cons (.int .i64) (.cons (.int .i64) (.cons (.int .i64) .unit)))) (.cons (.sl (.cons .str (.cons (.int .i64) (.cons (.int .i64) .unit)))) (.cons (.sl (.cons .str (.cons (.int .i64) (.cons (.int .i64) .unit)))) .unit)))))))))))) Sc cs0):=r4;have K4:Aside (cE [] w3 w4):=k4;clear r4 k4)
    | (refine aOR rfl rfl ?_;rintro w5 hw5;have W5:Aside (w5=w4.alloc (.cells (eF (.cons (.sl (.cons .str (.cons (.int .i64) (.cons (.int .i64) (.cons (.int .i64) .unit))))) (.cons (.cons (.int .i64) (.cons (.int .i64) (.cons (.int .i64) (.cons (.int .i64) .unit)))) (.cons (.sl (.cons (.int .i64) (.cons (.int .i64) (.cons (.int .i64) .unit)))) (.cons (.sl (.cons (.int .i64) (.cons (.int .i64) (.cons (.int .i64) .unit)))) (.cons (.cons (.int .i64) (.cons (.int .i64) (.cons (.int .i64) .unit))) (.cons (.cons (.int .i64) (.cons (.int .i64) (.cons (.int .i64) .unit))) (.cons (.sl (.cons .str (.cons (.int .i64) (.cons (.int .i64) .unit)))) (.cons (.cons (.int .i64) (.cons (.int .i64) (.cons (.int .i64) (.cons (.int .i64) .unit)))) (.cons (.sl (.cons .str (.cons (.int .i64) (.cons (.int .i64) (.cons (.int .i64) .unit))))) (.cons (.sl (.cons (.int .i64) (.cons (.int .i64) (.cons (.int .i64) .unit)))) (.cons (.sl (.cons .str (.cons (.int .i64) (.cons (.int .i64) .unit)))) (.cons (.sl (.cons .str (.cons (.int .i64) (.cons (.int .i64) .unit)))) .unit))))))))))))).toArray 44)):=hw5;clear hw5)
    | (refine aGE (b:=w4.heap.size) (cs:=cs0) (cur:=(eF (.cons (.sl (.cons .str (.cons (.int .i64) (.cons (.int .i64) (.cons (.int .i64) .unit))))) (.cons (.cons (.int .i64) (.cons (.int .i64) (.cons (.int .i64) (.cons (.int .i64) .unit)))) (.cons (.sl (.cons (.int .i64) (.cons (.int .i64) (.cons (.int .i64) .unit)))) (.cons (.sl (.cons (.int .i64) (.cons (.int .i64) (.cons (.int .i64) .unit)))) (.cons (.cons (.int .i64) (.cons (.int .i64) (.cons (.int .i64) .unit))) (.cons (.cons (.int .i64) (.cons (.int .i64) (.cons (.int .i64) .unit))) (.cons (.sl (.cons .str (.cons (.int .i64) (.cons (.int .i64) .unit)))) (.cons (.cons (.int .i64) (.cons (.int .i64) (.cons (.int .i64) (.cons (.int .i64) .unit)))) (.cons (.sl (.cons .str (.cons (.int .i64) (.cons (.int .i64) (.cons (.int .i64) .unit))))) (.cons (.sl (.cons (.int .i64) (.cons (.int .i64) (.cons (.int .i64) .unit)))) (.cons (.sl (.cons .str (.cons (.int .i64) (.cons (.int .i64) .unit)))) (.cons (.sl (.cons .str (.cons (.int .i64) (.cons (.int .i64) .unit)))) .unit))))))))))))).toArray) rfl rfl rfl rfl L4.out O4.out (by rw [W5.out];exact heap_alloc_new _ _) rfl ?_;intro w6 d6 k6 z6))
   have z4:=K4.out.size;have h45:cE [] w4 w5:=by rw [W5.out];exact (cE.refl [] w4).alloc _
   have h55:w5.heap.size=w4.heap.size+1:=by rw [W5.out];simp
   have kw4:cE [] w w4:=K3.out.trans K4.out;have s46:JC [] w4 [w4.heap.size] w6:=⟨⟨k6.os.trans h45.os,k6.tape.trans h45.tape,k6.output.trans h45.output,by omega,λi hi hx=>(k6.block i (by omega) (by simp only [aR,bZ,or_false];omega)).trans (h45.block i hi (by simp))⟩,λx hx=>by simp only [aR,bZ,or_false] at hx;exact .inr (by omega)⟩;have R6:Aside (dW w6 (dM w6 [w4.heap.size]) (.cons (.sl (.cons .str (.cons (.int .i64) (.cons (.int .i64) (.cons (.int .i64) .unit))))) (.cons (.cons (.int .i64) (.cons (.int .i64) (.cons (.int .i64) (.cons (.int .i64) .unit)))) (.cons (.sl (.cons (.int .i64) (.cons (.int .i64) (.cons (.int .i64) .unit)))) (.cons (.sl (.cons (.int .i64) (.cons (.int .i64) (.cons (.int .i64) .unit)))) (.cons (.cons (.int .i64) (.cons (.int .i64) (.cons (.int .i64) .unit))) (.cons (.cons (.int .i64) (.cons (.int .i64) (.cons (.int .i64) .unit))) (.cons (.sl (.cons .str (.cons (.int .i64) (.cons (.int .i64) .unit)))) (.cons (.cons (.int .i64) (.cons (.int .i64) (.cons (.int .i64) (.cons (.int .i64) .unit)))) (.cons (.sl (.cons .str (.cons (.int .i64) (.cons (.int .i64) (.cons (.int .i64) .unit))))) (.cons (.sl (.cons (.int .i64) (.cons (.int .i64) (.cons (.int .i64) .unit)))) (.cons (.sl (.cons .str (.cons (.int .i64) (.cons (.int .i64) .unit)))) (.cons (.sl (.cons .str (.cons (.int .i64) (.cons (.int .i64) .unit)))) .unit)))))))))))) Sc cs0):=s46.keep R4.out;have D6:Aside (WV w4.heap.size cs0 w6):=d6;have K6:Aside (cE [] w w6):=kw4.trans s46.kept
   have hwd:w.heap.size<=w4.heap.size:=kw4.size;have hd6:w4.heap.size<w6.heap.size:=by omega
   clear h45 kw4 s46 k6 d6 R4 W5;generalize w4.heap.size=db at *;have F0:Aside ((Wa (t.data.toList.drop 0)).foldl Oc (Sc,aA #[])=T):=by
    show _=_;rw [iS, <- HL.out, <- HTT.out];unfold Kg;rw [gU]
   go_loopw [7,8,9] (λs7 s8 s9 wr=>∃ (f k:Nat) (wt:ByteArray) (d:(fV)) (cs:List Value),s7 = .string wt/\s8 = .int .i64 f/\s9 = .int .i64 k/\f<=k/\k<=t.size+1/\(k=t.size+1->t.size<=f)/\(10:UInt8) ∉ (t.data.toList.drop f).take (k - f)/\(Wa (t.data.toList.drop f)).foldl Oc (d,wt)=T/\Vd d/\WV db cs wr/\dW wr (dM wr [db]) (.cons (.sl (.cons .str (.cons (.int .i64) (.cons (.int .i64) (.cons (.int .i64) .unit))))) (.cons (.cons (.int .i64) (.cons (.int .i64) (.cons (.int .i64) (.cons (.int .i64) .unit)))) (.cons (.sl (.cons (.int .i64) (.cons (.int .i64) (.cons (.int .i64) .unit)))) (.cons (.sl (.cons (.int .i64) (.cons (.int .i64) (.cons (.int .i64) .unit)))) (.cons (.cons (.int .i64) (.cons (.int .i64) (.cons (.int .i64) .unit))) (.cons (.cons (.int .i64) (.cons (.int .i64) (.cons (.int .i64) .unit))) (.cons (.sl (.cons .str (.cons (.int .i64) (.cons (.int .i64) .unit)))) (.cons (.cons (.int .i64) (.cons (.int .i64) (.cons (.int .i64) (.cons (.int .i64) .unit)))) (.cons (.sl (.cons .str (.cons (.int .i64) (.cons (.int .i64) (.cons (.int .i64) .unit))))) (.cons (.sl (.cons (.int .i64) (.cons (.int .i64) (.cons (.int .i64) .unit)))) (.cons (.sl (.cons .str (.cons (.int .i64) (.cons (.int .i64) .unit)))) (.cons (.sl (.cons .str (.cons (.int .i64) (.cons (.int .i64) .unit)))) .unit)))))))))))) d cs/\cE [] w wr/\db<wr.heap.size) (λ_ _ s9 _=>t.size+2 - (intOf s9).toNat)
   case atStart=>exact ⟨0,0,aA #[],Sc,cs0,rfl,rfl,rfl,aT _,bW _,λh=>by omega,by simp,F0.out,aMz,D6.out,R6.out,K6.out,hd6⟩
   case round =>
    obtain ⟨f,k,wt,d,cs,rfl,rfl,rfl,hfk,hk1,hk2,hfr,hfo,hvd,hD,hR,hK,hdb⟩:=hrel;have HF:Aside ((10:UInt8) ∉ (t.data.toList.drop f).take (k - f)):=hfr;have HO:Aside ((Wa (t.data.toList.drop f)).foldl Oc (d,wt)=T):=hfo;have HV:Aside (Vd d):=hvd;have HD:Aside (WV db cs wr):=hD;have HR:Aside (dW wr (dM wr [db]) (.cons (.sl (.cons .str (.cons (.int .i64) (.cons (.int .i64) (.cons (.int .i64) .unit))))) (.cons (.cons (.int .i64) (.cons (.int .i64) (.cons (.int .i64) (.cons (.int .i64) .unit)))) (.cons (.sl (.cons (.int .i64) (.cons (.int .i64) (.cons (.int .i64) .unit)))) (.cons (.sl (.cons (.int .i64) (.cons (.int .i64) (.cons (.int .i64) .unit)))) (.cons (.cons (.int .i64) (.cons (.int .i64) (.cons (.int .i64) .unit))) (.cons (.cons (.int .i64) (.cons (.int .i64) (.cons (.int .i64) .unit))) (.cons (.sl (.cons .str (.cons (.int .i64) (.cons (.int .i64) .unit)))) (.cons (.cons (.int .i64) (.cons (.int .i64) (.cons (.int .i64) (.cons (.int .i64) .unit)))) (.cons (.sl (.cons .str (.cons (.int .i64) (.cons (.int .i64) (.cons (.int .i64) .unit))))) (.cons (.sl (.cons (.int .i64) (.cons (.int .i64) (.cons (.int .i64) .unit)))) (.cons (.sl (.cons .str (.cons (.int .i64) (.cons (.int .i64) .unit)))) (.cons (.sl (.cons .str (.cons (.int .i64) (.cons (.int .i64) .unit)))) .unit)))))))))))) d cs):=hR;have HK:Aside (cE [] w wr):=hK;have HK2:Aside (k=t.size+1->t.size<=f):=hk2;clear hfr hfo hvd hD hR hK hk2;by_cases hk:k<=t.size
    ·go_upto_region 13 with fail
     go_cut [55] (λs55 wx=>s55 = .bool (decide ((k<t.size/\t.data.toList.getD k 0≠10)\/(k=t.size/\f=k)))/\wx=wr)
     case first =>
      by_cases hkt:k<t.size
      ·have hg:t.data.toList.getD k 0=t[k]:=by rw [iV _ _ _ (by simpa using hkt)];rfl
       have HG:Aside (t.data.toList.getD k 0=t[k]):=hg;clear hg;by_cases hbt:t[k]=10
       ·have hq:(((t[k].toNat:Nat):Int) != 10)=false:=by rw [hbt];rfl
        have HB:Aside (t[k]=10):=hbt;clear hbt;have hs:((k:Int)==(t.size:Int))=false:=by rw [beq_eq_false_iff_ne];omega
        go_wp2_with fail
        go_meet
        case rel=>exact ⟨congrArg Value.bool (decide_eq_false (by rintro (⟨_,h⟩ | ⟨h,_⟩);exact h (HG.out.trans HB.out);omega)).symm,rfl⟩
       ·have hq:(((t[k].toNat:Nat):Int) != 10)=true:=by
         rw [bne_iff_ne];intro e;exact hbt (UInt8.toNat_inj.1 (by show _=10;omega))
        have HB:Aside (¬ t[k]=10):=hbt;clear hbt
        go_wp2_with fail
        go_meet
        case rel=>exact ⟨congrArg Value.bool (decide_eq_true (Or.inl ⟨hkt,λe=>HB.out (HG.out.symm.trans e)⟩)).symm,rfl⟩
      ·have hks:k=t.size:=by omega
       have hs:((k:Int)==(t.size:Int))=true:=by rw [beq_iff_eq];omega
       have HS:Aside (k=t.size):=hks;clear hks;by_cases hff:f=k
       ·have hf2:((f:Int)==(k:Int))=true:=by rw [beq_iff_eq];omega
        have HFF:Aside (f=k):=hff;clear hff
        go_wp2_with fail
        go_meet
        case rel=>exact ⟨congrArg Value.bool (decide_eq_true (Or.inr ⟨HS.out,HFF.out⟩)).symm,rfl⟩
       ·have hf2:((f:Int)==(k:Int))=false:=by rw [beq_eq_false_iff_ne];omega
        go_wp2_with fail
        go_meet
        case rel=>exact ⟨congrArg Value.bool (decide_eq_false (by rintro (⟨h,_⟩ | ⟨_,h⟩) <;> omega)).symm,rfl⟩
     case rest =>
      obtain ⟨rfl,rfl⟩:=hcut;have hdl:t.data.toList.length=t.size:=by simp
      by_cases hsk:(k<t.size/\t.data.toList.getD k 0≠10)\/(k=t.size/\f=k)
      ·have HS:Aside ((k<t.size/\t.data.toList.getD k 0≠10)\/(k=t.size/\f=k)):=hsk;rw [decide_eq_true hsk];clear hsk
       go_wp2_with fail
       go_roundw
       case rel =>
        refine ⟨f,k+1,wt,d,cs,rfl,rfl,by simp,by omega,by omega,λh => ?_,tk3 hfk HF.out λh => ?_,HO.out,HV.out,HD.out,HR.out,HK.out,hdb⟩
        ·rcases HS.out with ⟨h1,_⟩ | ⟨_,h2⟩ <;> omega
        ·rcases HS.out with ⟨_,h2⟩ | ⟨h1,_⟩
         ·exact h2
         ·omega
       case measure=>simp [intOf];omega
      ·have HS:Aside (¬ ((k<t.size/\t.data.toList.getD k 0≠10)\/(k=t.size/\f=k))):=hsk;have hfk2:f<k\/k<t.size:=by
        by_cases c:k<t.size
        ·exact .inr c
        ·left;have:¬ f=k:=λe=>hsk (.inr ⟨by omega,e⟩);omega
       rw [decide_eq_false hsk];clear hsk
       -- the line,and what is left behind it
       have hls:Wa (t.data.toList.drop f)=t.extract f k :: Wa (t.data.toList.drop (k+1)):=by
        rw [pc3];by_cases c:k<t.size
        ·have hb:t.data.toList.getD k 0=10:=by
          by_cases e:t.data.toList.getD k 0=10
          ·exact e
          ·exact absurd (Or.inl ⟨c,e⟩) HS.out
         conv=>lhs;rw [nw3 hfk (by omega) hb]
         exact aP1 _ HF.out
        ·have e1:(t.data.toList.drop f).take (k - f)=t.data.toList.drop f:=List.take_of_length_le (by rw [fD];omega);have h10:=HF.out;rw [e1] at h10 ⊢;have e3:t.data.toList.drop (k+1)=[]:=dS (by omega);rw [aAD h10,e3,aFH,if_neg];intro e;have:=congrArg List.length e;rw [fD,iW] at this;omega
       have HLS:Aside (Wa (t.data.toList.drop f)=t.extract f k :: Wa (t.data.toList.drop (k+1))):=hls;clear hls;have hz:(t.extract f k).size<=10000:=by rw [pB];omega
       obtain ⟨p1,q1⟩:=W9 ((Mt d).2 HV.out) (x:=t.extract f k) (by omega);have P1:Aside (P8 d (t.extract f k)):=p1;have Q1:Aside (DQ d (GB d (t.extract f k)) (Ai d (t.extract f k)) (RW d (t.extract f k))):=q1;clear p1 q1;have HO2:Aside ((Wa (t.data.toList.drop (k+1))).foldl Oc (Oc (d,wt) (t.extract f k))=T):=by
        have:=HO.out;rw [HLS.out,dY] at this;exact this
       generalize hln:t.extract f k=ln at *;have HLN:Aside (t.extract f k=ln):=hln;clear hln HLS;have GO:Aside (E9 wc []):=aAg hgo HK.out;have LC:Aside (cs.length=22):=HR.out.length
       go_upto_region 17 with (first
        | (refine aDV (b:=db) (cs:=cs) rfl rfl rfl HD.out LC.out ?_)
        | (go_at_call 8;rw [HLN.out];refine (dk6 _ [db] d cs ln GO.out (λx hx=>by simp only [aR,bZ,or_false] at hx;rw [hx];exact hdb) HR.out (by unfold maxLen;omega) P1.out).mono ?_;rintro e w6 ⟨cs6,lv6,rfl,k6,r6,l6⟩)
        | (refine aOR rfl rfl ?_;rintro w7 hw7;have W7:Aside (w7=w6.alloc (.cells (eF (.cons (.sl (.cons .str (.cons (.int .i64) (.cons (.int .i64) (.cons (.int .i64) .unit))))) (.cons (.cons (.int .i64) (.cons (.int .i64) (.cons (.int .i64) (.cons (.int .i64) .unit)))) (.cons (.sl (.cons (.int .i64) (.cons (.int .i64) (.cons (.int .i64) .unit)))) (.cons (.sl (.cons (.int .i64) (.cons (.int .i64) (.cons (.int .i64) .unit)))) (.cons (.cons (.int .i64) (.cons (.int .i64) (.cons (.int .i64) .unit))) (.cons (.cons (.int .i64) (.cons (.int .i64) (.cons (.int .i64) .unit))) (.cons (.sl (.cons .str (.cons (.int .i64) (.cons (.int .i64) .unit)))) (.cons (.cons (.int .i64) (.cons (.int .i64) (.cons (.int .i64) (.cons (.int .i64) .unit)))) (.cons (.sl (.cons .str (.cons (.int .i64) (.cons (.int .i64) (.cons (.int .i64) .unit))))) (.cons (.sl (.cons (.int .i64) (.cons (.int .i64) (.cons (.int .i64) .unit)))) (.cons (.sl (.cons .str (.cons (.int .i64) (.cons (.int .i64) .unit)))) (.cons (.sl (.cons .str (.cons (.int .i64) (.cons (.int .i64) .unit)))) .unit))))))))))))).toArray 44)):=hw7;clear hw7)
        | (refine aGE (b:=w6.heap.size) (cs:=cs6) (cur:=(eF (.cons (.sl (.cons .str (.cons (.int .i64) (.cons (.int .i64) (.cons (.int .i64) .unit))))) (.cons (.cons (.int .i64) (.cons (.int .i64) (.cons (.int .i64) (.cons (.int .i64) .unit)))) (.cons (.sl (.cons (.int .i64) (.cons (.int .i64) (.cons (.int .i64) .unit)))) (.cons (.sl (.cons (.int .i64) (.cons (.int .i64) (.cons (.int .i64) .unit)))) (.cons (.cons (.int .i64) (.cons (.int .i64) (.cons (.int .i64) .unit))) (.cons (.cons (.int .i64) (.cons (.int .i64) (.cons (.int .i64) .unit))) (.cons (.sl (.cons .str (.cons (.int .i64) (.cons (.int .i64) .unit)))) (.cons (.cons (.int .i64) (.cons (.int .i64) (.cons (.int .i64) (.cons (.int .i64) .unit)))) (.cons (.sl (.cons .str (.cons (.int .i64) (.cons (.int .i64) (.cons (.int .i64) .unit))))) (.cons (.sl (.cons (.int .i64) (.cons (.int .i64) (.cons (.int .i64) .unit)))) (.cons (.sl (.cons .str (.cons (.int .i64) (.cons (.int .i64) .unit)))) (.cons (.sl (.cons .str (.cons (.int .i64) (.cons (.int .i64) .unit)))) .unit))))))))))))).toArray) rfl rfl rfl rfl r6.length r6.one (by rw [W7.out];exact heap_alloc_new _ _) rfl ?_;intro w8 d8 k8 z8))
       have h67:cE [] w6 w7:=by rw [W7.out];exact (cE.refl [] w6).alloc _
       have h77:w7.heap.size=w6.heap.size+1:=by rw [W7.out];simp
       have z6:=k6.size;have h68:cE [] w6 w8:=⟨k8.os.trans h67.os,k8.tape.trans h67.tape,k8.output.trans h67.output,by omega,λi hi _=>(k8.block i (by omega) (by simp only [aR,bZ,or_false];omega)).trans (h67.block i hi (by simp))⟩;have hc8:cE [] wc w8:=k6.trans h68;have hc8s:=hc8.size;have K8:Aside (cE [] w w8):=HK.out.trans hc8;have KC:Aside (cE [] wc w8):=hc8;have D8:Aside (WV w6.heap.size cs6 w8):=d8;have E8:Aside (WV db cs w8):=HD.out.keep (hc8.block db hdb (by simp));have s68:JC [db] w6 [db] w8:=⟨h68.mono (λi hi=>by cases hi),λx hx => .inl hx⟩;have sc8:JC [db] wc [db] w8:=⟨hc8.mono (λi hi=>by cases hi),λx hx => .inl hx⟩;have R8:Aside (dW w8 (dM w8 [db]) (.cons (.sl (.cons .str (.cons (.int .i64) (.cons (.int .i64) (.cons (.int .i64) .unit))))) (.cons (.cons (.int .i64) (.cons (.int .i64) (.cons (.int .i64) (.cons (.int .i64) .unit)))) (.cons (.sl (.cons (.int .i64) (.cons (.int .i64) (.cons (.int .i64) .unit)))) (.cons (.sl (.cons (.int .i64) (.cons (.int .i64) (.cons (.int .i64) .unit)))) (.cons (.cons (.int .i64) (.cons (.int .i64) (.cons (.int .i64) .unit))) (.cons (.cons (.int .i64) (.cons (.int .i64) (.cons (.int .i64) .unit))) (.cons (.sl (.cons .str (.cons (.int .i64) (.cons (.int .i64) .unit)))) (.cons (.cons (.int .i64) (.cons (.int .i64) (.cons (.int .i64) (.cons (.int .i64) .unit)))) (.cons (.sl (.cons .str (.cons (.int .i64) (.cons (.int .i64) (.cons (.int .i64) .unit))))) (.cons (.sl (.cons (.int .i64) (.cons (.int .i64) (.cons (.int .i64) .unit)))) (.cons (.sl (.cons .str (.cons (.int .i64) (.cons (.int .i64) .unit)))) (.cons (.sl (.cons .str (.cons (.int .i64) (.cons (.int .i64) .unit)))) .unit)))))))))))) (GB d ln) cs6):=s68.keep r6
       have L8:Aside (dW w8 (dM w8 [db]) (.sl .str) (Ai d ln) [lv6]):=s68.keep l6;have HR8:Aside (dW w8 (dM w8 [db]) (.cons (.sl (.cons .str (.cons (.int .i64) (.cons (.int .i64) (.cons (.int .i64) .unit))))) (.cons (.cons (.int .i64) (.cons (.int .i64) (.cons (.int .i64) (.cons (.int .i64) .unit)))) (.cons (.sl (.cons (.int .i64) (.cons (.int .i64) (.cons (.int .i64) .unit)))) (.cons (.sl (.cons (.int .i64) (.cons (.int .i64) (.cons (.int .i64) .unit)))) (.cons (.cons (.int .i64) (.cons (.int .i64) (.cons (.int .i64) .unit))) (.cons (.cons (.int .i64) (.cons (.int .i64) (.cons (.int .i64) .unit))) (.cons (.sl (.cons .str (.cons (.int .i64) (.cons (.int .i64) .unit)))) (.cons (.cons (.int .i64) (.cons (.int .i64) (.cons (.int .i64) (.cons (.int .i64) .unit)))) (.cons (.sl (.cons .str (.cons (.int .i64) (.cons (.int .i64) (.cons (.int .i64) .unit))))) (.cons (.sl (.cons (.int .i64) (.cons (.int .i64) (.cons (.int .i64) .unit)))) (.cons (.sl (.cons .str (.cons (.int .i64) (.cons (.int .i64) .unit)))) (.cons (.sl (.cons .str (.cons (.int .i64) (.cons (.int .i64) .unit)))) .unit)))))))))))) d cs):=sc8.keep HR.out;have LC6:Aside (cs6.length=22):=R8.out.length;have O6:Aside (∀ c∈cs6,c.oneCell'=true):=R8.out.one;have hne:w6.heap.size≠db:=by omega
       have hd8:db<w8.heap.size:=by omega
       clear d8 k8 h67 h68 hc8 r6 l6 s68 sc8;have q:=Q1.out;generalize hcode:RW d ln=code at *;have HC:Aside (RW d ln=code):=hcode;clear hcode;have hws:wt.size<=3000000060000:=by
        have h1:=up3 (Wa (t.data.toList.drop f)) (d,wt);have h2:=HT2.out;rw [HO.out] at h1;have h1:wt.size<=T.2.size:=h1;omega
       have HI:Aside (In3 w w6.heap.size db (GB d ln) d cs6 cs (Ai d ln) lv6 w8):=⟨D8.out,E8.out,R8.out,L8.out,HR8.out,K8.out,hd8,by omega⟩;rcases q.2 with rfl | ⟨rfl,hvn,hone,hsame⟩
       ·have hv:Oc (d,wt) ln=(d,wt++aA #[63,10]):=by
         unfold Oc;rw [if_neg (by show ¬ RW d ln=0;rw [HC.out];decide)]
        have HW:Aside (Oc (d,wt) ln=(d,wt++aA #[63,10])):=hv;clear hv q
        go_wp2_with fail
        go_roundw
        case rel =>
         refine ⟨k+1,k+1,_,d,cs,rfl,by simp,by simp,aT _,by omega,λh=>by omega,by simp,?_,HV.out,E8.out,HR8.out,K8.out,hd8⟩;rw [<- HW.out];exact HO2.out
        case measure=>simp [intOf];omega
       ·obtain ⟨ad6,cap6,rfl,_⟩:=aAh L8.out;have hv:Oc (d,wt) ln=(GB d ln,UO wt (Ai d ln)):=by
         unfold Oc;rw [if_pos HC.out]
        have HW:Aside (Oc (d,wt) ln=(GB d ln,UO wt (Ai d ln))):=hv;have HVN:Aside (Vd (GB d ln)):=hvn;have HSM:Aside (GB d ln=d\/((Ai d ln).getD 0 aC).data.toList.head? ≠ some 101):=hsame;have HFW:Aside (Few (Ai d ln)):=q.1;have hl1:1<=(Ai d ln).length:=by
         cases ho:Ai d ln with
         | nil=>exact absurd ho hone
         | cons a r=>rw [bA];omega
        have HSV:Aside (aOU (GB d ln)=true):=aEq hvn;have GO8:Aside (E9 w8 []):=aAg hgo K8.out;clear hv q hvn hsame hone R8 L8 HR8 E8 HC D8 P1 Q1 KC HR HD;generalize GB d ln=y at *;generalize Ai d ln=ot at *;generalize hnb:w6.heap.size=nb at *;clear hnb;have hl0:(((ot.length:Nat):Int)==0)=false:=by rw [beq_eq_false_iff_ne];omega
        go_upto_if 84 with (first
         | (refine aDV (b:=nb) (cs:=cs6) rfl rfl rfl HI.out.n LC6.out ?_)
         | (go_at_call 9;refine (vs3 _ [db] y cs6 GO8.out HI.out.y).mono ?_;rintro e w9 ⟨rfl,k9⟩;rw [HSV.out]))
        have HI9:Aside (In3 w nb db y d cs6 cs ot (.slice ad6 ot.length cap6) w9):=HI.out.keep k9;clear HI k9
        go_upto_region 21 with fail
        have hrow:=WW HI9.out.l 0 (by omega);obtain ⟨b0,o0,rfl,e0,hz0⟩:=hrow;rw [lE] at e0;generalize hs0:ot.getD 0 aC=s0 at *;clear hs0;have GO9:Aside (E9 w9 []):=aAg hgo HI9.out.k
        go_cut [102] (λs102 wx=>s102 = .bool false/\cE [] w9 wx)
        case first =>
         by_cases h5:5<s0.size
         ·by_cases hst:(s0.extract 0 6).toList=[101,114,114,111,114,32]
          ·have hyd:y=d:=by
            rcases HSM.out with h | h
            ·exact h
            ·exact absurd (hd3 h5 hst) h
           have HYD:Aside (aAi y d=true):=by rw [hyd];exact aHh d
           clear hyd
           go_wp2_with (first
            | (refine aDV (b:=nb) (cs:=cs6) rfl rfl rfl HI9.out.n LC6.out ?_)
            | (refine aDV (b:=db) (cs:=cs) rfl rfl rfl HI9.out.o LC.out ?_)
            | (go_at_call 10;refine (sm3 _ [db] y d cs6 cs GO9.out HI9.out.y HI9.out.d).mono ?_;rintro e w10 ⟨rfl,k10⟩;rw [HYD.out]))
           go_meet
           case rel=>exact ⟨rfl,k10⟩
          ·go_wp2_with fail
           go_meet
           case rel=>exact ⟨rfl,cE.refl _ _⟩
         ·go_wp2_with fail
          go_meet
          case rel=>exact ⟨rfl,cE.refl _ _⟩
        case rest =>
         obtain ⟨rfl,kc⟩:=hcut;have HC9:Aside (In3 w nb db y d cs6 cs ot (.slice (some ⟨b0,o0,none⟩) ot.length cap6) wc):=HI9.out.keep kc;clear HI9 kc GO9 e0;have hfw1:=HFW.out.1;have HO3:Aside ((Wa (t.data.toList.drop (k+1))).foldl Oc (y,UO wt ot)=T):=by
          show _=T;rw [<- HW.out];exact HO2.out
         go_wp2_with fail
         go_loopw [7,14] (λs7 s14 wi=>∃ j:Nat,s7 = .string (UO wt (ot.take j))/\s14 = .int .i64 j/\j<=ot.length/\In3 w nb db y d cs6 cs ot (.slice (some ⟨b0,o0,none⟩) ot.length cap6) wi) (λ_ s14 _=>ot.length - (intOf s14).toNat)
         case atStart=>exact ⟨0,rfl,rfl,bW _,HC9.out⟩
         case round =>
          obtain ⟨j,rfl,rfl,hj,hi⟩:=hrel;have HJ:Aside (In3 w nb db y d cs6 cs ot (.slice (some ⟨b0,o0,none⟩) ot.length cap6) wr):=hi;clear hi;have hnj:=Kh wt ot HFW.out.2 j hj;by_cases hjt:j<ot.length
          ·obtain ⟨b1,o1,e1,q1,q2⟩:=WW HJ.out.l j hjt;cases e1;have HSU:Aside (UO wt (ot.take (j+1))=UO wt (ot.take j)++(ot.getD j aC++aA #[10])):=RY wt ot j hjt;have hlz:=HFW.out.2 _ (dN ot j aC hjt);generalize ot.getD j aC=l at *;generalize UO wt (ot.take j)=acc at *;have i1:(aA #[10]).size=1:=rfl
           go_wp2_with fail
           go_roundw
           case rel=>exact ⟨j+1,by rw [HSU.out],by simp,hjt,HJ.out⟩
           case measure=>simp [intOf];omega
          ·have hjn:j=ot.length:=by omega
           subst hjn;rw [gU] at hnj ⊢;have hcz:cs.toArray.size=22:=by rw [dK];exact LC.out
           go_wp2_with (first
            | (refine aDV (b:=nb) (cs:=cs6) rfl rfl rfl HJ.out.n LC6.out ?_)
            | (refine aGE (b:=db) (cs:=cs6) (cur:=cs.toArray) rfl rfl rfl rfl LC6.out O6.out HJ.out.o hcz ?_;intro w12 d12 k12 z12))
           go_roundw
           case rel =>
            have hJ:=HJ.out;have s12:JC [db] wr [db] w12:=⟨k12,λx hx => .inl hx⟩;have hlw:=hJ.ld;refine ⟨k+1,k+1,_,y,cs6,rfl,by simp,by simp,aT _,by omega,λh=>by omega,by simp,HO3.out,HVN.out,d12,s12.keep hJ.y,?_,by omega⟩;exact ⟨k12.os.trans hJ.k.os,k12.tape.trans hJ.k.tape,k12.output.trans hJ.k.output,cO hJ.k.size k12.size,λi hi _=>(k12.block i (cK hi hJ.k.size) (by simp only [aR,bZ,or_false];omega)).trans (hJ.k.block i hi (by simp))⟩
           case measure=>simp [intOf];omega
    ·have hkn:k=t.size+1:=by omega
     have hf:=HK2.out hkn;have hT:(d,wt)=T:=by
      have:=HO.out;rw [dS (by simp;omega),aFH] at this;exact this
     have hT2:T.2=wt:=by rw [<- hT]
     go_wp2_with fail
     go_ret
     exact ⟨rfl,HK.out⟩
def bMD:List AT:=[AT.v (.sl (.int .u8))]
def aXa (x0:List Int):Bool:=true
def P3 (x0:List Int):Prop:=True
def S3:Am.Spec:={ sig:=bMD,pre:=λ⟨x0,_⟩=>P3 x0,res:=λ⟨x0,_⟩=>[⟨Ty.bool,aXa x0⟩] }
theorem bME:c7 3 S3:=yB EP<|lL rfl λw ⟨x0,_⟩ vs bss hg hp hw ha=>by
 obtain ⟨v0,s0,_,_,rfl,_,⟨_,ha⟩,rfl,_⟩:=ha;have hgo:E9 w []:=⟨hg,hg.size,λb hb=>by cases hb⟩;refine ⟨λd hd => ?_,bFm w v0 x0 hgo hw.1 ha⟩;simp only [aR,bZ,or_false] at hd;subst hd;exact ⟨rfl,trivial⟩
theorem bMF (x0:List Int) (h0:Wf (.sl (.int .u8)) x0):P3 x0/\aXa x0=true:=⟨trivial,rfl⟩
end Go.Proofs.YtmhpnodnljbnjaaGreatDoor
