/- The functions that this law reaches, and their laws. -/
import Derived.Test.YtmhpnodnljbnjaaGreatDoorZ3D
import Derived.Lib.ParseIntBCases
set_option linter.unusedVariables false
set_option linter.unusedSimpArgs false
open Array renaming length_toList->cT,mk->aM3,size_push->yQ,toList->rI,toList_append->kX
open Bool renaming and_eq_true->aJ,eq_false_iff->bN,false_eq_true->dJ,not_eq_true'->cW,not_not->XY,not_true->xF,or_eq_false_iff->xZ,true_and->CG
open ByteArray renaming data->rA,data_append->pV,empty->aC,ext->Sn,mk->aA,size->aH,size_append->aS,toList->aB
open Go.Am renaming Good->dM
open Go.Am.aY renaming mk->aP
open Go.Am.cE renaming of_below->iD,refl->cI
open Go.Am.Ty renaming size->jX,str->kE
open Go.Builtin renaming append_->gD,firstCells->dZ
open Go.Instr renaming alloc->GH,loadAt->lD,storeAt->xH,sureAddr->iT
open Go.Lib renaming BuilderAtF->GV,IsBuilderF->vE,cell_of_heap->rP,decDigits->dQ,itoa->Ck,joinTail->rO,strCells->gC,strCells_length->kY,trimRightB->vD
open Go.Op renaming bytesLess->bE
open Go.Proofs.Tryz renaming func320->EJ,func375->XW,func377->XU,func401->XV,func402->XT,ntmps320->Hx,prog->aL,underlying46->nH
open Go.Result renaming andThen_ok->aW
open Go.Sem renaming run_bind->bO,run_pure->cM
open Go.Value renaming oneCell'->SL,ownBlock->GT,string->gM
open Go.World renaming cell?->fQ,cell?_alloc_new->Eh,cell?_of_block->fB,setCell->nP
open Int renaming le_refl->gA,le_trans->zF,tdiv->bM,tdiv_eq_ediv_of_nonneg->gF,tmod->c8,toNat->aE,toNat_natCast->aF,toNat_of_nonneg->yW
open List renaming append_assoc->bS,append_nil->c6,foldl_append->Bg,foldl_cons->dY,foldl_nil->SM,getD->aD,getD_eq_getElem?_getD->bL,getElem?_append_left->bV,getElem?_append_right->cH,getElem?_eq_none->eV,getElem?_eq_some_iff->bH,getElem?_map->gZ,getElem?_set->u7,length->aN,length_append->aO,length_cons->bA,length_map->eJ,length_reverse->H8,length_set->sV,length_take->cJ,map->Cs,map_append->gQ,map_cons->bP,map_nil->kM,map_toArray->Cv,mem_append->bU,mem_append_right->bF,mem_cons->aR,mem_cons_of_mem->aM,mem_cons_self->aQ,mem_map->eE,mem_nil_iff->bZ,mem_singleton->bI,not_any_eq_all_not->Cw,size_toArray->dK,take_add_one->gY,take_left->jY,take_length->gU,toArray->kL,zipWith->EK
open List.cons renaming injEq->dP
open Nat renaming le_refl->aT,le_trans->cO,lt_of_lt_of_le->cK,lt_or_ge->eK,mul_one->Nn,pow_succ->EC,sub_self->Dt,zero_add->cV,zero_le->bW
open Option renaming getD_some->Cj,toList_some->tU
open UInt8 renaming ofNat->kP,toNat->uK,toNat_ofNat'->tX
set_option maxRecDepth 100000
namespace Go.Proofs.YtmhpnodnljbnjaaGreatDoor
open Go Go.Am Go.Proofs Go.RowKit
abbrev yU:Ty := .cons (.int .i64) (.cons (.int .i64) (.cons (.int .i64) .unit))
abbrev jR:Int×Int×Int×Unit:=((0:Int),(0:Int),(0:Int),())
theorem aDy (W:World) (x0:List cU) (v:Value) (hgo:E9 W []) (ha:rS W (dM W []) (iG (.sl yU) x0) v) :
  Calls aL 66 #[v] W λe w'=>e = .returned (.bool (jV x0))/\Below W.heap.size W w':=by
 have h:=Tz.2.down rfl W (x0,()) [v] [[]] hgo trivial ⟨v,[],[],[],rfl,rfl,⟨rfl,ha⟩,rfl,rfl⟩ (by simp);refine h.mono ?_;rintro e w' ⟨rs,ubs,rbs,rfl,hk,⟨u,s,b1,bs1,cs,rfl,rfl,ho,hv,rfl,rfl⟩,_⟩;obtain ⟨ho,_⟩:=ho;have hv:cs=[u]:=hv;rw [ho] at hv;cases hv;exact ⟨rfl,hk.below⟩
theorem aO8 (W:World) (a b:Int) (hgo:E9 W []) (hp:M2 a b) (ha:cC .i64 a) (hb:cC .i64 b) :
  Calls aL 370 #[.int .i64 a,.int .i64 b] W λe w'=>e = .returned (.int .i64 (pT a b))/\Below W.heap.size W w':=by
 have h:=aCM.2.down rfl W (a,b,()) [.int .i64 a,.int .i64 b] [[],[]] hgo hp ⟨_,_,_,_,rfl,rfl,⟨rfl,rfl,ha⟩,_,_,_,_,rfl,rfl,⟨rfl,rfl,hb⟩,rfl,rfl⟩ (by simp);refine h.mono ?_;rintro e w' ⟨rs,ubs,rbs,rfl,hk,⟨u,s,b1,bs1,cs,rfl,rfl,ho,hv,rfl,rfl⟩,_⟩;obtain ⟨ho,_⟩:=ho;have hv:cs=[u]:=hv;rw [ho] at hv;cases hv;exact ⟨rfl,hk.below⟩
theorem aVG {w W:World} (h:E9 w []) (hb:Below w.heap.size w W):E9 W [] where
 inv:=h.inv.keep λb _ hs=>hb.5 b hs
 size:=cO h.size hb.4
 out:=h.out
theorem aFn {w:World} {x0:List cU} {b off:Nat} (hc:∀ j u,(pG yU x0)[j]? = some u->w.cell? ⟨b,off+j,none⟩=some u) (k:Nat) (hk:k<x0.length) :
  w.cell? ⟨b,off+(3*k+0),none⟩=some (.int .i64 (x0.getD k jR).1)/\w.cell? ⟨b,off+(3*k+1),none⟩=some (.int .i64 (x0.getD k jR).2.1)/\w.cell? ⟨b,off+(3*k+2),none⟩=some (.int .i64 (x0.getD k jR).2.2.1):=by
 have key:∀ (xs:List cU) (k:Nat),k<xs.length->(pG yU xs)[3*k+0]? = some (.int .i64 (xs.getD k jR).1)/\(pG yU xs)[3*k+1]? = some (.int .i64 (xs.getD k jR).2.1)/\(pG yU xs)[3*k+2]? = some (.int .i64 (xs.getD k jR).2.2.1):=by
  intro xs
  induction xs with
  | nil=>intro k hk;simp at hk
  | cons x r ih =>
   intro k hk;have e:pG yU (x :: r) = .int .i64 x.1 :: .int .i64 x.2.1 :: .int .i64 x.2.2.1 :: pG yU r:=rfl;rw [e];cases k with
   | zero=>exact ⟨rfl,rfl,rfl⟩
   | succ k =>
    have:=ih k (by simpa using hk);rw [show 3*(k+1)+0=3*k+0+1+1+1 by omega,show 3*(k+1)+1=3*k+1+1+1+1 by omega,show 3*(k+1)+2=3*k+2+1+1+1 by omega];simp only [List.getElem?_cons_succ,List.getD_cons_succ];exact this
 obtain ⟨a1,a2,a3⟩:=key x0 k hk;exact ⟨hc _ _ a1,hc _ _ a2,hc _ _ a3⟩
set_option maxHeartbeats 4000000 in
theorem aDz (w:World) (x0:List cU) (v:Value) (hgo:E9 w []) (hok:jV x0=false) (ha:rS w (dM w []) (iG (.sl yU) x0) v) :
  Calls aL 320 #[v] w λe w'=>e = .returned (.tuple #[.int .i64 0,.int .i64 1])/\Below w.heap.size w w':=by
 have HA:Aside (rS w (dM w []) (iG (.sl yU) x0) v):=ha;clear ha;have mixed:=mixed
 go_enter EJ,Hx
 go_wp2_with (go_at_call 66;refine (aDy _ x0 _ hgo HA.out).mono ?_)
 rintro e w1 ⟨rfl,b1⟩;rw [hok]
 go_wp2
 go_ret2
 exact ⟨rfl,b1⟩
set_option maxHeartbeats 4000000 in
theorem Qx (w:World) (x0:List cU) (ad:Option Addr) (cap:Nat) (hgo:E9 w []) (hl:x0.length<2) (hok:jV x0=true) (ha:rS w (dM w []) (iG (.sl yU) x0) (.slice ad x0.length cap)) :
  Calls aL 320 #[.slice ad x0.length cap] w λe w'=>e = .returned (.tuple #[.int .i64 0,.int .i64 3])/\Below w.heap.size w w':=by
 have HA:Aside (rS w (dM w []) (iG (.sl yU) x0) (.slice ad x0.length cap)):=ha;clear ha;have mixed:=mixed;have h2:((x0.length:Nat):Int)<2:=by omega
 go_enter EJ,Hx
 go_wp2_with (go_at_call 66;refine (aDy _ x0 _ hgo HA.out).mono ?_)
 rintro e w1 ⟨rfl,b1⟩;rw [hok]
 go_wp2
 go_ret2
 exact ⟨rfl,b1⟩
set_option maxHeartbeats 4000000 in
theorem aO9 (w:World) (x0:List cU) (b off cap:Nat) (hgo:E9 w []) (hl:2<=x0.length) (hm:x0.length<=24) (hcl:x0.length<=cap) (hcap:cap<=maxLen) (hb:b<w.heap.size) (hok:jV x0=true) (ha:rS w (dM w []) (iG (.sl yU) x0) (.slice (some ⟨b,off,none⟩) x0.length cap))
  (hc:∀ j u,(pG yU x0)[j]? = some u->w.cell? ⟨b,off+j,none⟩=some u) (hP:M2 (1000*((x0.getD (x0.length - 1) jR).2.1 - (x0.getD 0 jR).2.1)) ((x0.getD (x0.length - 1) jR).1 - (x0.getD 0 jR).1))
  (hr:0<=(x0.getD (x0.length - 1) jR).1/\(x0.getD (x0.length - 1) jR).1<=100000/\0<=(x0.getD 0 jR).1/\(x0.getD 0 jR).1<=100000/\0<=(x0.getD (x0.length - 1) jR).2.1/\(x0.getD (x0.length - 1) jR).2.1<=100000/\0<=(x0.getD 0 jR).2.1/\(x0.getD 0 jR).2.1<=100000) :
  Calls aL 320 #[.slice (some ⟨b,off,none⟩) x0.length cap] w λe w'=>e = .returned (.tuple #[.int .i64 (pT (1000*((x0.getD (x0.length - 1) jR).2.1 - (x0.getD 0 jR).2.1)) ((x0.getD (x0.length - 1) jR).1 - (x0.getD 0 jR).1)),.int .i64 0])/\Below w.heap.size w w':=by
 have HA:Aside (rS w (dM w []) (iG (.sl yU) x0) (.slice (some ⟨b,off,none⟩) x0.length cap)):=ha;obtain ⟨c1,c2,c3⟩:=aFn hc 0 (by omega);obtain ⟨d1,d2,d3⟩:=aFn hc (x0.length - 1) (by omega);have HP:Aside (M2 (1000*((x0.getD (x0.length - 1) jR).2.1 - (x0.getD 0 jR).2.1)) ((x0.getD (x0.length - 1) jR).1 - (x0.getD 0 jR).1)):=hP;clear ha hc hP;generalize x0.getD (x0.length - 1) jR=y at *;generalize x0.getD 0 jR=z at *;obtain ⟨y1,y2,y3,_⟩:=y;obtain ⟨z1,z2,z3,_⟩:=z;simp only at c1 c2 c3 d1 d2 d3 hr HP ⊢;obtain ⟨r1,r2,r3,r4,r5,r6,r7,r8⟩:=hr;have mixed:=mixed;have h2:¬ ((x0.length:Nat):Int)<2:=by omega
 go_enter EJ,Hx
 go_wp2_with (go_at_call 66;refine (aDy _ x0 _ hgo HA.out).mono ?_;rintro e w1 ⟨rfl,b1⟩;rw [hok])
 have eb:w1.heap[b]? = w.heap[b]? := b1.block b hb;replace c1:=(fB eb).trans c1;replace c2:=(fB eb).trans c2;replace c3:=(fB eb).trans c3;replace d1:=(fB eb).trans d1;replace d2:=(fB eb).trans d2;replace d3:=(fB eb).trans d3;clear eb;have hb1:b<w1.heap.size:=cK hb b1.size;rw [show off+(3*0+0)=off by omega] at c1;rw [show off+(3*0+1)=off+1 by omega] at c2;rw [show off+(3*0+2)=off+2 by omega] at c3;rw [show off+(3*(x0.length - 1)+0)=off+(x0.length - 1)*3 by omega] at d1;rw [show off+(3*(x0.length - 1)+1)=off+(x0.length - 1)*3+1 by omega] at d2;rw [show off+(3*(x0.length - 1)+2)=off+(x0.length - 1)*3+2 by omega] at d3
 go_wp2
 go_region
 all_goals go_wp2_with (go_at_call 370;refine (aO8 _ (1000*(y2 - z2)) (y1 - z1) (aVG hgo (((b1.alloc b1.size _).alloc (by have:=b1.size;show w.heap.size<=(w1.heap.push _).size;rw [yQ];omega) _).drew)) HP.out (by rw [aK];omega) (by rw [aK];omega)).mono ?_;rintro e w2 ⟨rfl,b2⟩)
 all_goals go_wp2
 all_goals go_ret2
 all_goals exact ⟨rfl,(((b1.alloc b1.size _).alloc (by have:=b1.size;show w.heap.size<=(w1.heap.push _).size;rw [yQ];omega) _).drew).trans (b2.mono (by have:=b1.size;show w.heap.size<=((w1.heap.push _).push _).size;rw [yQ,yQ];omega))⟩
def aVH:List AT:=[AT.v (.sl yU)]
def UI (x0:List cU):Int:=1000*((x0.getD (x0.length - 1) jR).2.1 - (x0.getD 0 jR).2.1)
def UJ (x0:List cU):Int:=(x0.getD (x0.length - 1) jR).1 - (x0.getD 0 jR).1
def mS (x0:List cU):Int:=if jV x0=true then (if x0.length<2 then 0 else pT (UI x0) (UJ x0)) else 0
def tM (x0:List cU):Int:=if jV x0=true then (if x0.length<2 then 3 else 0) else 1
def aKQ (x0:List cU):Prop:=jV x0=true->2<=x0.length->x0.length<=24/\M2 (UI x0) (UJ x0)/\cC .i64 (pT (UI x0) (UJ x0)) /\
 (0<=(x0.getD (x0.length - 1) jR).1/\(x0.getD (x0.length - 1) jR).1<=100000/\0<=(x0.getD 0 jR).1/\(x0.getD 0 jR).1<=100000/\0<=(x0.getD (x0.length - 1) jR).2.1/\(x0.getD (x0.length - 1) jR).2.1<=100000/\0<=(x0.getD 0 jR).2.1/\(x0.getD 0 jR).2.1<=100000)
def bCY:Am.Spec:={ sig:=aVH,pre:=λ⟨x0,_⟩=>aKQ x0,res:=λ⟨x0,_⟩=>[⟨.int .i64,mS x0⟩,⟨.int .i64,tM x0⟩] }
theorem aVI:c7 320 bCY:=yB EJ<|lL rfl λw ⟨x0,_⟩ vs bss hg hp hw ha=>by
 obtain ⟨v0,s0,_,_,rfl,_,⟨_,ha⟩,rfl,_⟩:=ha;have hgo:E9 w []:=⟨hg,hg.size,λb hb=>by cases hb⟩;obtain ⟨hwf,hml,hcase⟩:=MP (t:=yU) rfl ha;have hp:aKQ x0:=hp;have z:cC .i64 0:=by rw [aK];omega
 refine ⟨λd hd => ?_,?_⟩
 ·simp only [aR,bZ,or_false] at hd;rcases hd with rfl | rfl
  ·refine ⟨rfl,?_⟩;show cC .i64 (mS x0);unfold mS;split
   ·rename_i hv;split
    ·exact z
    ·exact (hp hv (by omega)).2.2.1
   ·exact z
  ·refine ⟨rfl,?_⟩;show cC .i64 (tM x0);unfold tM;split
   ·split
    ·rw [aK];omega
    ·exact z
   ·rw [aK];omega
 ·show Calls aL 320 #[v0] w λe w'=>e = .returned (.tuple #[.int .i64 (mS x0),.int .i64 (tM x0)])/\cE [] w w';unfold mS tM;by_cases hv:jV x0=true
  ·rw [if_pos hv,if_pos hv];by_cases h2:x0.length<2
   ·rw [if_pos h2,if_pos h2];rcases hcase with ⟨ad,rfl,rfl⟩ | ⟨b',off,cap,rfl,h3,h4,hG,hcells⟩
    ·refine (Qx w [] ad 0 hgo h2 hv ha).mono ?_;rintro e w' ⟨rfl,hb⟩;exact ⟨rfl,iD hb⟩
    ·refine (Qx w x0 _ cap hgo h2 hv ha).mono ?_;rintro e w' ⟨rfl,hb⟩;exact ⟨rfl,iD hb⟩
   ·rw [if_neg h2,if_neg h2];obtain ⟨p1,p2,p3,p4⟩:=hp hv (by omega);rcases hcase with ⟨ad,rfl,rfl⟩ | ⟨b',off,cap,rfl,h3,h4,hG,hcells⟩
    ·exact absurd (by decide:([]:List cU).length<2) h2
    ·refine (aO9 w x0 b' off cap hgo (by omega) p1 h3 h4 hG.1 hv ha hcells p2 p4).mono ?_;rintro e w' ⟨rfl,hb⟩;exact ⟨rfl,iD hb⟩
  ·rw [if_neg hv,if_neg hv];refine (aDz w x0 v0 hgo (bN.2 hv) ha).mono ?_;rintro e w' ⟨rfl,hb⟩;exact ⟨rfl,iD hb⟩
noncomputable section
noncomputable def aOA:dB:=⟨238,Tryz.f238,[.v (.sl fL),.v (.int .i64)],[.int .i64,.int .i64],[],[(66,S66),(108,p8),(320,bCY),(239,aJf)],false,[]⟩
theorem bKU:FO aOA:=mo Tryz.func238 ⟨Tz,iA,aVI,VX,trivial⟩
def aOB (v9:Int) (x1:Int) (x0:List cU):eD×bG:=([eI 1 x1,eI 6 (mS x0),eO 8 0 0 [],eI 9 v9],[some (hY.mk fL [aD x0 (aE ((x0.length:Int) - 1)) (0,0,0,())] true none (some false))])
mutual
def aGA:Nat->List cU->Int->List aY->Prop
 | 0,_,_,_=>False
 | n+1,x0,x1,ds=>(if (!jV x0)=true then (ds=[aP (.int .i64) 0,aP (.int .i64) 1]) else (if (!cD x1 0 24000)=true then (ds=[aP (.int .i64) 0,aP (.int .i64) 2]) else ((aKQ x0)/\(if (tM x0 != 0)=true then (ds=[aP (.int .i64) 0,aP (.int .i64) (tM x0)]) else ((cC .i64 ((x0.length:Int) - 1))/\((0<=(x0.length:Int) - 1)/\((x0.length:Int) - 1<(x0.length:Int))/\(BZ n (aD x0 (aE ((x0.length:Int) - 1)) (0,0,0,())).1 (x1) (x0) ds)))))))
def BZ:Nat->Int->Int->List cU->List aY->Prop
 | 0,_,_,_,_=>False
 | n+1,v9,x1,x0,ds=>(if (rV v9)=true then ((cC .i64 (v9 - (aD x0 (aE ((x0.length:Int) - 1)) (0,0,0,())).1))/\((cC .i64 (mS x0*(v9 - (aD x0 (aE ((x0.length:Int) - 1)) (0,0,0,())).1)))/\((cC .i64 (bM (mS x0*(v9 - (aD x0 (aE ((x0.length:Int) - 1)) (0,0,0,())).1)) 1000))/\((cC .i64 ((aD x0 (aE ((x0.length:Int) - 1)) (0,0,0,())).2.1+bM (mS x0*(v9 - (aD x0 (aE ((x0.length:Int) - 1)) (0,0,0,())).1)) 1000))/\(if (decide ((aD x0 (aE ((x0.length:Int) - 1)) (0,0,0,())).2.1+bM (mS x0*(v9 - (aD x0 (aE ((x0.length:Int) - 1)) (0,0,0,())).1)) 1000>=x1))=true then (ds=[aP (.int .i64) v9,aP (.int .i64) 0]) else ((cC .i64 (v9+1))/\(BZ n (v9+1) (x1) (x0) ds))))))) else (ds=[aP (.int .i64) 0,aP (.int .i64) 3]))
end
theorem aVJ (ds:List aY) (K:jK) (q:Nat->Value):∀ n,(∀ {x0 x1},aGA n x0 x1 ds->St aOA (x0,x1,()) ds [] K q)/\(∀ {v9 x1 x0},BZ n v9 x1 x0 ds->Cu aOA 10 (aOB v9 x1 x0) ds [] K q):=by
 intro n
 induction n with
 | zero=>exact ⟨λh=>h.elim,λh=>h.elim⟩
 | succ n ih =>
 obtain ⟨i,i10⟩:=ih;exact ⟨λh=>tv<|bR h (λh=>rh h) λh=>tv<|bR h (λh=>rh h) λh=>c1 h λh=>bR h (λh=>rh h) λh=>c1 h λh=>c2 h λh=>jp (i10 h),
  λ{v9} {x1} {x0} h=>tv<|bR h (λh=>c1 h λh=>c1 h λh=>tP ((by decide):(1000:Int)≠(0:Int))<|c1 h λh=>c1 h λh=>bR h (λh=>rh h) λh=>c1 h λh=>jp (i10 h)) λh=>rh h⟩
abbrev bCZ:Int×Int×Int×Unit:=((0:Int),(0:Int),(0:Int),())
def oH (x0:List cU):Int×Int×Int×Unit:=x0.getD (aE ((x0.length:Int) - 1)) bCZ
def oB (x0:List cU) (d:Int):Int:=(oH x0).2.1+bM (mS x0*(d - (oH x0).1)) 1000
def kT (x0:List cU) (x1:Int):Nat->Int->Int
 | 0,_ => -1
 | k+1,d=>if oB x0 d>=x1 then d else kT x0 x1 k (d+1)
def aD0 (x0:List cU) (x1:Int):Int:=kT x0 x1 (36525 - (oH x0).1).toNat (oH x0).1
def Bw (x0:List cU) (x1:Int):Int:=if jV x0=true then (if cD x1 0 24000=true then (if tM x0=0 then (if aD0 x0 x1<0 then 0 else aD0 x0 x1) else 0) else 0) else 0
def Ix (x0:List cU) (x1:Int):Int:=if jV x0=true then (if cD x1 0 24000=true then (if tM x0=0 then (if aD0 x0 x1<0 then 3 else 0) else tM x0) else 2) else 1
def UK (x0:List cU):Prop:=1<=x0.length/\x0.length<=24/\(0<=(oH x0).1/\(oH x0).1<=36524)/\(0<=(oH x0).2.1/\(oH x0).2.1<=24000)/\(0<=mS x0/\mS x0<=30000000)
def aOC (x0:List cU) (x1:Int):Prop:=aKQ x0/\(jV x0=true->tM x0=0->UK x0)
theorem aVK {a b:Int} (ha:0<=a/\a<=30000000) (hb:0<=b/\b<=36524):0<=a*b/\a*b<=1095720000000/\0<=bM (a*b) 1000/\bM (a*b) 1000<=1095720000:=by
 have h1:0<=a*b:=Int.mul_nonneg ha.1 hb.1;have h2:a*b<=30000000*36524:=Int.mul_le_mul ha.2 hb.2 hb.1 (by decide);rw [gF h1];generalize a*b=z at *;omega
theorem aVL {x0:List cU} {x1:Int} (hb:UK x0):∀ (k:Nat) (d:Int),(oH x0).1<=d->d+k=36525 ->
  BZ (k+1) d x1 x0 [⟨.int .i64,if kT x0 x1 k d<0 then 0 else kT x0 x1 k d⟩,⟨.int .i64,if kT x0 x1 k d<0 then 3 else 0⟩]:=by
 obtain ⟨hl,hm,⟨a1,a2⟩,⟨b1,b2⟩,hg⟩:=hb;intro k
 induction k with
 | zero =>
  intro d hd hk;have e:¬ rV d=true:=by
   unfold rV cD;rw [if_pos (by simp only [decide_eq_true_eq];omega)];simp only [decide_eq_true_eq];omega
  rw [BZ,if_neg e];rfl
 | succ k ih =>
  intro d hd hk;have e:rV d=true:=by
   unfold rV cD;rw [if_pos (by simp only [decide_eq_true_eq];omega)];simp only [decide_eq_true_eq];omega
  obtain ⟨m1,m2,m3,m4⟩:=aVK hg (b:=d - (oH x0).1) (by omega);have hr:BZ (k+1+1) d x1 x0 [⟨.int .i64,if kT x0 x1 (k+1) d<0 then 0 else kT x0 x1 (k+1) d⟩,⟨.int .i64,if kT x0 x1 (k+1) d<0 then 3 else 0⟩]=((cC .i64 (d - (oH x0).1))/\((cC .i64 (mS x0*(d - (oH x0).1)))/\((cC .i64 (bM (mS x0*(d - (oH x0).1)) 1000))/\((cC .i64 (oB x0 d))/\(if decide (oB x0 d>=x1)=true then ([⟨.int .i64,if kT x0 x1 (k+1) d<0 then 0 else kT x0 x1 (k+1) d⟩,⟨.int .i64,if kT x0 x1 (k+1) d<0 then 3 else 0⟩]=([⟨.int .i64,d⟩,⟨.int .i64,0⟩]:List aY)) else ((cC .i64 (d+1))/\(BZ (k+1) (d+1) x1 x0 [⟨.int .i64,if kT x0 x1 (k+1) d<0 then 0 else kT x0 x1 (k+1) d⟩,⟨.int .i64,if kT x0 x1 (k+1) d<0 then 3 else 0⟩]))))))):=by
   rw [BZ,if_pos e];rfl
  rw [hr];have hv:cC .i64 (oB x0 d):=by
   unfold oB;rw [aK];generalize bM (mS x0*(d - (oH x0).1)) 1000=z at *;omega
  refine ⟨by rw [aK];omega,by rw [aK];omega,by rw [aK];omega,hv,?_⟩;have ef:kT x0 x1 (k+1) d=if oB x0 d>=x1 then d else kT x0 x1 k (d+1):=rfl
  by_cases h:oB x0 d>=x1
  ·rw [if_pos h] at ef;rw [if_pos (decide_eq_true h),ef,if_neg (by omega),if_neg (by omega)]
  ·rw [if_neg h] at ef;rw [if_neg (by simpa using h),ef];exact ⟨by rw [aK];omega,ih (d+1) (by omega) (by omega)⟩
theorem aVM (x0:List cU) (x1:Int) (hp:aOC x0 x1):∃ n,aGA n x0 x1 [⟨.int .i64,Bw x0 x1⟩,⟨.int .i64,Ix x0 x1⟩]:=by
 obtain ⟨p13,hB⟩:=hp;unfold Bw Ix;cases hv:jV x0 with
 | false =>
  refine ⟨0+1,?_⟩;rw [aGA,hv,if_pos (by rfl),if_neg (by decide),if_neg (by decide)]
 | true =>
  have hB:=hB hv;cases hw:cD x1 0 24000 with
  | false =>
   refine ⟨0+1,?_⟩;rw [aGA,hv,if_neg (by decide),hw,if_pos (by rfl)];rfl
  | true =>
   by_cases h4:tM x0=0
   ·obtain ⟨hl,hm,⟨a1,a2⟩,hrest⟩:=hB h4;have hk:=aVL (x1:=x1) (hB h4) (36525 - (oH x0).1).toNat (oH x0).1 (gA _) (by omega);refine ⟨(36525 - (oH x0).1).toNat+1+1,?_⟩;rw [aGA,hv,if_neg (by decide),hw,if_neg (by decide),if_neg (by rw [h4];decide),if_pos rfl,if_pos rfl,if_pos h4,if_pos rfl,if_pos rfl,if_pos h4];exact ⟨p13,by rw [aK];omega,by omega,by omega,hk⟩
   ·refine ⟨0+1,?_⟩;rw [aGA,hv,if_neg (by decide),hw,if_neg (by decide),if_pos (by simpa using h4),if_pos rfl,if_pos rfl,if_neg h4,if_pos rfl,if_pos rfl,if_neg h4];exact ⟨p13,rfl⟩
def bDa:=dR aOA (λ⟨x0,x1,_⟩=>aOC x0 x1) λ⟨x0,x1,_⟩=>[⟨.int .i64,Bw x0 x1⟩,⟨.int .i64,Ix x0 x1⟩]
theorem aVN:c7 238 bDa:=dF bKU (λ⟨x0,x1,_⟩ h hwf K q =>
 let ⟨n,hn⟩:=aVM x0 x1 h
 (aVJ _ K q n).1 hn)
noncomputable def bDb:dB:=⟨158,Tryz.f158,[.v (.sl fL),.v (.int .i64),.v (.int .i64)],[.int .i64,.int .i64],[],[(66,S66),(108,p8),(238,bDa)],false,[]⟩
theorem bKV:FO bDb:=mo Tryz.func158 ⟨Tz,iA,aVN,trivial⟩
def aOD (x0:List cU) (x1:Int) (x2:Int):Prop:=(if (!jV x0)=true then True else (if (!cD x1 0 24000)=true then True else (if (!cD x2 1 1000)=true then True else (if ((x0.length:Int)==0)=true then True else ((cC .i64 ((x0.length:Int) - 1))/\((0<=(x0.length:Int) - 1)/\((x0.length:Int) - 1<(x0.length:Int))/\((cC .i64 ((aD x0 (aE ((x0.length:Int) - 1)) (0,0,0,())).1+x2))/\((aOC x0 x1)/\True))))))))
def aD1 (x0:List cU) (x1:Int) (x2:Int):Int:=(if (!jV x0)=true then 0 else (if (!cD x1 0 24000)=true then 0 else (if (!cD x2 1 1000)=true then 0 else (if ((x0.length:Int)==0)=true then 0 else (if (Ix x0 x1==0)=true then if Bw x0 x1<if (aD x0 (aE ((x0.length:Int) - 1)) (0,0,0,())).1+x2<36524 then (aD x0 (aE ((x0.length:Int) - 1)) (0,0,0,())).1+x2 else 36524 then Bw x0 x1 else if (aD x0 (aE ((x0.length:Int) - 1)) (0,0,0,())).1+x2<36524 then (aD x0 (aE ((x0.length:Int) - 1)) (0,0,0,())).1+x2 else 36524 else if (aD x0 (aE ((x0.length:Int) - 1)) (0,0,0,())).1+x2<36524 then (aD x0 (aE ((x0.length:Int) - 1)) (0,0,0,())).1+x2 else 36524)))))
def aKR (x0:List cU) (x1:Int) (x2:Int):Int:=(if (!jV x0)=true then 1 else (if (!cD x1 0 24000)=true then 2 else (if (!cD x2 1 1000)=true then 2 else (if ((x0.length:Int)==0)=true then 3 else (if (Ix x0 x1==0)=true then 0 else 0)))))
def bDc:=dR bDb (λ⟨x0,x1,x2,_⟩=>aOD x0 x1 x2) λ⟨x0,x1,x2,_⟩=>[⟨.int .i64,aD1 x0 x1 x2⟩,⟨.int .i64,aKR x0 x1 x2⟩]
theorem aVO:c7 158 bDc:=dF bKV λ⟨x0,x1,x2,_⟩ h _ K q=>tv<|o3 h (λh=>rt) λh=>tv<|o3 h (λh=>tT<|rt) λh=>tv<|o3 h (λh=>rt) λh=>o3 h (λh=>rt) λh=>c1 h λh=>c2 h λh=>c1 h λh=>c1 h λh=>e2 (rt) (rt)
end
def aVP:List AT:=[AT.v kE,AT.v kE]
def aD2 (x0 x1:ByteArray):ByteArray:=⟨(vD x0.data.toList (x1.data.toList.getD 0 0)).toArray⟩
def aVQ (x0 x1:ByteArray):Prop:=∃ c:UInt8,x1=⟨#[c]⟩/\c.toNat<128
def bDd:Am.Spec:={ sig:=aVP,pre:=λ⟨x0,x1,_⟩=>aVQ x0 x1,res:=λ⟨x0,x1,_⟩=>[⟨kE,aD2 x0 x1⟩] }
theorem aVR (l:List UInt8) (c:UInt8):(vD l c).length<=l.length:=by
 unfold vD
 first
 | (rw [H8];exact cO (List.dropWhile_sublist _).length_le (by rw [H8];exact aT _))
 | (simp;done)
theorem aVS:c7 326 bDd:=yB Tryz.func326<|lL rfl λw ⟨x0,x1,_⟩ vs bss hg hp hw ha=>by
 obtain ⟨v0,s0,_,_,rfl,_,⟨_,rfl,_⟩,v1,s1,_,_,rfl,_,⟨_,rfl,_⟩,rfl,_⟩:=ha;have hi:x0.size<=maxLen:=hw.1;obtain ⟨c,rfl,hc⟩:=hp;refine ⟨λd hd => ?_,?_⟩
 ·rw [bI.1 hd];refine ⟨rfl,?_⟩;show (kL _).size<=maxLen;rw [dK];have e:x0.data.toList.length=x0.size:=rfl;have:=aVR x0.data.toList c;show (vD x0.data.toList c).length<=maxLen;omega
 ·refine (Tryz.strings_TrimRight_one x0 c hc w hi).mono ?_;rintro e w' ⟨rfl,rfl⟩;exact ⟨rfl,cI _ _⟩
noncomputable section
noncomputable def bDe:dB:=⟨412,Tryz.f412,[.v (.int .u8)],[.bool],[],[],false,[]⟩
theorem bKW:FO bDe:=mo Tryz.func412 trivial
def bKX (x0:Int):Prop:=True
def Qy (x0:Int):Bool:=(if (decide (x0<32))=true then true else decide (x0>126))
def aVT:=dR bDe (λ⟨x0,_⟩=>bKX x0) λ⟨x0,_⟩=>[⟨.bool,Qy x0⟩]
theorem aKS:c7 412 aVT:=dF bKW λ⟨x0,_⟩ h _ K q=>e1 (rt) (rt)
noncomputable def K7:dB:=⟨402,Tryz.f402,[.v (.sl (.int .u8)),.fn 412 []],[.int .i64],[],[(412,aVT)],false,[]⟩
theorem aKT:FO K7:=mo XT ⟨aKS,trivial⟩
def aD3 (v8:Int) (x0:List Int):eD×bG:=([eL 0 (.int .u8) x0,(1,PV.fn 412 []),eI 7 (x0.length:Int),eI 8 v8],[])
mutual
def Qz:Nat->List Int->List aY->Prop
 | 0,_,_=>False
 | n+1,x0,ds=>(tN n (0) (x0) ds)
def tN:Nat->Int->List Int->List aY->Prop
 | 0,_,_,_=>False
 | n+1,v8,x0,ds=>(if (decide (v8<(x0.length:Int)))=true then ((0<=v8)/\(v8<(x0.length:Int))/\(if (Qy (aD x0 (aE v8) 0))=true then (ds=[aP (.int .i64) v8]) else ((cC .i64 (v8+1))/\(tN n (v8+1) (x0) ds)))) else (ds=[aP (.int .i64) (-1)]))
end
theorem aD4 (ds:List aY) (K:jK) (q:Nat->Value):∀ n,(∀ {x0},Qz n x0 ds->St K7 (x0,(),()) ds [] K q)/\(∀ {v8 x0},tN n v8 x0 ds->Cu K7 2 (aD3 v8 x0) ds [] K q):=by
 intro n
 induction n with
 | zero=>exact ⟨λh=>h.elim,λh=>h.elim⟩
 | succ n ih =>
 obtain ⟨i,i2⟩:=ih;exact ⟨λh=>jp (i2 h),
  λh=>bR h (λh=>c2 h λh=>tv<|bR h (λh=>rh h) λh=>c1 h λh=>jp (i2 h)) λh=>rh h⟩
def Dh (x0:List (Int)):Int:=X0 (x0.findIdx? Qy)
def aKU (x0:List (Int)):Prop:=True
theorem aD5 (x0:List (Int)) (hm:x0.length<=maxLen):Qz (x0.length+1+1) x0 [⟨.int .i64,Dh x0⟩]:=by
 rw [Qz];have key:=kJ x0 (0:Int) Qy [(⟨.int .i64, -1⟩:aY)] (λk=>[⟨.int .i64,k⟩]) (λn i ds=>tN n i x0 ds) (λn => ?_) (λn i hi hok ds hr => ?_) (λn i hi hok => ?_)
 ·unfold Dh;cases h:x0.findIdx? Qy <;> rw [h] at key <;> exact key
 ·rw [tN,if_neg (by simp)]
 ·rw [tN,if_pos (by simp;omega)];simp only [aF];refine ⟨by omega,by omega,?_⟩;rw [if_neg (by rw [hok];simp)];exact ⟨fC hm hi,hr⟩
 ·rw [tN,if_pos (by simp;omega)];simp only [aF];refine ⟨by omega,by omega,?_⟩;rw [if_pos hok] <;> trivial
def Zo:=dR K7 (λ⟨x0,_⟩=>aKU x0) λ⟨x0,_⟩=>[⟨.int .i64,Dh x0⟩]
theorem aD6:c7 402 Zo:=dF aKT (λ⟨x0,_⟩ h hwf K q =>
 (aD4 _ K q _).1 (aD5 x0 hwf.1.1))
noncomputable def Zp:dB:=⟨377,Tryz.f377,[.v (.sl (.int .u8)),.fn 412 []],[.bool],[],[(402,Zo),(412,aVT)],false,[]⟩
theorem aKV:FO Zp:=mo XU ⟨aD6,aKS,trivial⟩
def aKW (x0:List Int):Prop:=True
def RA (x0:List Int):Bool:=decide (Dh x0>=0)
def Zq:=dR Zp (λ⟨x0,_⟩=>aKW x0) λ⟨x0,_⟩=>[⟨.bool,RA x0⟩]
theorem aD7:c7 377 Zq:=dF aKV λ⟨x0,_⟩ h _ K q=>tv<|rt
noncomputable def bDf:dB:=⟨407,Tryz.f407,[.v (.str)],[.bool],[],[(377,Zq)],false,[]⟩
theorem bKY:FO bDf:=mo Tryz.func407 ⟨aD7,trivial⟩
def bKZ (x0:ByteArray):Prop:=True
def WN (x0:ByteArray):Bool:=(if (decide ((↑(aH x0):Int)<=100))=true then !RA (cY x0) else false)
def bDg:=dR bDf (λ⟨x0,_⟩=>bKZ x0) λ⟨x0,_⟩=>[⟨.bool,WN x0⟩]
theorem aVU:c7 407 bDg:=dF bKY λ⟨x0,_⟩ h _ K q=>e1 (tv<|rt) (rt)
noncomputable def bDh:dB:=⟨406,Tryz.f406,[.v (.str)],[.bool],[],[(407,bDg)],false,[]⟩
theorem bLa:FO bDh:=mo Tryz.func406 ⟨aVU,trivial⟩
def bLb (x0:ByteArray):Prop:=True
def Fz (x0:ByteArray):Bool := !WN x0
def aVV:=dR bDh (λ⟨x0,_⟩=>bLb x0) λ⟨x0,_⟩=>[⟨.bool,Fz x0⟩]
theorem aKX:c7 406 aVV:=dF bLa λ⟨x0,_⟩ h _ K q=>tv<|rt
noncomputable def K9:dB:=⟨401,Tryz.f401,[.v (.sl .str),.fn 406 []],[.int .i64],[],[(406,aVV)],false,[]⟩
theorem aKY:FO K9:=mo XV ⟨aKX,trivial⟩
def aD8 (v8:Int) (x0:List ByteArray):eD×bG:=([eL 0 .str x0,(1,PV.fn 406 []),eI 7 (x0.length:Int),eI 8 v8],[])
mutual
def RB:Nat->List ByteArray->List aY->Prop
 | 0,_,_=>False
 | n+1,x0,ds=>(tO n (0) (x0) ds)
def tO:Nat->Int->List ByteArray->List aY->Prop
 | 0,_,_,_=>False
 | n+1,v8,x0,ds=>(if (decide (v8<(x0.length:Int)))=true then ((0<=v8)/\(v8<(x0.length:Int))/\(if (Fz (aD x0 (aE v8) aC))=true then (ds=[aP (.int .i64) v8]) else ((cC .i64 (v8+1))/\(tO n (v8+1) (x0) ds)))) else (ds=[aP (.int .i64) (-1)]))
end
theorem aD9 (ds:List aY) (K:jK) (q:Nat->Value):∀ n,(∀ {x0},RB n x0 ds->St K9 (x0,(),()) ds [] K q)/\(∀ {v8 x0},tO n v8 x0 ds->Cu K9 2 (aD8 v8 x0) ds [] K q):=by
 intro n
 induction n with
 | zero=>exact ⟨λh=>h.elim,λh=>h.elim⟩
 | succ n ih =>
 obtain ⟨i,i2⟩:=ih;exact ⟨λh=>jp (i2 h),
  λh=>bR h (λh=>c2 h λh=>tv<|bR h (λh=>rh h) λh=>c1 h λh=>jp (i2 h)) λh=>rh h⟩
def wT (x0:List (ByteArray)):Int:=X0 (x0.findIdx? Fz)
def aKZ (x0:List (ByteArray)):Prop:=True
theorem aDA (x0:List (ByteArray)) (hm:x0.length<=maxLen):RB (x0.length+1+1) x0 [⟨.int .i64,wT x0⟩]:=by
 rw [RB];have key:=kJ x0 aC Fz [(⟨.int .i64, -1⟩:aY)] (λk=>[⟨.int .i64,k⟩]) (λn i ds=>tO n i x0 ds) (λn => ?_) (λn i hi hok ds hr => ?_) (λn i hi hok => ?_)
 ·unfold wT;cases h:x0.findIdx? Fz <;> rw [h] at key <;> exact key
 ·rw [tO,if_neg (by simp)]
 ·rw [tO,if_pos (by simp;omega)];simp only [aF];refine ⟨by omega,by omega,?_⟩;rw [if_neg (by rw [hok];simp)];exact ⟨fC hm hi,hr⟩
 ·rw [tO,if_pos (by simp;omega)];simp only [aF];refine ⟨by omega,by omega,?_⟩;rw [if_pos hok] <;> trivial
def Zr:=dR K9 (λ⟨x0,_⟩=>aKZ x0) λ⟨x0,_⟩=>[⟨.int .i64,wT x0⟩]
theorem aDB:c7 401 Zr:=dF aKY (λ⟨x0,_⟩ h hwf K q =>
 (aD9 _ K q _).1 (aDA x0 hwf.1.1))
theorem aDC (x0:List (ByteArray)):decide (wT x0>=0)=x0.any Fz:=by
 have:=qG Fz x0;unfold wT;cases h:x0.any Fz with
 | true=>rw [h] at this;simpa using this
 | false=>rw [h] at this;simpa using this
noncomputable def Zs:dB:=⟨375,Tryz.f375,[.v (.sl .str),.fn 406 []],[.bool],[],[(401,Zr),(406,aVV)],false,[]⟩
theorem aLa:FO Zs:=mo XW ⟨aDB,aKX,trivial⟩
def aLb (x0:List ByteArray):Prop:=True
def Iy (x0:List ByteArray):Bool:=decide (wT x0>=0)
def Zt:=dR Zs (λ⟨x0,_⟩=>aLb x0) λ⟨x0,_⟩=>[⟨.bool,Iy x0⟩]
theorem aDD:c7 375 Zt:=dF aLa λ⟨x0,_⟩ h _ K q=>tv<|rt
noncomputable def bDi:dB:=⟨383,Tryz.f383,[.v (.sl .str)],[.bool],[],[(375,Zt)],false,[]⟩
theorem bLc:FO bDi:=mo Tryz.func383 ⟨aDD,trivial⟩
def bLd (x0:List ByteArray):Prop:=True
def WO (x0:List ByteArray):Bool:=(if (decide ((x0.length:Int)<=200))=true then !Iy x0 else false)
def bDj:=dR bDi (λ⟨x0,_⟩=>bLd x0) λ⟨x0,_⟩=>[⟨.bool,WO x0⟩]
theorem aVW:c7 383 bDj:=dF bLc λ⟨x0,_⟩ h _ K q=>e1 (tv<|rt) (rt)
noncomputable def bDk:dB:=⟨327,Tryz.f327,[.own .str],[.sl .str,.int .i64],[],[(383,bDj)],false,[]⟩
theorem bLe:FO bDk:=mo Tryz.func327 ⟨aVW,trivial⟩
def bLf (x0:List ByteArray):Prop:=True
def Mf (x0:List ByteArray):List ByteArray:=(if (!WO x0)=true then [] else x0)
def WP (x0:List ByteArray):Int:=(if (!WO x0)=true then 5 else 0)
def bDl:=wD bDk (λ⟨x0,_⟩=>bLf x0) (λ⟨x0,_⟩=>[none]) λ⟨x0,_⟩=>[⟨.sl .str,Mf x0⟩,⟨.int .i64,WP x0⟩]
theorem aVX:c7 327 bDl:=dF bLe λ⟨x0,_⟩ h _ K q=>tv<|e2 (rt) (rt)
noncomputable def bDm:dB:=⟨378,Tryz.f378,[.v (.int .u8)],[.bool],[],[],false,[]⟩
theorem bLg:FO bDm:=mo Tryz.func378 trivial
def bLh (x0:Int):Prop:=True
def RC (x0:Int):Bool:=(if (decide (x0<33))=true then true else decide (x0>126))
def aVY:=dR bDm (λ⟨x0,_⟩=>bLh x0) λ⟨x0,_⟩=>[⟨.bool,RC x0⟩]
theorem aLc:c7 378 aVY:=dF bLg λ⟨x0,_⟩ h _ K q=>e1 (rt) (rt)
noncomputable def Ka:dB:=⟨402,Tryz.f402,[.v (.sl (.int .u8)),.fn 378 []],[.int .i64],[],[(378,aVY)],false,[]⟩
theorem aLd:FO Ka:=mo XT ⟨aLc,trivial⟩
def aDE (v8:Int) (x0:List Int):eD×bG:=([eL 0 (.int .u8) x0,(1,PV.fn 378 []),eI 7 (x0.length:Int),eI 8 v8],[])
mutual
def RD:Nat->List Int->List aY->Prop
 | 0,_,_=>False
 | n+1,x0,ds=>(tQ n (0) (x0) ds)
def tQ:Nat->Int->List Int->List aY->Prop
 | 0,_,_,_=>False
 | n+1,v8,x0,ds=>(if (decide (v8<(x0.length:Int)))=true then ((0<=v8)/\(v8<(x0.length:Int))/\(if (RC (aD x0 (aE v8) 0))=true then (ds=[aP (.int .i64) v8]) else ((cC .i64 (v8+1))/\(tQ n (v8+1) (x0) ds)))) else (ds=[aP (.int .i64) (-1)]))
end
theorem aDF (ds:List aY) (K:jK) (q:Nat->Value):∀ n,(∀ {x0},RD n x0 ds->St Ka (x0,(),()) ds [] K q)/\(∀ {v8 x0},tQ n v8 x0 ds->Cu Ka 2 (aDE v8 x0) ds [] K q):=by
 intro n
 induction n with
 | zero=>exact ⟨λh=>h.elim,λh=>h.elim⟩
 | succ n ih =>
 obtain ⟨i,i2⟩:=ih;exact ⟨λh=>jp (i2 h),
  λh=>bR h (λh=>c2 h λh=>tv<|bR h (λh=>rh h) λh=>c1 h λh=>jp (i2 h)) λh=>rh h⟩
def Di (x0:List (Int)):Int:=X0 (x0.findIdx? RC)
def aLe (x0:List (Int)):Prop:=True
theorem aDG (x0:List (Int)) (hm:x0.length<=maxLen):RD (x0.length+1+1) x0 [⟨.int .i64,Di x0⟩]:=by
 rw [RD];have key:=kJ x0 (0:Int) RC [(⟨.int .i64, -1⟩:aY)] (λk=>[⟨.int .i64,k⟩]) (λn i ds=>tQ n i x0 ds) (λn => ?_) (λn i hi hok ds hr => ?_) (λn i hi hok => ?_)
 ·unfold Di;cases h:x0.findIdx? RC <;> rw [h] at key <;> exact key
 ·rw [tQ,if_neg (by simp)]
 ·rw [tQ,if_pos (by simp;omega)];simp only [aF];refine ⟨by omega,by omega,?_⟩;rw [if_neg (by rw [hok];simp)];exact ⟨fC hm hi,hr⟩
 ·rw [tQ,if_pos (by simp;omega)];simp only [aF];refine ⟨by omega,by omega,?_⟩;rw [if_pos hok] <;> trivial
def Zu:=dR Ka (λ⟨x0,_⟩=>aLe x0) λ⟨x0,_⟩=>[⟨.int .i64,Di x0⟩]
theorem aDH:c7 402 Zu:=dF aLd (λ⟨x0,_⟩ h hwf K q =>
 (aDF _ K q _).1 (aDG x0 hwf.1.1))
noncomputable def Zv:dB:=⟨377,Tryz.f377,[.v (.sl (.int .u8)),.fn 378 []],[.bool],[],[(402,Zu),(378,aVY)],false,[]⟩
theorem aLf:FO Zv:=mo XU ⟨aDH,aLc,trivial⟩
def aLg (x0:List Int):Prop:=True
def RE (x0:List Int):Bool:=decide (Di x0>=0)
def Zw:=dR Zv (λ⟨x0,_⟩=>aLg x0) λ⟨x0,_⟩=>[⟨.bool,RE x0⟩]
theorem aDI:c7 377 Zw:=dF aLf λ⟨x0,_⟩ h _ K q=>tv<|rt
noncomputable def bDn:dB:=⟨376,Tryz.f376,[.v (.str)],[.bool],[],[(377,Zw)],false,[]⟩
theorem bLi:FO bDn:=mo Tryz.func376 ⟨aDI,trivial⟩
def bLj (x0:ByteArray):Prop:=True
def RF (x0:ByteArray):Bool:=RE (cY x0)
def aVZ:=dR bDn (λ⟨x0,_⟩=>bLj x0) λ⟨x0,_⟩=>[⟨.bool,RF x0⟩]
theorem aLh:c7 376 aVZ:=dF bLi λ⟨x0,_⟩ h _ K q=>tv<|rt
noncomputable def Kb:dB:=⟨401,Tryz.f401,[.v (.sl .str),.fn 376 []],[.int .i64],[],[(376,aVZ)],false,[]⟩
theorem aLi:FO Kb:=mo XV ⟨aLh,trivial⟩
def aDJ (v8:Int) (x0:List ByteArray):eD×bG:=([eL 0 .str x0,(1,PV.fn 376 []),eI 7 (x0.length:Int),eI 8 v8],[])
mutual
def RG:Nat->List ByteArray->List aY->Prop
 | 0,_,_=>False
 | n+1,x0,ds=>(tR n (0) (x0) ds)
def tR:Nat->Int->List ByteArray->List aY->Prop
 | 0,_,_,_=>False
 | n+1,v8,x0,ds=>(if (decide (v8<(x0.length:Int)))=true then ((0<=v8)/\(v8<(x0.length:Int))/\(if (RF (aD x0 (aE v8) aC))=true then (ds=[aP (.int .i64) v8]) else ((cC .i64 (v8+1))/\(tR n (v8+1) (x0) ds)))) else (ds=[aP (.int .i64) (-1)]))
end
theorem aDK (ds:List aY) (K:jK) (q:Nat->Value):∀ n,(∀ {x0},RG n x0 ds->St Kb (x0,(),()) ds [] K q)/\(∀ {v8 x0},tR n v8 x0 ds->Cu Kb 2 (aDJ v8 x0) ds [] K q):=by
 intro n
 induction n with
 | zero=>exact ⟨λh=>h.elim,λh=>h.elim⟩
 | succ n ih =>
 obtain ⟨i,i2⟩:=ih;exact ⟨λh=>jp (i2 h),
  λh=>bR h (λh=>c2 h λh=>tv<|bR h (λh=>rh h) λh=>c1 h λh=>jp (i2 h)) λh=>rh h⟩
def Dj (x0:List (ByteArray)):Int:=X0 (x0.findIdx? RF)
def aLj (x0:List (ByteArray)):Prop:=True
theorem aDL (x0:List (ByteArray)) (hm:x0.length<=maxLen):RG (x0.length+1+1) x0 [⟨.int .i64,Dj x0⟩]:=by
 rw [RG];have key:=kJ x0 aC RF [(⟨.int .i64, -1⟩:aY)] (λk=>[⟨.int .i64,k⟩]) (λn i ds=>tR n i x0 ds) (λn => ?_) (λn i hi hok ds hr => ?_) (λn i hi hok => ?_)
 ·unfold Dj;cases h:x0.findIdx? RF <;> rw [h] at key <;> exact key
 ·rw [tR,if_neg (by simp)]
 ·rw [tR,if_pos (by simp;omega)];simp only [aF];refine ⟨by omega,by omega,?_⟩;rw [if_neg (by rw [hok];simp)];exact ⟨fC hm hi,hr⟩
 ·rw [tR,if_pos (by simp;omega)];simp only [aF];refine ⟨by omega,by omega,?_⟩;rw [if_pos hok] <;> trivial
def Zx:=dR Kb (λ⟨x0,_⟩=>aLj x0) λ⟨x0,_⟩=>[⟨.int .i64,Dj x0⟩]
theorem aDM:c7 401 Zx:=dF aLi (λ⟨x0,_⟩ h hwf K q =>
 (aDK _ K q _).1 (aDL x0 hwf.1.1))
noncomputable def Zy:dB:=⟨375,Tryz.f375,[.v (.sl .str),.fn 376 []],[.bool],[],[(401,Zx),(376,aVZ)],false,[]⟩
theorem aLk:FO Zy:=mo XW ⟨aDM,aLh,trivial⟩
def aLl (x0:List ByteArray):Prop:=True
def RH (x0:List ByteArray):Bool:=decide (Dj x0>=0)
def Zz:=dR Zy (λ⟨x0,_⟩=>aLl x0) λ⟨x0,_⟩=>[⟨.bool,RH x0⟩]
theorem aDN:c7 375 Zz:=dF aLk λ⟨x0,_⟩ h _ K q=>tv<|rt
noncomputable def bDo:dB:=⟨325,Tryz.f325,[.v (.sl .str)],[.bool],[],[(375,Zz)],false,[]⟩
theorem bLk:FO bDo:=mo Tryz.func325 ⟨aDN,trivial⟩
def bLl (x0:List ByteArray):Prop:=True
def aLm (x0:List ByteArray):Bool:=(if (decide ((x0.length:Int)<=12))=true then !RH x0 else false)
def bDp:=dR bDo (λ⟨x0,_⟩=>bLl x0) λ⟨x0,_⟩=>[⟨.bool,aLm x0⟩]
theorem aWa:c7 325 bDp:=dF bLk λ⟨x0,_⟩ h _ K q=>e1 (tv<|rt) (rt)
noncomputable def bDq:dB:=⟨324,Tryz.f324,[.v (.sl .str)],[.bool],[],[(325,bDp)],false,[]⟩
theorem bLm:FO bDq:=mo Tryz.func324 ⟨aWa,trivial⟩
def bLn (x0:List ByteArray):Prop:=True
def RI (x0:List ByteArray):Bool := !aLm x0
def aWb:=dR bDq (λ⟨x0,_⟩=>bLn x0) λ⟨x0,_⟩=>[⟨.bool,RI x0⟩]
theorem aLn:c7 324 aWb:=dF bLm λ⟨x0,_⟩ h _ K q=>tv<|rt
noncomputable def Kc:dB:=⟨374,Tryz.f374,[.v (.sl (.sl .str)),.fn 324 []],[.int .i64],[],[(324,aWb)],false,[]⟩
theorem aLo:FO Kc:=mo Tryz.func374 ⟨aLn,trivial⟩
def aDO (v8:Int) (x0:List (List ByteArray)):eD×bG:=([eL 0 (.sl .str) x0,(1,PV.fn 324 []),eI 7 (x0.length:Int),eI 8 v8],[])
mutual
def RJ:Nat->List (List ByteArray)->List aY->Prop
 | 0,_,_=>False
 | n+1,x0,ds=>(tS n (0) (x0) ds)
def tS:Nat->Int->List (List ByteArray)->List aY->Prop
 | 0,_,_,_=>False
 | n+1,v8,x0,ds=>(if (decide (v8<(x0.length:Int)))=true then ((0<=v8)/\(v8<(x0.length:Int))/\(if (RI (aD x0 (aE v8) []))=true then (ds=[aP (.int .i64) v8]) else ((cC .i64 (v8+1))/\(tS n (v8+1) (x0) ds)))) else (ds=[aP (.int .i64) (-1)]))
end
theorem aDP (ds:List aY) (K:jK) (q:Nat->Value):∀ n,(∀ {x0},RJ n x0 ds->St Kc (x0,(),()) ds [] K q)/\(∀ {v8 x0},tS n v8 x0 ds->Cu Kc 2 (aDO v8 x0) ds [] K q):=by
 intro n
 induction n with
 | zero=>exact ⟨λh=>h.elim,λh=>h.elim⟩
 | succ n ih =>
 obtain ⟨i,i2⟩:=ih;exact ⟨λh=>jp (i2 h),
  λh=>bR h (λh=>c2 h λh=>tv<|bR h (λh=>rh h) λh=>c1 h λh=>jp (i2 h)) λh=>rh h⟩
def Dk (x0:List (List (ByteArray))):Int:=X0 (x0.findIdx? RI)
def aLp (x0:List (List (ByteArray))):Prop:=True
theorem aDQ (x0:List (List (ByteArray))) (hm:x0.length<=maxLen):RJ (x0.length+1+1) x0 [⟨.int .i64,Dk x0⟩]:=by
 rw [RJ];have key:=kJ x0 [] RI [(⟨.int .i64, -1⟩:aY)] (λk=>[⟨.int .i64,k⟩]) (λn i ds=>tS n i x0 ds) (λn => ?_) (λn i hi hok ds hr => ?_) (λn i hi hok => ?_)
 ·unfold Dk;cases h:x0.findIdx? RI <;> rw [h] at key <;> exact key
 ·rw [tS,if_neg (by simp)]
 ·rw [tS,if_pos (by simp;omega)];simp only [aF];refine ⟨by omega,by omega,?_⟩;rw [if_neg (by rw [hok];simp)];exact ⟨fC hm hi,hr⟩
 ·rw [tS,if_pos (by simp;omega)];simp only [aF];refine ⟨by omega,by omega,?_⟩;rw [if_pos hok] <;> trivial
def aAa:=dR Kc (λ⟨x0,_⟩=>aLp x0) λ⟨x0,_⟩=>[⟨.int .i64,Dk x0⟩]
theorem aDR:c7 374 aAa:=dF aLo (λ⟨x0,_⟩ h hwf K q =>
 (aDP _ K q _).1 (aDQ x0 hwf.1.1))
noncomputable def aAb:dB:=⟨323,Tryz.f323,[.v (.sl (.sl .str)),.fn 324 []],[.bool],[],[(374,aAa),(324,aWb)],false,[]⟩
theorem aLq:FO aAb:=mo Tryz.func323 ⟨aDR,aLn,trivial⟩
def aLr (x0:List (List ByteArray)):Prop:=True
def wU (x0:List (List ByteArray)):Bool:=decide (Dk x0>=0)
def aAc:=dR aAb (λ⟨x0,_⟩=>aLr x0) λ⟨x0,_⟩=>[⟨.bool,wU x0⟩]
theorem aDS:c7 323 aAc:=dF aLq λ⟨x0,_⟩ h _ K q=>tv<|rt
end
end Go.Proofs.YtmhpnodnljbnjaaGreatDoor
set_option maxRecDepth 100000
namespace Go.Proofs.YtmhpnodnljbnjaaGreatDoor
open Go Go.Am Go.Proofs
noncomputable section
noncomputable def aDT:dB:=⟨242,Tryz.f242,[.v (.sl (.sl .str))],[.sl .str,.int .i64],[],[(322,aSm),(195,aJr),(326,bDd),(327,bDl),(323,aAc)],false,[]⟩
theorem bLo:FO aDT:=mo Tryz.func242 ⟨aJ7,V5,aVS,aVX,aDS,trivial⟩
def aWc (v20:Int) (h0:List Int) (x0:List (List ByteArray)):eD×bG:=([eL 0 (.sl .str) x0,eW 4 0,eL 18 (.sl .str) x0,eI 19 (x0.length:Int),eI 20 v20],[jB (.int .i64) h0])
def aWd (v26:Int) (h0:List Int) (x0:List (List ByteArray)) (v20:Int):eD×bG:=([eL 0 (.sl .str) x0,eW 4 0,eL 18 (.sl .str) x0,eI 19 (x0.length:Int),eI 20 v20,eL 24 .str (aD x0 (aE v20) []),eI 25 (↑(aN (aD x0 (aE v20) [])):Int),eI 26 v26],[jB (.int .i64) h0])
def aOE (v45:Int) (h1:List ByteArray) (x0:List (List ByteArray)) (h0:List Int):eD×bG:=([eW 4 0,eW 9 1,eL 43 (.sl .str) x0,eI 44 (x0.length:Int),eI 45 v45],[jB (.int .i64) h0,jB .str h1])
def aOF (v51:Int) (h2:List ByteArray) (x0:List (List ByteArray)) (v45:Int) (h0:List Int) (h1:List ByteArray):eD×bG:=([eW 4 0,eW 9 1,eW 12 2,eL 43 (.sl .str) x0,eI 44 (x0.length:Int),eI 45 v45,eL 49 .str (aD x0 (aE v45) []),eI 50 (↑(aN (aD x0 (aE v45) [])):Int),eI 51 v51],[jB (.int .i64) h0,jB .str h1,jB .str h2])
mutual
def aOG:Nat->List (List ByteArray)->List aY->Prop
 | 0,_,_=>False
 | n+1,x0,ds=>(if (wU x0)=true then (ds=[aP (.sl .str) [],aP (.int .i64) 2]) else (Iz n (0) ([0,0,0,0,0,0,0,0,0,0,0,0]) (x0) ds))
def Iz:Nat->Int->List Int->List (List ByteArray)->List aY->Prop
 | 0,_,_,_,_=>False
 | n+1,v20,h0,x0,ds=>(if (decide (v20<(x0.length:Int)))=true then ((0<=v20)/\(v20<(x0.length:Int))/\(Mg n (0) (h0) (x0) (v20) ds)) else (B0 n (0) ([]) (x0) (h0) ds))
def Mg:Nat->Int->List Int->List (List ByteArray)->Int->List aY->Prop
 | 0,_,_,_,_,_=>False
 | n+1,v26,h0,x0,v20,ds=>(if (decide (v26<(↑(aN (aD x0 (aE v20) [])):Int)))=true then ((0<=v26)/\(v26<(↑(aN (aD x0 (aE v20) [])):Int))/\((0<=v26)/\(v26<(h0.length:Int))/\((0<=v26)/\(v26<(h0.length:Int))/\((cC .i64 (v26+1))/\(Mg n (v26+1) (List.set h0 (aE v26) (if aD h0 (aE v26) 0<(↑(aH (aD (aD x0 (aE v20) []) (aE v26) aC)):Int) then (↑(aH (aD (aD x0 (aE v20) []) (aE v26) aC)):Int) else aD h0 (aE v26) 0)) (x0) (v20) ds))))) else ((cC .i64 (v20+1))/\(Iz n (v20+1) (h0) (x0) ds)))
def B0:Nat->Int->List ByteArray->List (List ByteArray)->List Int->List aY->Prop
 | 0,_,_,_,_,_=>False
 | n+1,v45,h1,x0,h0,ds=>(if (decide (v45<(x0.length:Int)))=true then ((0<=v45)/\(v45<(x0.length:Int))/\(Gt n (0) ([]) (x0) (v45) (h0) (h1) ds)) else (ds=[aP (.sl .str) (Mf h1),aP (.int .i64) (WP h1)]))
def Gt:Nat->Int->List ByteArray->List (List ByteArray)->Int->List Int->List ByteArray->List aY->Prop
 | 0,_,_,_,_,_,_,_=>False
 | n+1,v51,h2,x0,v45,h0,h1,ds=>(if (decide (v51<(↑(aN (aD x0 (aE v45) [])):Int)))=true then ((0<=v51)/\(v51<(↑(aN (aD x0 (aE v45) [])):Int))/\((0<=v51)/\(v51<(h0.length:Int))/\((cC .i64 (aD h0 (aE v51) 0 - (↑(aH (aD (aD x0 (aE v45) []) (aE v51) aC)):Int)))/\((aSl (aA #[32]) (aD h0 (aE v51) 0 - (↑(aH (aD (aD x0 (aE v45) []) (aE v51) aC)):Int)))/\((aH (aD (aD x0 (aE v45) []) (aE v51) aC)+aH (F2 (aA #[32]) (aD h0 (aE v51) 0 - (↑(aH (aD (aD x0 (aE v45) []) (aE v51) aC)):Int)))<=9223372036854775807)/\(((aN h2+1)*16<=140737488355328)/\((cC .i64 (v51+1))/\(Gt n (v51+1) (h2++[aD (aD x0 (aE v45) []) (aE v51) aC++F2 (aA #[32]) (aD h0 (aE v51) 0 - (↑(aH (aD (aD x0 (aE v45) []) (aE v51) aC)):Int))]) (x0) (v45) (h0) (h1) ds)))))))) else ((Sd h2 (aA #[32,32]))/\((aVQ (tE h2 (aA #[32,32])) (aA #[32]))/\(((aN h1+1)*16<=140737488355328)/\((cC .i64 (v45+1))/\(B0 n (v45+1) (h1++[aD2 (tE h2 (aA #[32,32])) (aA #[32])]) (x0) (h0) ds))))))
end
theorem aWe (ds:List aY) (K:jK) (q:Nat->Value):∀ n,(∀ {x0},aOG n x0 ds->St aDT (x0,()) ds [] K q)/\(∀ {v20 h0 x0},Iz n v20 h0 x0 ds->Cu aDT 5 (aWc v20 h0 x0) ds [] K q)/\(∀ {v26 h0 x0 v20},Mg n v26 h0 x0 v20 ds->Cu aDT 8 (aWd v26 h0 x0 v20) ds [] K q)/\(∀ {v45 h1 x0 h0},B0 n v45 h1 x0 h0 ds->Cu aDT 15 (aOE v45 h1 x0 h0) ds [] K q)/\(∀ {v51 h2 x0 v45 h0 h1},Gt n v51 h2 x0 v45 h0 h1 ds->Cu aDT 19 (aOF v51 h2 x0 v45 h0 h1) ds [] K q):=by
 intro n
 induction n with
 | zero=>exact ⟨λh=>h.elim,λh=>h.elim,λh=>h.elim,λh=>h.elim,λh=>h.elim⟩
 | succ n ih =>
 obtain ⟨i,i5,i8,i15,i19⟩:=ih;exact ⟨λ{x0} h=>tv<|bR h (λh=>rh h) λh=>tP ((by decide):(0:Int)<=(12:Int))<|tP ((by decide):(12:Int)<=(12:Int))<|tP ((by decide):(96:Int)<=(281474976710656:Int))<|jp (i5 h),
  λh=>bR h (λh=>c2 h λh=>jp (i8 h)) λh=>jn [(9,.str)] (i15 h),
  λh=>bR h (λh=>c2 h λh=>c2 h λh=>c2 h λh=>c1 h λh=>jp (i8 h)) λh=>c1 h λh=>jp (i5 h),
  λh=>bR h (λh=>c2 h λh=>jn [(12,.str)] (i19 h)) λh=>tv<|rh h,
  λh=>bR h (λh=>c2 h λh=>c2 h λh=>c1 h λh=>c1 h λh=>c1 h λh=>c1 h λh=>c1 h λh=>jn [(12,.str)] (i19 h)) λh=>c1 h λh=>c1 h λh=>c1 h λh=>c1 h λh=>jn [(9,.str)] (i15 h)⟩
def Kd (h:List Int) (k:Nat) (c:ByteArray):List Int:=h.set k (if h.getD k 0<((c.size:Nat):Int) then ((c.size:Nat):Int) else h.getD k 0)
def u4:Nat->List ByteArray->List Int->List Int
 | _,[],h=>h
 | k,c :: r,h=>u4 (k+1) r (Kd h k c)
def WQ (x0:List (List ByteArray)):List Int:=x0.foldl (λh r=>u4 0 r h) [0,0,0,0,0,0,0,0,0,0,0,0]
def aAd (h:List Int) (k:Nat) (c:ByteArray):ByteArray:=c++F2 (aA #[32]) (h.getD k 0 - ((c.size:Nat):Int))
def GA (h:List Int):Nat->List ByteArray->List ByteArray
 | _,[]=>[]
 | k,c :: r=>aAd h k c :: GA h (k+1) r
def aLs (w:List ByteArray):ByteArray:=aD2 (tE w (aA #[32,32])) (aA #[32])
def B4 (h:List Int) (r:List ByteArray):ByteArray:=aLs (GA h 0 r)
def bLp (x0:List (List ByteArray)):Prop:=x0.length<=1100000/\∀ r∈x0,r.length<=12/\∀ c∈r,c.size<=4000000
def aOH (x0:List (List ByteArray)):Prop:=wU x0=false->bLp x0
def JA (x0:List (List ByteArray)):List ByteArray:=if wU x0=true then [] else Mf (x0.map (B4 (WQ x0)))
def Mh (x0:List (List ByteArray)):Int:=if wU x0=true then 2 else WP (x0.map (B4 (WQ x0)))
def wV (h:List Int):Prop:=h.length=12/\∀ c∈h,0<=c/\c<=4000000
theorem WR {h:List Int} (hw:wV h) (k:Nat):0<=h.getD k 0/\h.getD k 0<=4000000:=by
 by_cases hk:k<h.length
 ·exact hw.2 _ (dN h k 0 hk)
 ·rw [bL,eV (by omega)];exact ⟨gA _,by decide⟩
theorem aLt {h:List Int} (hw:wV h) (k:Nat) {c:ByteArray} (hc:c.size<=4000000):wV (Kd h k c):=by
 have hg:=WR hw k;refine ⟨by unfold Kd;rw [sV];exact hw.1,λy hy => ?_⟩;unfold Kd at hy;rcases List.mem_or_eq_of_mem_set hy with hy | rfl
 ·exact hw.2 y hy
 ·split <;> omega
theorem WS:∀ (r:List ByteArray) (k:Nat) (h:List Int),wV h->(∀ c∈r,c.size<=4000000)->wV (u4 k r h)
 | [],_,_,hw,_=>hw
 | c :: r,k,h,hw,hc=>WS r (k+1) _ (aLt hw k (hc c (aQ ..))) (λd hd=>hc d (aM _ hd))
theorem aAe (h:List Int) (k:Nat) (c:ByteArray) (j:Nat):h.getD j 0<=(Kd h k c).getD j 0/\(k<h.length->((c.size:Nat):Int)<=(Kd h k c).getD k 0):=by
 unfold Kd;constructor
 ·rw [bL,bL,u7];by_cases hjk:k=j
  ·subst hjk;by_cases hk:k<h.length
   ·rw [if_pos rfl,if_pos hk,bL];simp only [Cj];split <;> omega
   ·rw [if_pos rfl,if_neg hk,eV (by omega)];exact gA _
  ·rw [if_neg hjk];exact gA _
 ·intro hk;rw [bL,u7,if_pos rfl,if_pos hk];simp only [Cj];split <;> omega
theorem JB:∀ (r:List ByteArray) (k:Nat) (h:List Int) (j:Nat),h.getD j 0<=(u4 k r h).getD j 0
 | [],_,_,_=>gA _
 | c :: r,k,h,j=>zF (aAe h k c j).1 (JB r (k+1) _ j)
theorem UL:∀ (r:List ByteArray) (k:Nat) (h:List Int),k+r.length<=h.length->∀ j,j<r.length->(((r.getD j aC).size:Nat):Int)<=(u4 k r h).getD (k+j) 0
 | [],_,_,_,j,hj=>by cases hj
 | c :: r,k,h,hl,j,hj=>by
  have hk:k<h.length:=by simp at hl;omega
  cases j with
  | zero=>exact zF ((aAe h k c k).2 hk) (JB r (k+1) _ k)
  | succ j =>
   have:=UL r (k+1) (Kd h k c) (by unfold Kd;rw [sV];simp at hl;omega) j (by simpa using hj);rw [show k+(j+1)=k+1+j by omega];simpa [u4] using this
theorem Nc:∀ (l:List (List ByteArray)) (h:List Int) (j:Nat),h.getD j 0<=(l.foldl (λh r=>u4 0 r h) h).getD j 0
 | [],_,_=>gA _
 | r :: l,h,j=>zF (JB r 0 h j) (Nc l _ j)
theorem RL:∀ (l:List (List ByteArray)) (h:List Int),wV h->(∀ r∈l,r.length<=12/\∀ c∈r,c.size<=4000000)->wV (l.foldl (λh r=>u4 0 r h) h)/\∀ r∈l,∀ j,j<r.length->(((r.getD j aC).size:Nat):Int)<=(l.foldl (λh r=>u4 0 r h) h).getD j 0
 | [],h,hw,_=>⟨hw,λr hr=>by cases hr⟩
 | q :: l,h,hw,hr=>by
  obtain ⟨q1,q2⟩:=hr q (aQ ..);obtain ⟨i1,i2⟩:=RL l (u4 0 q h) (WS q 0 h hw q2) (λr h=>hr r (aM _ h));refine ⟨i1,λr hm j hj => ?_⟩;rcases aR.1 hm with rfl | hm
  ·have:=UL r 0 h (by rw [hw.1];omega) j hj;rw [cV] at this;exact zF this (Nc l _ j)
  ·exact i2 r hm j hj
theorem aGB {h:List Int} (hw:wV h) {k:Nat} {c:ByteArray} (hc:((c.size:Nat):Int)<=h.getD k 0):(aAd h k c).size<=4000000:=by
 have hg:=WR hw k;unfold aAd F2;rw [aS];have:(aA (Lib.repeatL (aA #[32]).data.toList (h.getD k 0 - ((c.size:Nat):Int)).toNat).toArray).size=(h.getD k 0 - ((c.size:Nat):Int)).toNat*1:=by
  show (kL _).size=_;rw [dK,Lib.repeatL_length];rfl
 rw [this];omega
theorem RM:∀ (w:List (List UInt8)),(∀ x∈w,x.length<=4000000)->(rO [32,32] w).length<=w.length*4000002
 | [],_=>by simp [rO]
 | x :: r,h=>by
  have:=RM r (λy hy=>h y (aM _ hy));have hx:=h x (aQ ..);simp only [rO,bP,List.flatten_cons,aO,bA,List.length_nil] at this ⊢;omega
theorem aGC {w:List ByteArray} (hl:w.length<=12) (hw:∀ x∈w,x.size<=4000000):Sd w (aA #[32,32])/\aVQ (tE w (aA #[32,32])) (aA #[32]):=by
 refine ⟨⟨by omega,?_⟩,⟨32,rfl,by decide⟩⟩;cases w with
 | nil=>exact bW _
 | cons x r =>
  have e:(aA #[32,32]).data.toList=[32,32]:=rfl;rw [e,bP,Lib.join_cons,aO];have h1:x.data.toList.length<=4000000:=hw x (aQ ..);have h2:=RM (r.map λx=>x.data.toList) (λy hy=>by
   obtain ⟨z,hz,rfl⟩:=eE.1 hy;exact hw z (aM _ hz))
  rw [eJ] at h2;simp only [bA] at hl;omega
section
variable {x0:List (List ByteArray)} {ds:List aY}
theorem aWf {v45:Nat} {h0:List Int} {h1:List ByteArray} (hw:wV h0) (hr:(x0.getD v45 []).length<=12) (hc:∀ c∈x0.getD v45 [],c.size<=4000000) (hcov:∀ j,j<(x0.getD v45 []).length->((((x0.getD v45 []).getD j aC).size:Nat):Int)<=h0.getD j 0) (hv:v45<1100000) (hl:h1.length<=1100000) :
  ∀ (k v51:Nat) (h2:List ByteArray),v51+k=(x0.getD v45 []).length->h2.length=v51->(∀ x∈h2,x.size<=4000000)->(∃ n,B0 n ((v45:Int)+1) (h1++[aLs (h2++GA h0 v51 ((x0.getD v45 []).drop v51))]) x0 h0 ds)->∃ n,Gt n (v51:Int) h2 x0 (v45:Int) h0 h1 ds:=by
 intro k
 induction k with
 | zero =>
  intro v51 h2 hk h2l h2s ⟨n,hn⟩;rw [gW _ v51 (by omega)] at hn;simp only [GA,c6] at hn;obtain ⟨p1,p2⟩:=aGC (w:=h2) (by omega) h2s;refine ⟨n+1,?_⟩;rw [Gt];simp only [aF];rw [if_neg (by simp only [decide_eq_true_eq];omega)];exact ⟨p1,p2,by omega,by rw [aK];omega,hn⟩
 | succ k ih =>
  intro v51 h2 hk h2l h2s hn;have h5:v51<(x0.getD v45 []).length:=by omega
  have hcell:=hcov v51 h5;have hg:=WR hw v51;rw [eH _ v51 aC h5] at hn;simp only [GA] at hn;have hsz:=aGB hw hcell;obtain ⟨n,hn⟩:=ih (v51+1) (h2++[aAd h0 v51 ((x0.getD v45 []).getD v51 aC)]) (by omega) (by rw [aO,h2l];rfl) (λx hx=>by
   rcases bU.1 hx with hx | hx
   ·exact h2s x hx
   ·rw [bI.1 hx];exact hsz) (by rw [bS,List.singleton_append];exact hn)
  have hsz2:((x0.getD v45 []).getD v51 aC).size+(F2 (aA #[32]) (h0.getD v51 0 - ((((x0.getD v45 []).getD v51 aC).size:Nat):Int))).size<=4000000:=by
   have:=hsz;unfold aAd at this
   rwa [aS] at this
  have s1:(aA #[32]).size=1:=rfl;have hlen:=hw.1;refine ⟨n+1,?_⟩;rw [Gt];simp only [aF];rw [if_pos (by simp only [decide_eq_true_eq];omega)];exact ⟨by omega,by omega,by omega,by omega,by rw [aK];omega,⟨by omega,by rw [s1];omega⟩,by omega,by omega,by rw [aK];omega,hn⟩
theorem aWg {h0:List Int} (hw:wV h0) (hx:x0.length<=1100000) (hr:∀ r∈x0,r.length<=12/\∀ c∈r,c.size<=4000000) (hcov:∀ r∈x0,∀ j,j<r.length->(((r.getD j aC).size:Nat):Int)<=h0.getD j 0):∀ (k v45:Nat) (h1:List ByteArray),v45+k=x0.length->h1.length=v45 ->
  ∃ n,B0 n (v45:Int) h1 x0 h0 [⟨.sl .str,Mf (h1++(x0.drop v45).map (B4 h0))⟩,⟨.int .i64,WP (h1++(x0.drop v45).map (B4 h0))⟩]:=by
 intro k
 induction k with
 | zero =>
  intro v45 h1 hk hl;refine ⟨1,?_⟩;rw [B0,if_neg (by simp only [decide_eq_true_eq];omega),gW _ v45 (by omega)];simp
 | succ k ih =>
  intro v45 h1 hk hl;have h7:v45<x0.length:=by omega
  have hm:=dN x0 v45 [] h7;obtain ⟨r1,r2⟩:=hr _ hm;obtain ⟨n,hn⟩:=ih (v45+1) (h1++[B4 h0 (x0.getD v45 [])]) (by omega) (by rw [aO,hl];rfl);have e:h1++[B4 h0 (x0.getD v45 [])]++Cs (B4 h0) (x0.drop (v45+1))=h1++Cs (B4 h0) (x0.drop v45):=by
   rw [eH x0 v45 [] h7];simp
  have e1:(((v45+1:Nat)):Int)=(v45:Int)+1:=by omega
  rw [e,e1] at hn;obtain ⟨n',hn'⟩:=aWf (h1:=h1) (v45:=v45) hw r1 r2 (hcov _ hm) (by omega) (by omega) (x0.getD v45 []).length 0 [] (by omega) rfl (λx hx=>by cases hx) ⟨n,hn⟩;refine ⟨n'+1,?_⟩;rw [B0,if_pos (by simp only [decide_eq_true_eq];omega)];exact ⟨by omega,by omega,hn'⟩
theorem bDr {v20:Nat} (hr:(x0.getD v20 []).length<=12) (hc:∀ c∈x0.getD v20 [],c.size<=4000000) (hv:v20<1100000) :
  ∀ (k v26:Nat) (h0:List Int),v26+k=(x0.getD v20 []).length->wV h0->(∃ n,Iz n ((v20:Int)+1) (u4 v26 ((x0.getD v20 []).drop v26) h0) x0 ds)->∃ n,Mg n (v26:Int) h0 x0 (v20:Int) ds:=by
 intro k
 induction k with
 | zero =>
  intro v26 h0 hk hw ⟨n,hn⟩;rw [gW _ v26 (by omega)] at hn;refine ⟨n+1,?_⟩;rw [Mg];simp only [aF];rw [if_neg (by simp only [decide_eq_true_eq];omega)];exact ⟨by rw [aK];omega,hn⟩
 | succ k ih =>
  intro v26 h0 hk hw hn;have h5:v26<(x0.getD v20 []).length:=by omega
  have hcell:=hc _ (dN (x0.getD v20 []) v26 aC h5);have hlen:=hw.1;rw [eH _ v26 aC h5] at hn;simp only [u4] at hn;obtain ⟨n,hn⟩:=ih (v26+1) _ (by omega) (aLt hw v26 hcell) hn;refine ⟨n+1,?_⟩;rw [Mg];simp only [aF];rw [if_pos (by simp only [decide_eq_true_eq];omega)];exact ⟨by omega,by omega,by omega,by omega,by omega,by omega,by rw [aK];omega,hn⟩
theorem bDs (hx:x0.length<=1100000) (hr:∀ r∈x0,r.length<=12/\∀ c∈r,c.size<=4000000):∀ (k v20:Nat) (h0:List Int),v20+k=x0.length->wV h0->(∃ n,B0 n 0 [] x0 ((x0.drop v20).foldl (λh r=>u4 0 r h) h0) ds)->∃ n,Iz n (v20:Int) h0 x0 ds:=by
 intro k
 induction k with
 | zero =>
  intro v20 h0 hk hw ⟨n,hn⟩;rw [gW _ v20 (by omega)] at hn;refine ⟨n+1,?_⟩;rw [Iz,if_neg (by simp only [decide_eq_true_eq];omega)];exact hn
 | succ k ih =>
  intro v20 h0 hk hw hn;have h4:v20<x0.length:=by omega
  obtain ⟨r1,r2⟩:=hr _ (dN x0 v20 [] h4);rw [eH x0 v20 [] h4,dY] at hn;obtain ⟨n,hn⟩:=ih (v20+1) (u4 0 (x0.getD v20 []) h0) (by omega) (WS _ 0 h0 hw r2) hn;have e1:(((v20+1:Nat)):Int)=(v20:Int)+1:=by omega
  rw [e1] at hn;obtain ⟨n',hn'⟩:=bDr (x0:=x0) r1 r2 (by omega) (x0.getD v20 []).length 0 h0 (by omega) hw ⟨n,hn⟩;refine ⟨n'+1,?_⟩;rw [Iz,if_pos (by simp only [decide_eq_true_eq];omega)];exact ⟨by omega,by omega,hn'⟩
end
theorem aQj:wV [0,0,0,0,0,0,0,0,0,0,0,0]:=⟨rfl,by decide⟩
theorem aWh (x0:List (List ByteArray)) (h:aOH x0):∃ n,aOG n x0 [⟨.sl .str,JA x0⟩,⟨.int .i64,Mh x0⟩]:=by
 unfold JA Mh;by_cases hc:wU x0=true
 ·refine ⟨1,?_⟩;rw [aOG,if_pos hc,if_pos hc,if_pos hc]
 ·have h:=h (BE hc);obtain ⟨i1,i2⟩:=RL x0 _ aQj h.2;obtain ⟨n,hn⟩:=aWg (x0:=x0) (h0:=WQ x0) i1 h.1 h.2 i2 x0.length 0 [] (by omega) rfl;obtain ⟨n',hn'⟩:=bDs (x0:=x0) h.1 h.2 x0.length 0 [0,0,0,0,0,0,0,0,0,0,0,0] (by omega) aQj ⟨n,hn⟩;refine ⟨n'+1,?_⟩;rw [aOG,if_neg hc,if_neg hc,if_neg hc];exact hn'
def bDt:=dR aDT (λ⟨x0,_⟩=>aOH x0) λ⟨x0,_⟩=>[⟨.sl .str,JA x0⟩,⟨.int .i64,Mh x0⟩]
theorem aWi:c7 242 bDt:=dF bLo (λ⟨x0,_⟩ h hwf K q =>
 let ⟨n,hn⟩:=aWh x0 h
 (aWe _ K q n).1 hn)
noncomputable def aOI:dB:=⟨160,Tryz.f160,[.v (.sl fL)],[.sl .str,.int .i64],[],[(66,S66),(159,aJL),(126,V0),(242,bDt)],false,[]⟩
theorem bLq:FO aOI:=mo Tryz.func160 ⟨Tz,V8,DX,aWi,trivial⟩
def aWj (v14:Int) (h0:List (List ByteArray)) (x0:List cU):eD×bG:=([eW 4 0,eL 12 fL x0,eI 13 (x0.length:Int),eI 14 v14],[some (hY.mk (.sl .str) h0 true none none)])
mutual
def aOJ:Nat->List cU->List aY->Prop
 | 0,_,_=>False
 | n+1,x0,ds=>(if (!jV x0)=true then (ds=[aP (.sl .str) [],aP (.int .i64) 1]) else (Mi n (0) ([[aA #[100,97,121],aA #[98,114,111,107,101,110],aA #[119,111,114,110]]]) (x0) ds))
def Mi:Nat->Int->List (List ByteArray)->List cU->List aY->Prop
 | 0,_,_,_,_=>False
 | n+1,v14,h0,x0,ds=>(if (decide (v14<(x0.length:Int)))=true then ((0<=v14)/\(v14<(x0.length:Int))/\((OI (aD x0 (aE v14) (0,0,0,())).1)/\((BG (aD x0 (aE v14) (0,0,0,())).2.1)/\((BG (aD x0 (aE v14) (0,0,0,())).2.2.1)/\(((aN h0+1)*24<=140737488355328)/\((cC .i64 (v14+1))/\(Mi n (v14+1) (h0++[[u0 (aD x0 (aE v14) (0,0,0,())).1,dU (aD x0 (aE v14) (0,0,0,())).2.1,dU (aD x0 (aE v14) (0,0,0,())).2.2.1]]) (x0) ds))))))) else ((aOH h0)/\(ds=[aP (.sl .str) (JA h0),aP (.int .i64) (Mh h0)])))
end
theorem aWk (ds:List aY) (K:jK) (q:Nat->Value):∀ n,(∀ {x0},aOJ n x0 ds->St aOI (x0,()) ds [] K q)/\(∀ {v14 h0 x0},Mi n v14 h0 x0 ds->Cu aOI 5 (aWj v14 h0 x0) ds [] K q):=by
 intro n
 induction n with
 | zero=>exact ⟨λh=>h.elim,λh=>h.elim⟩
 | succ n ih =>
 obtain ⟨i,i5⟩:=ih;exact ⟨λh=>tv<|bR h (λh=>rh h) λh=>jp (i5 h),
  λh=>bR h (λh=>c2 h λh=>c1 h λh=>c1 h λh=>c1 h λh=>c1 h λh=>c1 h λh=>jp (i5 h)) λh=>c1 h λh=>rh h⟩
def UM:List ByteArray:=[aA #[100,97,121],aA #[98,114,111,107,101,110],aA #[119,111,114,110]]
def Hl (f:Int×Int×Int×Unit):List ByteArray:=[u0 f.1,dU f.2.1,dU f.2.2.1]
def aOK (x0:List cU):Prop:=jV x0=true->x0.length<=1000/\∀ f∈x0,OI f.1/\BG f.2.1/\BG f.2.2.1/\∀ c∈Hl f,c.size<=4000000
def Mj (x0:List cU):List ByteArray:=if jV x0=true then JA (UM :: x0.map Hl) else []
def WT (x0:List cU):Int:=if jV x0=true then Mh (UM :: x0.map Hl) else 1
theorem aWl {x0:List cU} (hl:x0.length<=1000) (hc:∀ f∈x0,∀ c∈Hl f,c.size<=4000000):aOH (UM :: x0.map Hl):=by
 refine λ_=>⟨by simp only [bA,eJ];omega,λr hr => ?_⟩;rcases aR.1 hr with rfl | hr
 ·exact ⟨by decide,by decide⟩
 ·obtain ⟨f,hf,rfl⟩:=eE.1 hr;exact ⟨by show 3<=12;decide,hc f hf⟩
theorem aWm (x0:List cU) (hl:x0.length<=1000) (hc:∀ f∈x0,OI f.1/\BG f.2.1/\BG f.2.2.1/\∀ c∈Hl f,c.size<=4000000):∀ (k i:Nat),i+k=x0.length ->
  Mi (k+1) (i:Int) (UM :: (x0.take i).map Hl) x0 [⟨.sl .str,JA (UM :: x0.map Hl)⟩,⟨.int .i64,Mh (UM :: x0.map Hl)⟩]:=by
 intro k
 induction k with
 | zero =>
  intro i hi;rw [Mi,if_neg (by simp only [decide_eq_true_eq];omega),List.take_of_length_le (by omega)];exact ⟨aWl hl (λf hf=>(hc f hf).2.2.2),rfl⟩
 | succ k ih =>
  intro i hi;have hlt:i<x0.length:=by omega
  have h:=ih (i+1) (by omega);have e1:(((i+1:Nat)):Int)=(i:Int)+1:=by omega
  rw [e1] at h;have hm:=dN x0 i ((0:Int),(0:Int),(0:Int),()) hlt;rw [Mi,if_pos (by simp only [decide_eq_true_eq];omega)];simp only [aF];refine ⟨by omega,by omega,(hc _ hm).1,(hc _ hm).2.1,(hc _ hm).2.2.1,?_,by rw [aK];omega,?_⟩
  ·simp only [bA,eJ,cJ];omega
  ·have e:x0.take (i+1)=x0.take i++[x0.getD i ((0:Int),(0:Int),(0:Int),())]:=by
    rw [iV x0 i _ hlt,List.take_append_getElem hlt]
   rw [e,gQ] at h;exact h
theorem aWn (x0:List cU) (h:aOK x0):∃ n,aOJ n x0 [⟨.sl .str,Mj x0⟩,⟨.int .i64,WT x0⟩]:=by
 unfold Mj WT;cases hv:jV x0 with
 | false =>
  refine ⟨1,?_⟩;rw [aOJ,if_pos (by rw [hv];rfl)];rfl
 | true =>
  obtain ⟨hl,hc⟩:=h hv;refine ⟨x0.length+1+1,?_⟩;rw [aOJ,if_neg (by rw [hv];simp)];simp only [if_true];exact aWm x0 hl hc x0.length 0 (by omega)
def bDu:=dR aOI (λ⟨x0,_⟩=>aOK x0) λ⟨x0,_⟩=>[⟨.sl .str,Mj x0⟩,⟨.int .i64,WT x0⟩]
theorem aWo:c7 160 bDu:=dF bLq (λ⟨x0,_⟩ h hwf K q =>
 let ⟨n,hn⟩:=aWn x0 h
 (aWk _ K q n).1 hn)
noncomputable def bDv:dB:=⟨243,Tryz.f243,[.v (.sl gT)],[.int .i64],[],[],false,[]⟩
theorem bLr:FO bDv:=mo Tryz.func243 trivial
def bLt (x0:List dG):Prop:=True
def RN (x0:List dG):Int:=(x0.length:Int)
def bDw:=dR bDv (λ⟨x0,_⟩=>bLt x0) λ⟨x0,_⟩=>[⟨.int .i64,RN x0⟩]
theorem aWp:c7 243 bDw:=dF bLr λ⟨x0,_⟩ h _ K q=>rt
noncomputable def bDx:dB:=⟨244,Tryz.f244,[.v (.sl fL)],[.int .i64],[],[],false,[]⟩
theorem bLu:FO bDx:=mo Tryz.func244 trivial
def bLv (x0:List cU):Prop:=True
def RO (x0:List cU):Int:=(x0.length:Int)
def bDy:=dR bDx (λ⟨x0,_⟩=>bLv x0) λ⟨x0,_⟩=>[⟨.int .i64,RO x0⟩]
theorem aWq:c7 244 bDy:=dF bLu λ⟨x0,_⟩ h _ K q=>rt
noncomputable def bDz:dB:=⟨245,Tryz.f245,[.v (.sl fL)],[.int .i64],[],[],false,[]⟩
theorem bLw:FO bDz:=mo Tryz.func245 trivial
def bLx (x0:List cU):Prop:=True
def RP (x0:List cU):Int:=(x0.length:Int)
def bD0:=dR bDz (λ⟨x0,_⟩=>bLx x0) λ⟨x0,_⟩=>[⟨.int .i64,RP x0⟩]
theorem aWr:c7 245 bD0:=dF bLw λ⟨x0,_⟩ h _ K q=>rt
noncomputable def bD1:dB:=⟨246,Tryz.f246,[.v (.sl fP)],[.int .i64],[],[],false,[]⟩
theorem bLy:FO bD1:=mo Tryz.func246 trivial
def bLz (x0:List bX):Prop:=True
def RQ (x0:List bX):Int:=(x0.length:Int)
def bD2:=dR bD1 (λ⟨x0,_⟩=>bLz x0) λ⟨x0,_⟩=>[⟨.int .i64,RQ x0⟩]
theorem aWs:c7 246 bD2:=dF bLy λ⟨x0,_⟩ h _ K q=>rt
noncomputable def bD3:dB:=⟨247,Tryz.f247,[.v (.sl gT)],[.int .i64],[],[],false,[]⟩
theorem bL0:FO bD3:=mo Tryz.func247 trivial
def bL1 (x0:List dG):Prop:=True
def RR (x0:List dG):Int:=(x0.length:Int)
def bD4:=dR bD3 (λ⟨x0,_⟩=>bL1 x0) λ⟨x0,_⟩=>[⟨.int .i64,RR x0⟩]
theorem aWt:c7 247 bD4:=dF bL0 λ⟨x0,_⟩ h _ K q=>rt
noncomputable def bD5:dB:=⟨248,Tryz.f248,[.v (.sl fL)],[.int .i64],[],[],false,[]⟩
theorem bL2:FO bD5:=mo Tryz.func248 trivial
def bL3 (x0:List cU):Prop:=True
def RS (x0:List cU):Int:=(x0.length:Int)
def bD6:=dR bD5 (λ⟨x0,_⟩=>bL3 x0) λ⟨x0,_⟩=>[⟨.int .i64,RS x0⟩]
theorem aWu:c7 248 bD6:=dF bL2 λ⟨x0,_⟩ h _ K q=>rt
noncomputable def bD7:dB:=⟨249,Tryz.f249,[.v (.sl fP)],[.int .i64],[],[],false,[]⟩
theorem bL4:FO bD7:=mo Tryz.func249 trivial
def bL5 (x0:List bX):Prop:=True
def RT (x0:List bX):Int:=(x0.length:Int)
def bD8:=dR bD7 (λ⟨x0,_⟩=>bL5 x0) λ⟨x0,_⟩=>[⟨.int .i64,RT x0⟩]
theorem aWv:c7 249 bD8:=dF bL4 λ⟨x0,_⟩ h _ K q=>rt
noncomputable def bD9:dB:=⟨250,Tryz.f250,[.v (.sl fP)],[.int .i64],[],[],false,[]⟩
theorem bL6:FO bD9:=mo Tryz.func250 trivial
def bL7 (x0:List bX):Prop:=True
def RU (x0:List bX):Int:=(x0.length:Int)
def bDA:=dR bD9 (λ⟨x0,_⟩=>bL7 x0) λ⟨x0,_⟩=>[⟨.int .i64,RU x0⟩]
theorem aWw:c7 250 bDA:=dF bL6 λ⟨x0,_⟩ h _ K q=>rt
noncomputable def aOL:dB:=⟨161,Tryz.f161,[.v vP],[.sl .str,.int .i64],[],[(19,S19),(243,bDw),(244,bDy),(245,bD0),(246,bD2),(247,bD4),(248,bD6),(249,bD8),(250,bDA),(126,V0)],false,[]⟩
theorem bL8:FO aOL:=mo Tryz.func161 ⟨aPT,aWp,aWq,aWr,aWs,aWt,aWu,aWv,aWw,DX,trivial⟩
def aWx (v43:Int) (h1:List ByteArray) (x0:fV):eD×bG:=([eW 5 0,eW 6 1,eW 41 2,eI 42 9,eI 43 v43],[jB (.int .i64) [RN x0.1,RO x0.2.2.1,RP x0.2.2.2.1,RQ x0.2.2.2.2.2.2.1,x0.2.2.2.2.2.2.2.1.2.2.1,RR x0.2.2.2.2.2.2.2.2.1,RS x0.2.2.2.2.2.2.2.2.2.1,RT x0.2.2.2.2.2.2.2.2.2.2.1,RU x0.2.2.2.2.2.2.2.2.2.2.2.1],jB .str h1,jB .str [aA #[98,101,110,100,115],aA #[104,111,117,114,115],aA #[108,105,109,105,116,115],aA #[119,111,114,107,101,114,115],aA #[108,105,116,114,101,115],aA #[102,97,114,101,115],aA #[116,101,115,116,115],aA #[104,101,108,112,101,114,115],aA #[116,97,115,107,115]]])
mutual
def aOM:Nat->fV->List aY->Prop
 | 0,_,_=>False
 | n+1,x0,ds=>(if (!BW x0)=true then (ds=[aP (.sl .str) [],aP (.int .i64) 1]) else (Mk n (0) ([]) (x0) ds))
def Mk:Nat->Int->List ByteArray->fV->List aY->Prop
 | 0,_,_,_,_=>False
 | n+1,v43,h1,x0,ds=>(if (decide (v43<9))=true then ((0<=v43)/\(v43<9)/\((aH (aD [aA #[98,101,110,100,115],aA #[104,111,117,114,115],aA #[108,105,109,105,116,115],aA #[119,111,114,107,101,114,115],aA #[108,105,116,114,101,115],aA #[102,97,114,101,115],aA #[116,101,115,116,115],aA #[104,101,108,112,101,114,115],aA #[116,97,115,107,115]] (aE v43) aC)+1<=9223372036854775807)/\((0<=v43)/\(v43<(↑9:Int))/\((BG (aD [RN x0.1,RO x0.2.2.1,RP x0.2.2.2.1,RQ x0.2.2.2.2.2.2.1,x0.2.2.2.2.2.2.2.1.2.2.1,RR x0.2.2.2.2.2.2.2.2.1,RS x0.2.2.2.2.2.2.2.2.2.1,RT x0.2.2.2.2.2.2.2.2.2.2.1,RU x0.2.2.2.2.2.2.2.2.2.2.2.1] (aE v43) 0))/\((aH (aD [aA #[98,101,110,100,115],aA #[104,111,117,114,115],aA #[108,105,109,105,116,115],aA #[119,111,114,107,101,114,115],aA #[108,105,116,114,101,115],aA #[102,97,114,101,115],aA #[116,101,115,116,115],aA #[104,101,108,112,101,114,115],aA #[116,97,115,107,115]] (aE v43) aC++aA #[32])+aH (dU (aD [RN x0.1,RO x0.2.2.1,RP x0.2.2.2.1,RQ x0.2.2.2.2.2.2.1,x0.2.2.2.2.2.2.2.1.2.2.1,RR x0.2.2.2.2.2.2.2.2.1,RS x0.2.2.2.2.2.2.2.2.2.1,RT x0.2.2.2.2.2.2.2.2.2.2.1,RU x0.2.2.2.2.2.2.2.2.2.2.2.1] (aE v43) 0))<=9223372036854775807)/\(((aN h1+1)*16<=140737488355328)/\((cC .i64 (v43+1))/\(Mk n (v43+1) (h1++[aD [aA #[98,101,110,100,115],aA #[104,111,117,114,115],aA #[108,105,109,105,116,115],aA #[119,111,114,107,101,114,115],aA #[108,105,116,114,101,115],aA #[102,97,114,101,115],aA #[116,101,115,116,115],aA #[104,101,108,112,101,114,115],aA #[116,97,115,107,115]] (aE v43) aC++aA #[32]++dU (aD [RN x0.1,RO x0.2.2.1,RP x0.2.2.2.1,RQ x0.2.2.2.2.2.2.1,x0.2.2.2.2.2.2.2.1.2.2.1,RR x0.2.2.2.2.2.2.2.2.1,RS x0.2.2.2.2.2.2.2.2.2.1,RT x0.2.2.2.2.2.2.2.2.2.2.1,RU x0.2.2.2.2.2.2.2.2.2.2.2.1] (aE v43) 0)]) (x0) ds)))))))) else (ds=[aP (.sl .str) h1,aP (.int .i64) 0]))
end
theorem aWy (ds:List aY) (K:jK) (q:Nat->Value):∀ n,(∀ {x0},aOM n x0 ds->St aOL (x0,()) ds [] K q)/\(∀ {v43 h1 x0},Mk n v43 h1 x0 ds->Cu aOL 7 (aWx v43 h1 x0) ds [] K q):=by
 intro n
 induction n with
 | zero=>exact ⟨λh=>h.elim,λh=>h.elim⟩
 | succ n ih =>
 obtain ⟨i,i7⟩:=ih;exact ⟨λh=>tv<|bR h (λh=>rh h) λh=>tv<|tv<|tv<|tv<|tv<|tv<|tv<|tv<|jn [(6,.str)] (i7 h),
  λh=>bR h (λh=>c2 h λh=>c1 h λh=>c2 h λh=>c1 h λh=>c1 h λh=>c1 h λh=>c1 h λh=>jn [(6,.str)] (i7 h)) λh=>rh h⟩
def RV:List ByteArray:=[aA #[98,101,110,100,115],aA #[104,111,117,114,115],aA #[108,105,109,105,116,115],aA #[119,111,114,107,101,114,115],aA #[108,105,116,114,101,115],aA #[102,97,114,101,115],aA #[116,101,115,116,115],aA #[104,101,108,112,101,114,115],aA #[116,97,115,107,115]]
def OM (x0:(fV)):List Int:=[((x0.1.length:Nat):Int),((x0.2.2.1.length:Nat):Int),((x0.2.2.2.1.length:Nat):Int),((x0.2.2.2.2.2.2.1.length:Nat):Int),x0.2.2.2.2.2.2.2.1.2.2.1,((x0.2.2.2.2.2.2.2.2.1.length:Nat):Int),((x0.2.2.2.2.2.2.2.2.2.1.length:Nat):Int),((x0.2.2.2.2.2.2.2.2.2.2.1.length:Nat):Int),((x0.2.2.2.2.2.2.2.2.2.2.2.1.length:Nat):Int)]
def UN (w:ByteArray) (n:Int):ByteArray:=w++aA #[32]++dU n
def Ml (x0:(fV)):List ByteArray:=if BW x0=true then EK UN RV (OM x0) else []
def WU (x0:(fV)):Int:=if BW x0=true then 0 else 1
def bL9 (x0:(fV)):Prop:=True
theorem bDB (x0:(fV)) (hw:Wf (.cons (.sl (.cons .str (.cons (.int .i64) (.cons (.int .i64) (.cons (.int .i64) .unit))))) (.cons (.cons (.int .i64) (.cons (.int .i64) (.cons (.int .i64) (.cons (.int .i64) .unit)))) (.cons (.sl (.cons (.int .i64) (.cons (.int .i64) (.cons (.int .i64) .unit)))) (.cons (.sl (.cons (.int .i64) (.cons (.int .i64) (.cons (.int .i64) .unit)))) (.cons (.cons (.int .i64) (.cons (.int .i64) (.cons (.int .i64) .unit))) (.cons (.cons (.int .i64) (.cons (.int .i64) (.cons (.int .i64) .unit))) (.cons (.sl (.cons .str (.cons (.int .i64) (.cons (.int .i64) .unit)))) (.cons (.cons (.int .i64) (.cons (.int .i64) (.cons (.int .i64) (.cons (.int .i64) .unit)))) (.cons (.sl (.cons .str (.cons (.int .i64) (.cons (.int .i64) (.cons (.int .i64) .unit))))) (.cons (.sl (.cons (.int .i64) (.cons (.int .i64) (.cons (.int .i64) .unit)))) (.cons (.sl (.cons .str (.cons (.int .i64) (.cons (.int .i64) .unit)))) (.cons (.sl (.cons .str (.cons (.int .i64) (.cons (.int .i64) .unit)))) .unit)))))))))))) x0):∀ n∈OM x0, -9223372036854775808<=n/\n<=9223372036854775807:=by
 have hmx:maxLen<=9223372036854775807:=by decide
 have a0:x0.1.length<=maxLen:=hw.1.1;have a2:x0.2.2.1.length<=maxLen:=hw.2.2.1.1;have a3:x0.2.2.2.1.length<=maxLen:=hw.2.2.2.1.1;have a6:x0.2.2.2.2.2.2.1.length<=maxLen:=hw.2.2.2.2.2.2.1.1;have a8:x0.2.2.2.2.2.2.2.2.1.length<=maxLen:=hw.2.2.2.2.2.2.2.2.1.1;have a9:x0.2.2.2.2.2.2.2.2.2.1.length<=maxLen:=hw.2.2.2.2.2.2.2.2.2.1.1;have aa:x0.2.2.2.2.2.2.2.2.2.2.1.length<=maxLen:=hw.2.2.2.2.2.2.2.2.2.2.1.1;have ab:x0.2.2.2.2.2.2.2.2.2.2.2.1.length<=maxLen:=hw.2.2.2.2.2.2.2.2.2.2.2.1.1;have a7:cC .i64 x0.2.2.2.2.2.2.2.1.2.2.1:=hw.2.2.2.2.2.2.2.1.2.2.1;rw [aK] at a7;intro n hn;unfold OM at hn;simp only [aR,bZ,or_false] at hn;rcases hn with rfl | rfl | rfl | rfl | rfl | rfl | rfl | rfl | rfl <;> omega
theorem aQk:∀ w∈RV,w.size<=7:=by
 intro w hw;unfold RV at hw;simp only [aR,bZ,or_false] at hw;rcases hw with rfl | rfl | rfl | rfl | rfl | rfl | rfl | rfl | rfl <;> decide
theorem aWz (x0:(fV)) (hn:∀ n∈OM x0, -9223372036854775808<=n/\n<=9223372036854775807):∀ (k i:Nat) (h:List ByteArray),i+k=9->h.length=i ->
  Mk (k+1) (i:Int) h x0 [⟨.sl .str,h++EK UN (RV.drop i) ((OM x0).drop i)⟩,⟨.int .i64,0⟩]:=by
 intro k
 induction k with
 | zero =>
  intro i h hi hl;obtain rfl:i=9:=by omega
  rw [Mk,if_neg (by decide)];have e:EK UN (RV.drop 9) ((OM x0).drop 9)=[]:=rfl;rw [e,c6]
 | succ k ih =>
  intro i h hi hl;have lW:RV.length=9:=rfl;have lN:(OM x0).length=9:=rfl;have mw:=aQk _ (dN RV i aC (by omega));have mn:=hn _ (dN (OM x0) i 0 (by omega));have hz:=wC _ mn.1 mn.2;have hnext:=ih (i+1) (h++[UN (RV.getD i aC) ((OM x0).getD i 0)]) (by omega) (by rw [aO,hl];rfl);have e1:(((i+1:Nat)):Int)=(i:Int)+1:=by omega
  rw [e1] at hnext;rw [eH RV i aC (by omega),eH (OM x0) i 0 (by omega),List.zipWith_cons_cons];rw [bS] at hnext;rw [Mk,if_pos (by simp only [decide_eq_true_eq];omega)];have s1:(aA #[32]).size=1:=rfl;have hws:(RV.getD i aC).size+1<=9223372036854775807:=by omega
  have hsum:(RV.getD i aC++aA #[32]).size+(C0 ((OM x0).getD i 0)).size<=9223372036854775807:=by
   rw [aS,s1];omega
  simp only [aF];exact ⟨by omega,by omega,hws,by omega,by omega,⟨rfl,trivial⟩,hsum,by omega,by rw [aK];omega,hnext⟩
theorem aW0 (x0:(fV)) (hw:Wf (.cons (.sl (.cons .str (.cons (.int .i64) (.cons (.int .i64) (.cons (.int .i64) .unit))))) (.cons (.cons (.int .i64) (.cons (.int .i64) (.cons (.int .i64) (.cons (.int .i64) .unit)))) (.cons (.sl (.cons (.int .i64) (.cons (.int .i64) (.cons (.int .i64) .unit)))) (.cons (.sl (.cons (.int .i64) (.cons (.int .i64) (.cons (.int .i64) .unit)))) (.cons (.cons (.int .i64) (.cons (.int .i64) (.cons (.int .i64) .unit))) (.cons (.cons (.int .i64) (.cons (.int .i64) (.cons (.int .i64) .unit))) (.cons (.sl (.cons .str (.cons (.int .i64) (.cons (.int .i64) .unit)))) (.cons (.cons (.int .i64) (.cons (.int .i64) (.cons (.int .i64) (.cons (.int .i64) .unit)))) (.cons (.sl (.cons .str (.cons (.int .i64) (.cons (.int .i64) (.cons (.int .i64) .unit))))) (.cons (.sl (.cons (.int .i64) (.cons (.int .i64) (.cons (.int .i64) .unit)))) (.cons (.sl (.cons .str (.cons (.int .i64) (.cons (.int .i64) .unit)))) (.cons (.sl (.cons .str (.cons (.int .i64) (.cons (.int .i64) .unit)))) .unit)))))))))))) x0):∃ n,aOM n x0 [⟨.sl .str,Ml x0⟩,⟨.int .i64,WU x0⟩]:=by
 unfold Ml WU;cases hv:BW x0 with
 | false =>
  refine ⟨1,?_⟩;rw [aOM,if_pos (by rw [hv];rfl)];rfl
 | true =>
  refine ⟨9+1+1,?_⟩;rw [aOM,if_neg (by rw [hv];simp)];exact aWz x0 (bDB x0 hw) 9 0 [] (by omega) rfl
def bDC:=dR aOL (λ⟨x0,_⟩=>bL9 x0) λ⟨x0,_⟩=>[⟨.sl .str,Ml x0⟩,⟨.int .i64,WU x0⟩]
theorem aW1:c7 161 bDC:=dF bL8 (λ⟨x0,_⟩ h hwf K q =>
 let ⟨n,hn⟩:=aW0 x0 hwf.1
 (aWy _ K q n).1 hn)
noncomputable def d86:dB:=⟨86,Tryz.f86,[.p vP,.v Gl],[.sl .str,.int .i64],[],[(155,bCh),(126,V0),(156,bCM),(127,aG0),(157,bCX),(158,bDc),(159,aJL),(160,bDu),(161,bDC),(71,S71)],false,[]⟩
theorem o86:FO d86:=mo Tryz.func86 ⟨aU0,DX,aVs,QJ,aVF,aVO,V8,aWo,aW1,aPV,trivial⟩
def P86 (x0:fV) (x1:ByteArray×ByteArray×List Int×List Int×Unit):Prop:=(if (aB x1.1==aB (aA #[115,108,111,119,101,115,116]))=true then ((Ze x0 x1)/\((BG (wQ x0 x1))/\True)) else (if (aB x1.1==aB (aA #[114,101,115,101,114,118,101]))=true then ((Ze x0 x1)/\((BG (wQ x0 x1))/\True)) else (if (aB x1.1==aB (aA #[112,111,119,101,114]))=true then ((Ze x0 x1)/\((BG (wQ x0 x1))/\True)) else (if (aB x1.1==aB (aA #[118,111,116,101]))=true then ((Ze x0 x1)/\((BG (wQ x0 x1))/\True)) else (if (aB x1.1==aB (aA #[119,97,116,101,114]))=true then ((Ze x0 x1)/\((BG (wQ x0 x1))/\True)) else (if (aB x1.1==aB (aA #[114,117,110,110,105,110,103]))=true then ((aDs x0 x1)/\True) else (if (aB x1.1==aB (aA #[99,111,118,101,114]))=true then ((aDs x0 x1)/\True) else (if (aB x1.1==aB (aA #[113,117,101,117,101]))=true then ((aDs x0 x1)/\True) else (if (aB x1.1==aB (aA #[102,105,108,108]))=true then ((aDs x0 x1)/\True) else (if (aB x1.1==aB (aA #[116,114,105,112,115]))=true then ((aO4 x0.2.2.2.2.2.2.2.2.1 x1.2.2.2.1)/\True) else (if (aB x1.1==aB (aA #[100,117,101]))=true then ((0<(x1.2.2.1.length:Int))/\((1<(x1.2.2.1.length:Int))/\((aOD x0.2.2.2.2.2.2.2.2.2.1 (aD x1.2.2.1 0 0) (aD x1.2.2.1 1 0))/\((OI (aD1 x0.2.2.2.2.2.2.2.2.2.1 (aD x1.2.2.1 0 0) (aD x1.2.2.1 1 0)))/\True)))) else (if (aB x1.1==aB (aA #[114,101,112,111,114,116]))=true then ((aOK x0.2.2.2.2.2.2.2.2.2.1)/\True) else True))))))))))))
def aFo (x0:fV) (x1:ByteArray×ByteArray×List Int×List Int×Unit):List ByteArray:=(if (aB x1.1==aB (aA #[115,108,111,119,101,115,116]))=true then [dU (wQ x0 x1)] else (if (aB x1.1==aB (aA #[114,101,115,101,114,118,101]))=true then [dU (wQ x0 x1)] else (if (aB x1.1==aB (aA #[112,111,119,101,114]))=true then [dU (wQ x0 x1)] else (if (aB x1.1==aB (aA #[118,111,116,101]))=true then [dU (wQ x0 x1)] else (if (aB x1.1==aB (aA #[119,97,116,101,114]))=true then [dU (wQ x0 x1)] else (if (aB x1.1==aB (aA #[114,117,110,110,105,110,103]))=true then [n9 (Mc x0 x1)] else (if (aB x1.1==aB (aA #[99,111,118,101,114]))=true then [n9 (Mc x0 x1)] else (if (aB x1.1==aB (aA #[113,117,101,117,101]))=true then [n9 (Mc x0 x1)] else (if (aB x1.1==aB (aA #[102,105,108,108]))=true then [n9 (Mc x0 x1)] else (if (aB x1.1==aB (aA #[116,114,105,112,115]))=true then Me x0.2.2.2.2.2.2.2.2.1 x1.2.2.2.1 else (if (aB x1.1==aB (aA #[100,117,101]))=true then [u0 (aD1 x0.2.2.2.2.2.2.2.2.2.1 (aD x1.2.2.1 0 0) (aD x1.2.2.1 1 0))] else (if (aB x1.1==aB (aA #[114,101,112,111,114,116]))=true then Mj x0.2.2.2.2.2.2.2.2.2.1 else (if (aB x1.1==aB (aA #[115,104,111,119]))=true then Ml x0 else N4)))))))))))))
def aQl (x0:fV) (x1:ByteArray×ByteArray×List Int×List Int×Unit):Int:=(if (aB x1.1==aB (aA #[115,108,111,119,101,115,116]))=true then M8 x0 x1 else (if (aB x1.1==aB (aA #[114,101,115,101,114,118,101]))=true then M8 x0 x1 else (if (aB x1.1==aB (aA #[112,111,119,101,114]))=true then M8 x0 x1 else (if (aB x1.1==aB (aA #[118,111,116,101]))=true then M8 x0 x1 else (if (aB x1.1==aB (aA #[119,97,116,101,114]))=true then M8 x0 x1 else (if (aB x1.1==aB (aA #[114,117,110,110,105,110,103]))=true then Qs x0 x1 else (if (aB x1.1==aB (aA #[99,111,118,101,114]))=true then Qs x0 x1 else (if (aB x1.1==aB (aA #[113,117,101,117,101]))=true then Qs x0 x1 else (if (aB x1.1==aB (aA #[102,105,108,108]))=true then Qs x0 x1 else (if (aB x1.1==aB (aA #[116,114,105,112,115]))=true then WM x0.2.2.2.2.2.2.2.2.1 x1.2.2.2.1 else (if (aB x1.1==aB (aA #[100,117,101]))=true then aKR x0.2.2.2.2.2.2.2.2.2.1 (aD x1.2.2.1 0 0) (aD x1.2.2.1 1 0) else (if (aB x1.1==aB (aA #[114,101,112,111,114,116]))=true then WT x0.2.2.2.2.2.2.2.2.2.1 else (if (aB x1.1==aB (aA #[115,104,111,119]))=true then WU x0 else 0)))))))))))))
def S86:=dR d86 (λ⟨x0,x1,_⟩=>P86 x0 x1) λ⟨x0,x1,_⟩=>[⟨.sl .str,aFo x0 x1⟩,⟨.int .i64,aQl x0 x1⟩]
theorem bDD:c7 86 S86:=dF o86 λ⟨x0,x1,_⟩ h _ K q=>o3 h (λh=>c1 h λh=>c1 h λh=>rt) λh=>o3 h (λh=>c1 h λh=>c1 h λh=>rt) λh=>o3 h (λh=>c1 h λh=>c1 h λh=>rt) λh=>o3 h (λh=>c1 h λh=>c1 h λh=>rt) λh=>o3 h (λh=>c1 h λh=>c1 h λh=>rt) λh=>o3 h (λh=>c1 h λh=>tv<|rt) λh=>o3 h (λh=>c1 h λh=>tv<|rt) λh=>o3 h (λh=>c1 h λh=>tv<|rt) λh=>o3 h (λh=>c1 h λh=>tv<|rt) λh=>o3 h (λh=>c1 h λh=>rt) λh=>o3 h (λh=>tP ((by decide):(0:Int)<=(0:Int))<|c1 h λh=>tP ((by decide):(0:Int)<=(1:Int))<|c1 h λh=>c1 h λh=>c1 h λh=>rt) λh=>o3 h (λh=>c1 h λh=>rt) λh=>e2 (tv<|rt) (tv<|rt)
noncomputable def d22:dB:=⟨22,Tryz.f22,[.po vP,.v Gl],[.sl .str,.int .i64,.bool],[],[(69,S69),(84,S84),(85,S85),(86,S86)],false,[]⟩
theorem o22:FO d22:=mo Tryz.func22 ⟨aPU,bAU,bBj,bDD,trivial⟩
def P22 (x0:fV) (x1:ByteArray×ByteArray×List Int×List Int×Unit):Prop:=(if (aB (jD x1.1)==aB (aA #[116]))=true then ((P84 x0 x1)/\True) else (if (aB x1.1==aB (aA #[101,118,101,110,116]))=true then ((P85 x0 x1)/\True) else (if (aB x1.1==aB (aA #[108,105,109,105,116]))=true then ((P85 x0 x1)/\True) else ((P86 x0 x1)/\True))))
def u5 (x0:fV) (x1:ByteArray×ByteArray×List Int×List Int×Unit):List ByteArray:=(if (aB (jD x1.1)==aB (aA #[116]))=true then [aA #[111,107]] else (if (aB x1.1==aB (aA #[101,118,101,110,116]))=true then Z3 x0 x1 else (if (aB x1.1==aB (aA #[108,105,109,105,116]))=true then Z3 x0 x1 else aFo x0 x1)))
def C6 (x0:fV) (x1:ByteArray×ByteArray×List Int×List Int×Unit):Int:=(if (aB (jD x1.1)==aB (aA #[116]))=true then Z1 x0 x1 else (if (aB x1.1==aB (aA #[101,118,101,110,116]))=true then Z4 x0 x1 else (if (aB x1.1==aB (aA #[108,105,109,105,116]))=true then Z4 x0 x1 else aQl x0 x1)))
def Ke (x0:fV) (x1:ByteArray×ByteArray×List Int×List Int×Unit):Bool:=(if (aB (jD x1.1)==aB (aA #[116]))=true then Z0 x0 x1 else (if (aB x1.1==aB (aA #[101,118,101,110,116]))=true then true else (if (aB x1.1==aB (aA #[108,105,109,105,116]))=true then true else true)))
def Kf (x0:fV) (x1:ByteArray×ByteArray×List Int×List Int×Unit):fV:=(if (aB (jD x1.1)==aB (aA #[116]))=true then (Z2 x0 x1) else (if (aB x1.1==aB (aA #[101,118,101,110,116]))=true then (Z5 x0 x1) else (if (aB x1.1==aB (aA #[108,105,109,105,116]))=true then (Z5 x0 x1) else x0)))
def S22:=wD d22 (λ⟨x0,x1,_⟩=>P22 x0 x1) (λ⟨x0,x1,_⟩=>[some ⟨.cons (.sl gT) YA1,[Kf x0 x1]⟩]) λ⟨x0,x1,_⟩=>[⟨.sl .str,u5 x0 x1⟩,⟨.int .i64,C6 x0 x1⟩,⟨.bool,Ke x0 x1⟩]
theorem bDE:c7 22 S22:=dF o22 λ⟨x0,x1,_⟩ h _ K q=>tv<|aQF h (λh=>c1 h λh=>rt) λh=>aQF h (λh=>tT<|c1 h λh=>rt) λh=>aQF h (λh=>c1 h λh=>rt) λh=>c1 h λh=>rt
noncomputable def d23:dB:=⟨23,Tryz.f23,[.v (.int .i64)],[.str],[],[],false,[]⟩
theorem o23:FO d23:=mo Tryz.func23 trivial
def P23 (x0:Int):Prop:=(if (decide (x0<0))=true then True else (if (decide (x0>=12))=true then True else ((0<=x0)/\(x0<12)/\True)))
def aAf (x0:Int):ByteArray:=(if (decide (x0<0))=true then aA #[] else (if (decide (x0>=12))=true then aA #[] else aD [aA #[111,107],aA #[105,110,118,97,108,105,100],aA #[114,97,110,103,101],aA #[110,111,116,45,102,111,117,110,100],aA #[101,120,105,115,116,115],aA #[102,117,108,108],aA #[115,116,97,116,101],aA #[111,114,100,101,114],aA #[115,121,110,116,97,120],aA #[102,111,114,109,97,116],aA #[99,104,101,99,107,115,117,109],aA #[116,114,117,110,99,97,116,101,100]] (aE x0) aC))
def S23:=dR d23 (λ⟨x0,_⟩=>P23 x0) λ⟨x0,_⟩=>[⟨.str,aAf x0⟩]
theorem bDF:c7 23 S23:=dF o23 λ⟨x0,_⟩ h _ K q=>N1 h (λh=>tT<|rt) λh=>N1 h (λh=>rt) λh=>c2 h λh=>rt
noncomputable def d8:dB:=⟨8,Tryz.f8,[.v vP,.v (.str)],[.cons (.sl gT) YA1,.sl .str,.int .i64],[.frz,.own,.own],[(19,S19),(20,S20),(21,S21),(22,S22),(23,S23)],false,[]⟩
theorem o8:FO d8:=mo Tryz.func8 ⟨aPT,aZ0,aZA,bDE,bDF,trivial⟩
def P8 (x0:fV) (x1:ByteArray):Prop:=(if (!BW x0)=true then True else ((P20 x1)/\(if (!KE x1)=true then True else ((P21 x0)/\((P22 (jE x0) (iN x1))/\(if (!Ke (jE x0) (iN x1))=true then True else (if (C6 (jE x0) (iN x1) != 0)=true then ((P21 x0)/\((P23 (C6 (jE x0) (iN x1)))/\((6+aH (aAf (C6 (jE x0) (iN x1)))<=9223372036854775807)/\True))) else (if ((↑(aN (u5 (jE x0) (iN x1))):Int)==0)=true then True else (if ((↑(aN (u5 (jE x0) (iN x1))):Int)==1)=true then ((0<(↑(aN (u5 (jE x0) (iN x1))):Int))/\True) else True)))))))))
def GB (x0:fV) (x1:ByteArray):fV:=(if (!BW x0)=true then ([],(0,0,0,0,()),[],[],(0,0,0,()),(0,0,0,()),[],(0,0,0,0,()),[],[],[],[],()) else (if (!KE x1)=true then ([],(0,0,0,0,()),[],[],(0,0,0,()),(0,0,0,()),[],(0,0,0,0,()),[],[],[],[],()) else (if (!Ke (jE x0) (iN x1))=true then ([],(0,0,0,0,()),[],[],(0,0,0,()),(0,0,0,()),[],(0,0,0,0,()),[],[],[],[],()) else (if (C6 (jE x0) (iN x1) != 0)=true then (jE x0) else (if ((↑(aN (u5 (jE x0) (iN x1))):Int)==0)=true then (Kf (jE x0) (iN x1)) else (if ((↑(aN (u5 (jE x0) (iN x1))):Int)==1)=true then (if (aB (aD (u5 (jE x0) (iN x1)) 0 aC)==aB (aA #[]))=true then (Kf (jE x0) (iN x1)) else (Kf (jE x0) (iN x1))) else (Kf (jE x0) (iN x1))))))))
def Ai (x0:fV) (x1:ByteArray):List ByteArray:=(if (!BW x0)=true then [] else (if (!KE x1)=true then [] else (if (!Ke (jE x0) (iN x1))=true then [] else (if (C6 (jE x0) (iN x1) != 0)=true then [aA #[101,114,114,111,114,32]++aAf (C6 (jE x0) (iN x1))] else (if ((↑(aN (u5 (jE x0) (iN x1))):Int)==0)=true then [aA #[110,111,110,101]] else (if ((↑(aN (u5 (jE x0) (iN x1))):Int)==1)=true then (if (aB (aD (u5 (jE x0) (iN x1)) 0 aC)==aB (aA #[]))=true then [aA #[110,111,110,101]] else u5 (jE x0) (iN x1)) else u5 (jE x0) (iN x1)))))))
def RW (x0:fV) (x1:ByteArray):Int:=(if (!BW x0)=true then 1 else (if (!KE x1)=true then 8 else (if (!Ke (jE x0) (iN x1))=true then 8 else (if (C6 (jE x0) (iN x1) != 0)=true then 0 else (if ((↑(aN (u5 (jE x0) (iN x1))):Int)==0)=true then 0 else (if ((↑(aN (u5 (jE x0) (iN x1))):Int)==1)=true then (if (aB (aD (u5 (jE x0) (iN x1)) 0 aC)==aB (aA #[]))=true then 0 else 0) else 0))))))
def S8:=dR d8 (λ⟨x0,x1,_⟩=>P8 x0 x1) λ⟨x0,x1,_⟩=>[⟨.cons (.sl gT) YA1,GB x0 x1⟩,⟨.sl .str,Ai x0 x1⟩,⟨.int .i64,RW x0 x1⟩]
theorem bLA:c7 8 S8:=dF o8 λ⟨x0,x1,_⟩ h _ K q=>tv<|e3h h (λh=>rt) λh=>c1 h λh=>e3h h (λh=>rt) λh=>c1 h λh=>c1 h λh=>e3h h (λh=>rt) λh=>e3h h (λh=>c1 h λh=>c1 h λh=>c1 h λh=>rt) λh=>e3h h (λh=>tT<|rt) λh=>e3h h (λh=>tP ((by decide):(0:Int)<=(0:Int))<|c1 h λh=>e3 (rt) (rt)) λh=>tF<|rt
end
end Go.Proofs.YtmhpnodnljbnjaaGreatDoor
set_option maxRecDepth 100000
namespace Go.Proofs.YtmhpnodnljbnjaaGreatDoor
open Go Go.Am Go.Proofs Go.RowKit
structure JC (X:List Nat) (w:World) (Y:List Nat) (w':World):Prop where
 kept:cE X w w'
 new:∀ x∈Y,x∈X\/w.heap.size<=x
theorem JC.trans {X Y Z:List Nat} {a b c:World} (h:JC X a Y b) (k:JC Y b Z c):JC X a Z c where
 kept:=⟨k.kept.os.trans h.kept.os,k.kept.tape.trans h.kept.tape,k.kept.output.trans h.kept.output,cO h.kept.size k.kept.size,λi hi hx=>(k.kept.block i (cK hi h.kept.size) (λhy=>(h.new i hy).elim hx (λh'=>by omega))).trans (h.kept.block i hi hx)⟩
 new:=λx hx=>(k.new x hx).elim (λhy=>h.new x hy) (λhy => .inr (cO h.kept.size hy))
theorem JC.good {X Y:List Nat} {a b:World} (h:JC X a Y b) (i:Nat) (hi:dM a X i):dM b Y i:=⟨cK hi.1 h.kept.size,λhy=>(h.new i hy).elim hi.2 (λh'=>by have:=hi.1;omega)⟩
theorem JC.same {X Y:List Nat} {a b:World} (h:JC X a Y b) (i:Nat) (hi:dM a X i):b.heap[i]? = a.heap[i]? := h.kept.block i hi.1 hi.2
theorem JC.keep {X Y:List Nat} {a b:World} (h:JC X a Y b) {t:Ty} {x:t.den} {cs:List Value} (hr:dW a (dM a X) t x cs):dW b (dM b Y) t x cs:=hr.keep h.good h.same
theorem JC.cons {X Y:List Nat} {a b:World} (h:JC X a Y b) (d:Nat):JC (d :: X) a (d :: Y) b:=⟨h.kept.mono λi hi=>aM _ hi,λx hx=>by
 rcases aR.1 hx with rfl | hx
 ·exact .inl (aQ ..)
 ·exact (h.new x hx).imp (aM _) id⟩
def Bld (b:Nat) (bs:List Value) (X:List Nat) (w:World):Prop:=vE 62 5 b b bs w/\b∈X/\(∀ x∈X,x<w.heap.size)/\∀ v g,w.cell? ⟨b,1,none⟩=some v->v.ownBlock=some g->g∈X
theorem chk (b:Nat) (bs:List Value) (w:World) (h:vE 62 5 b b bs w) :
  Calls aL 56 #[.pointer (some ⟨b,0,none⟩)] w λe w'=>e = .returned (.tuple #[])/\GV 62 5 b b (.pointer (some ⟨b,0,none⟩)) bs w'/\cE [b] w w'/\w'.cell? ⟨b,1,none⟩=w.cell? ⟨b,1,none⟩:=by
 rcases h with h | h
 ·refine (aGv b w h.cell0 h.shape h.frozen0).mono ?_;rintro e w' ⟨rfl,rfl⟩;exact ⟨rfl,h.used _,⟨rfl,rfl,rfl,by simp [nP],λk hk hx=>Below.heap_setCell _ _ _ _ (λe=>hx (by simp [e]))⟩,World.cell?_setCell_other _ _ _ _ (by simp)⟩
 ·refine (aID b w h.cell0).mono ?_;rintro e w' ⟨rfl,rfl⟩;exact ⟨rfl,h,cI _ _,rfl⟩
theorem aON {P:Program} (w:World) (base:Nat) (t u ty e:TypeId) (i:TypeInfo) (ht:P.underlying t=some (.slice e)) (hu:P.underlying u=some .string) (hi:P.info? e=some i) (hz:i.zero=some (.int .u8 0))
  (hsize:i.size=1) (hby:i.bytes=1) (v:Value) (n:Nat) (xs:List Value) (hown:w.ownsRowF base e 1 v n xs) (s:ByteArray)
  (h63:n+s.size<=maxLen) (hbytes:n+s.size<=140737488355328) (hbase:base<=w.heap.size) :
  ∃ v' w',(gD #[t,u] ty #[v,.string s]).run P w = .ok v' w'/\w'.ownsRowF base e 1 v' (n+s.size) (xs++gC s)/\w.grownBy w' v.ownBlock/\∀ g,v'.ownBlock=some g->v.ownBlock=some g\/w.heap.size<=g:=by
 rcases hown.2 with ⟨rfl,rfl⟩ | ⟨g,cap,cur,fz,rfl,hbg,hg,hfz,hnc,hcm,hcs,htake⟩
 ·obtain ⟨v',w',h1,h2,h3,h4⟩:=Lib.run_append_own_string (P:=P) w w.heap.size t u ty e i ht hu hi hz hsize hby (.slice none 0 0) 0 xs ⟨hown.1,.inl ⟨rfl,rfl⟩⟩ s h63 hbytes (aT _);have h2':=World.ownsRowF_of h2;refine ⟨v',w',h1,⟨h2'.1,?_⟩,h3,λg hg => .inr (h2'.lt g hg).1⟩;rcases h2'.2 with q | ⟨g,cap,cur,fz,e1,e2,e3⟩
  ·exact .inl q
  ·exact .inr ⟨g,cap,cur,fz,e1,cO hbase e2,e3⟩
 ·have hsmall:n+s.size<=9223372036854775807:=by simp only [maxLen] at h63;omega
  have hxl:xs.length=n:=by simpa using hown.1
  have hlen:(xs++gC s).length=(n+s.size)*1:=by rw [aO,hxl,kY,Nn]
  by_cases hroom:n+s.size<=cap
  ·have hcs':cur.size=cap:=by simpa using hcs
   have hr:=Lib.run_append_room_stringF (P:=P) w t u ty e i ht hu hi hsize g n cap cur fz hg (by simpa using hfz) s hroom (by omega);refine ⟨_,_,hr,⟨hlen,.inr ⟨g,cap,_,fz,rfl,hbg,setRow_heap w g cur _ e _ hg,by omega,hroom,hcm,?_,?_⟩⟩,⟨rfl,rfl,rfl,by simp,λk _ hk=>setRow_other w g k _ (λe=>hk (by simp [GT,e]))⟩,λk hk => .inl hk⟩
   ·simp only [dK,aO,cJ,List.length_drop,cT,kY];omega
   ·have ht':cur.toList.take n=xs:=by simpa using htake
    rw [ht', <- hlen];exact jY
  ·have holds:∀ j u,xs[j]? = some u->w.cell? ((⟨g,0,none⟩:Addr).add j)=some u:=hown.cells (g:=g) rfl;have hr:=Lib.run_append_grow_string (P:=P) w t u ty e i (.int .u8 0) ht hu hi hz ⟨g,0,none⟩ n cap xs (by rw [hsize];simpa using hxl) holds s (by omega) (by omega) (by rw [hby];exact growslice_fits (by omega) (by omega));have hge:=grownCap_ge w (n+s.size) cap e;have hcm2:grownCap w (n+s.size) cap e<=maxLen:=grownCap_le_maxLen w (n+s.size) cap e h63;refine ⟨_,_,hr,⟨hlen,.inr ⟨w.heap.size,_,_,(0,0),rfl,hbase,heap_alloc_new w.drew _,bW _,hge,hcm2,?_,?_⟩⟩,⟨rfl,rfl,rfl,by simp,λk hk _=>by first | exact heap_alloc_old w.drew _ k hk | exact heap_alloc_old w.drew _ hk⟩,λk hk => .inr ?_⟩
   ·have hz1:(Value.int .u8 0).cells.size=1:=rfl;simp only [Array.size_append,dK,size_zeroCells,hz1,hxl,kY];omega
   ·simp only [kX,bS];rw [<- bS, <- hlen];exact jY
   ·simp only [GT,Option.some.injEq] at hk;exact Nat.le_of_eq hk
theorem aDU {P:Program} {w:World} {ops:Array Oper} {rest:List Oper} {o:Oper} {a:Act} {Q:Exit->Act->World->Prop} (hgd:o.guard=none) (sl x:Operand) (t u:TypeId)
  (ho:o.op = .call { callee := .builtin .append,args := #[sl,x],argTypes := #[t,u] })
  (base:Nat) (e:TypeId) (i:TypeInfo) (ht:P.underlying t=some (.slice e)) (hu:P.underlying u=some .string) (hi:P.info? e=some i) (hz:i.zero=some (.int .u8 0))
  (hsize:i.size=1) (hby:i.bytes=1)
  (v:Value) (n:Nat) (xs:List Value) (hs:a.eval sl=v) (hown:w.ownsRowF base e 1 v n xs) (s:ByteArray) (hx:a.eval x = .string s)
  (h63:n+s.size<=maxLen) (hbytes:n+s.size<=140737488355328) (hbase:base<=w.heap.size)
  (h:∀ v' w',w'.ownsRowF base e 1 v' (n+s.size) (xs++gC s)->w.grownBy w' v.ownBlock->(∀ g,v'.ownBlock=some g->v.ownBlock=some g\/w.heap.size<=g)->wpList P ops Q rest (a.put o.dst v') w'):wpList P ops Q (o :: rest) a w:=by
 refine wpList_plain hgd λK hK => ?_;obtain ⟨v',w',hr,h2,h3,h4⟩:=aON (P:=P) w base t u o.type e i ht hu hi hz hsize hby v n xs hown s h63 hbytes hbase;unfold Oper.wp execOp;simp only [ho,resolve,invoke,builtin,bO,cM,aW,Cv,bP,kM,hs,hx,hr];exact hK _ _ (h v' w' h2 h3 h4)
set_option maxHeartbeats 2000000 in
theorem wrt (b:Nat) (bs:List Value) (s:ByteArray) (X:List Nat) (w:World) (h:Bld b bs X w) (hlen:bs.length+s.size<=140737488355328) :
  Calls aL 17 #[.pointer (some ⟨b,0,none⟩),.string s] w λe w'=>e = .returned (.tuple #[.int .i64 s.size,.nilIface])/\∃ Y,(∀ x∈X,x∈Y)/\Bld b (bs++gC s) Y w'/\JC X w Y w':=by
 obtain ⟨hb,hbX,hXl,hgX⟩:=h;have HG:Aside (∀ v g,w.cell? ⟨b,1,none⟩=some v->v.ownBlock=some g->g∈X):=hgX;have HX:Aside (∀ x∈X,x<w.heap.size):=hXl;have HB:Aside (b∈X):=hbX;clear hgX hXl hbX;obtain ⟨i0,hi,hz0,hz1,hz2⟩:=info_parts (P:=aL) (e:=5) (z := .int .u8 0) (size:=1) (bytes:=1) (by kernel_rfl);have mixed:=mixed
 go_enter Tryz.func17,Tryz.ntmps17
 go_wp2_with (go_at_call 56;refine (chk b bs _ hb).mono ?_)
 rintro e w1 ⟨rfl,h1,hk1,hc1⟩;have HK:Aside (cE [b] w w1):=hk1;have HC:Aside (w1.cell? ⟨b,1,none⟩=w.cell? ⟨b,1,none⟩):=hc1;have s1:=hk1.size;clear hk1 hc1;obtain ⟨hB,v,hbk,hown,hne⟩:=h1;have c0:w1.cell? ⟨b,0,none⟩=some (.pointer (some ⟨b,0,none⟩)):=by rw [rP hbk];rfl
 have c1:w1.cell? ⟨b,1,none⟩=some v:=by rw [rP hbk];rfl
 have hlt:b<w1.heap.size:=by
  rcases eK b w1.heap.size with h' | h'
  ·exact h'
  ·simp [Array.getElem?_eq_none h'] at hbk
 go_wp2_with (at_builtin;refine aDU rfl _ _ 22 9 rfl b 5 i0 Tryz.underlying22 Tryz.underlying9 hi hz0 hz1 hz2 _ _ _ rfl hown s rfl ?c3 ?c4 ?c5 ?_)
 case c3=>unfold maxLen;omega
 case c4=>omega
 case c5=>omega
 intro v' w2 hown' hgrow hnew;have HN:Aside (∀ g,v'.ownBlock=some g->v.ownBlock=some g\/w1.heap.size<=g):=hnew;clear hnew;have hb2:w2.heap[b]? = some (.cells #[.pointer (some ⟨b,0,none⟩),v] 62 (0,0)):=by
  rw [hgrow.block b hlt (λe=>hne e.symm)];exact hbk
 have d0:w2.cell? ⟨b,0,none⟩=some (.pointer (some ⟨b,0,none⟩)):=by rw [rP hb2];rfl
 have d1:w2.cell? ⟨b,1,none⟩=some v:=by rw [rP hb2];rfl
 have f1:w2.frozen? ⟨b,1,none⟩=false:=Lib.frozen_of_heap hb2 1;obtain ⟨ao,n',cap,rfl⟩:∃ ao n' cap,v' = .slice ao n' cap:=by
  rcases hown'.2 with ⟨hv,_⟩ | ⟨g,cap,cur,fz,hv,_⟩
  ·exact ⟨_,_,_,hv⟩
  ·exact ⟨_,_,_,hv⟩
 go_wp2
 go_ret2
 have gX:∀ g,v.ownBlock=some g->g∈X:=λg hg=>HG.out v g (by rw [<- HC.out];exact c1) hg;have z2:(w2.setCell ⟨b,1,none⟩ (.slice ao n' cap)).heap.size=w2.heap.size:=by simp [nP]
 refine ⟨rfl,(Value.slice ao n' cap).ownBlock.toList++X,λx hx=>bF _ hx,⟨.inr (Lib.BuilderAtF.put (T:=62) (e:=5) hB hb2 (bs':=bs++gC s) (by simpa [kY] using hown') (by decide)),bF _ HB.out,λx hx => ?_,λv0 g hv0 hg => ?_⟩,⟨⟨?_,?_,?_,?_,λk hk hx => ?_⟩,λx hx => ?_⟩⟩
 ·rw [z2];rcases bU.1 hx with hx | hx
  ·exact (hown'.lt x (by simpa using hx)).2
  ·have:=HX.out x hx;have:=hgrow.size;omega
 ·rw [World.cell?_setCell_same _ _ _ d1] at hv0;cases hv0;exact List.mem_append_left _ (by simpa using hg)
 ·exact hgrow.os.trans HK.out.os
 ·exact hgrow.tape.trans HK.out.tape
 ·exact hgrow.output.trans HK.out.output
 ·rw [z2];have:=hgrow.size;omega
 ·rw [show (w2.setCell ⟨b,1,none⟩ (.slice ao n' cap)).heap[k]? = w2.heap[k]? from Below.heap_setCell _ _ _ _ (λe=>hx (e ▸ HB.out)),hgrow.block k (by omega) (λe=>hx (gX k e.symm))];exact HK.out.block k hk (λe=>hx (by simp only [aR,bZ,or_false] at e;rw [e];exact HB.out))
 ·rcases bU.1 hx with hx | hx
  ·rcases HN.out x (by simpa using hx) with h | h
   ·exact .inl (gX x h)
   ·exact .inr (by omega)
  ·exact .inl hx
-- THE WALK
abbrev DY6:Ty:=(.cons (.sl (.cons .str (.cons (.int .i64) (.cons (.int .i64) (.cons (.int .i64) .unit))))) (.cons (.cons (.int .i64) (.cons (.int .i64) (.cons (.int .i64) (.cons (.int .i64) .unit)))) (.cons (.sl (.cons (.int .i64) (.cons (.int .i64) (.cons (.int .i64) .unit)))) (.cons (.sl (.cons (.int .i64) (.cons (.int .i64) (.cons (.int .i64) .unit)))) (.cons (.cons (.int .i64) (.cons (.int .i64) (.cons (.int .i64) .unit))) (.cons (.cons (.int .i64) (.cons (.int .i64) (.cons (.int .i64) .unit))) (.cons (.sl (.cons .str (.cons (.int .i64) (.cons (.int .i64) .unit)))) (.cons (.cons (.int .i64) (.cons (.int .i64) (.cons (.int .i64) (.cons (.int .i64) .unit)))) (.cons (.sl (.cons .str (.cons (.int .i64) (.cons (.int .i64) (.cons (.int .i64) .unit))))) (.cons (.sl (.cons (.int .i64) (.cons (.int .i64) (.cons (.int .i64) .unit)))) (.cons (.sl (.cons .str (.cons (.int .i64) (.cons (.int .i64) .unit)))) (.cons (.sl (.cons .str (.cons (.int .i64) (.cons (.int .i64) .unit)))) .unit))))))))))))
abbrev DT6:=(fV)
def WV (b:Nat) (cs:List Value) (w:World):Prop:=w.heap[b]? = some (.cells cs.toArray 44 (0,0))
theorem WV.keep {b:Nat} {cs:List Value} {w w':World} (h:WV b cs w) (he:w'.heap[b]? = w.heap[b]?):WV b cs w':=he.trans h
theorem Bld.keep {b:Nat} {bs:List Value} {X:List Nat} {w w':World} (h:Bld b bs X w) (hk:∀ x∈X,w'.heap[x]? = w.heap[x]?) (hs:w.heap.size<=w'.heap.size):Bld b bs X w':=by
 obtain ⟨h1,h2,h3,h4⟩:=h;have hb:w'.heap[b]? = w.heap[b]? := hk b h2;have hc:w'.cell? ⟨b,1,none⟩=w.cell? ⟨b,1,none⟩:=fB hb;have key:∀ {p:Value},GV 62 5 b b p bs w->GV 62 5 b b p bs w':=by
  rintro p ⟨q1,v,q2,q3,q4⟩;refine ⟨q1,v,hb.trans q2,⟨q3.1,?_⟩,q4⟩;rcases q3.2 with hn | ⟨g,cap,cur,fz,e1,e2,e3,e4⟩
  ·exact .inl hn
  ·refine .inr ⟨g,cap,cur,fz,e1,e2,(hk g (h4 v g ?_ (by rw [e1];rfl))).trans e3,e4⟩;rw [rP q2];rfl
 refine ⟨h1.elim (λx => .inl (key x)) (λx => .inr (key x)),h2,λx hx=>cK (h3 x hx) hs,λv g hv hg=>h4 v g (by rw [<- hc];exact hv) hg⟩
theorem aAg {w W:World} (h:E9 w []) (hk:cE [] w W):E9 W [] where
 inv:=h.inv.keep λb _ hs=>hk.block b hs (by simp)
 size:=cO h.size hk.size
 out:=h.out
theorem aOO {W:World} {b:Nat} (h:¬ dM W [] b):W.heap.size<=b:=by
 rcases eK b W.heap.size with h' | h'
 ·exact absurd ⟨h',by simp⟩ h
 ·exact h'
theorem el6 (W:World) (x0:ByteArray) (hgo:E9 W []) (hx:x0.size<=maxLen) (hp:P16 x0) :
  Calls aL 16 #[.string x0] W λe w'=>∃ lv bs,e = .returned (.tuple #[lv,.string (C4 x0)])/\cE [] W w'/\gB w' (.sl .str) (Hh x0) [lv] bs/\(∀ b∈bs,W.heap.size<=b)/\(C4 x0).size<=maxLen:=by
 refine (aYs.2 W (dM W []) (dM W []) (x0,()) [.string x0] [[]] hgo (λ_ h=>h) (λ_ h=>h) hp ⟨_,_,_,_,rfl,rfl,⟨rfl,rfl,hx⟩,rfl,rfl⟩ (by simp)).mono ?_;rintro e w' ⟨rs,ubs,rbs,F,rfl,hk,⟨v,s,b,bs,rfl,rfl,⟨cs,ho,hv⟩,v2,s2,b2,bs2,rfl,rfl,⟨cs2,ho2,hv2⟩,rfl,rfl⟩,_,_,hg,_⟩;have hv:cs=[v]:=hv;have hv2:cs2=[v2]:=hv2;subst hv hv2;obtain ⟨e2,hz,_⟩:=ho2;cases e2;exact ⟨v,b,rfl,hk,ho,λi hi=>aOO (hg i (by simp [hi])),hz⟩
theorem nd6 (W:World) (X:List Nat) (hgo:E9 W []) (hX:∀ x∈X,x<W.heap.size) :
  Calls aL 7 #[] W λe w'=>∃ cs,e = .returned (.agg cs.toArray)/\cE [] W w'/\dW w' (dM w' X) DY6 Sc cs:=by
 refine (bGP.2 W (λ_=>False) (λ_=>False) () [] [] hgo (λ_ h=>h.elim) (λ_ h=>h) trivial ⟨rfl,rfl⟩ (by simp)).mono ?_;rintro e w' ⟨rs,ubs,rbs,F,rfl,hk,⟨v,s,b,bs,rfl,rfl,⟨_,cs,hr,hv⟩,rfl,rfl⟩,_,_,_,hF⟩;have hv:v = .agg cs.toArray:=hv;subst hv;refine ⟨cs,rfl,hk,hr.keep (λi hi => ?_) (λ_ _=>rfl)⟩;rcases hi with hi | hi
 ·exact hi.elim
 ·obtain ⟨f1,f2,_⟩:=hF i hi;exact ⟨f1,λhx=>by have:=hX i hx;have:=aOO f2;omega⟩
theorem dk6 (W:World) (X:List Nat) (d:DT6) (cs:List Value) (ln:ByteArray) (hgo:E9 W []) (hX:∀ x∈X,x<W.heap.size) (hd:dW W (dM W X) DY6 d cs) (hl:ln.size<=maxLen) (hp:P8 d ln) :
  Calls aL 8 #[.agg cs.toArray,.string ln] W λe w'=>∃ cs' lv,e = .returned (.tuple #[.agg cs'.toArray,lv,.int .i64 (RW d ln)])/\cE [] W w'/\dW w' (dM w' X) DY6 (GB d ln) cs'/\dW w' (dM w' X) (.sl .str) (Ai d ln) [lv]:=by
 refine (bLA.2 W (dM W X) (dM W X) (d,ln,()) [.agg cs.toArray,.string ln] [[],[]] hgo (λb h=>⟨h.1,by simp⟩) (λ_ h=>h) hp ⟨_,_,_,_,rfl,rfl,⟨rfl,cs,rfl,hd⟩,_,_,_,_,rfl,rfl,⟨rfl,rfl,hl⟩,rfl,rfl⟩ (by simp)).mono ?_;rintro e w' ⟨rs,ubs,rbs,F,rfl,hk,⟨v,s,b,bs,rfl,rfl,⟨_,cs1,hr,hv⟩,v2,s2,b2,bs2,rfl,rfl,h2,v3,s3,b3,bs3,rfl,rfl,⟨cs3,ho3,hv3⟩,rfl,rfl⟩,_,_,hg,hF⟩;have hv:v = .agg cs1.toArray:=hv;have hv3:cs3=[v3]:=hv3;subst hv hv3;obtain ⟨e3,_,_⟩:=ho3;cases e3;have key:∀ i,(dM W X i\/F i)->dM w' X i:=λi hi=>by
  rcases hi with hi | hi
  ·exact ⟨cK hi.1 hk.size,hi.2⟩
  ·obtain ⟨f1,f2,_⟩:=hF i hi;exact ⟨f1,λhx=>by have:=hX i hx;have:=aOO f2;omega⟩
 refine ⟨cs1,v2,rfl,hk,hr.keep key (λ_ _=>rfl),?_⟩;obtain ⟨cs2,ho2,hv2⟩:=h2;have hv2:cs2=[v2]:=hv2;subst hv2;exact ho2.read λi hi=>⟨ho2.lt i hi,λhx=>by have:=hX i hx;have:=aOO (hg i (by simp [hi]));omega⟩
theorem aAh {w:World} {G:Nat->Prop} {xs:List ByteArray} {v:Value} (h:dW w G (.sl .str) xs [v]):∃ (ad:Option Addr) (cap:Nat),v = .slice ad xs.length cap/\∀ k,k<xs.length->∃ b off,ad=some ⟨b,off,none⟩/\G b/\w.cell? ⟨b,off+k,none⟩=some (.string (xs.getD k aC))/\(xs.getD k aC).size<=maxLen:=by
 obtain ⟨v',hv,h1,h2⟩:=h;cases hv;rcases h2 with ⟨ad,rfl,rfl⟩ | ⟨b,off,cap,rfl,q1,q2,q3,q4⟩
 ·exact ⟨ad,0,rfl,λk hk=>absurd hk (by simp)⟩
 ·refine ⟨_,cap,rfl,λk hk=>⟨b,off,rfl,q3,?_⟩⟩;obtain ⟨cs,z1,z2,z3⟩:=q4 k _ (oP xs k aC hk);obtain ⟨z3,z4⟩:=z3;subst z3;have:=z2 0 _ rfl;exact ⟨by simpa [jX] using this,z4⟩
theorem mk6 {w:World} {ys:List ByteArray} {b off cap n:Nat} {cur:Array Value} {ty:TypeId} {fz:Nat×Nat} (hn:n=ys.length) (hl:n<=cap) (hm:cap<=maxLen) (hz:off+cap<=cur.size) (hh:w.heap[b]? = some (.cells cur ty fz)) (hf:EQ 1 fz cur.size) (hs:∀ y∈ys,y.size<=maxLen)
  (hc:∀ (j:Nat) (y:ByteArray),ys[j]? = some y->cur[off+j]? = some (.string y)):gB w (.sl .str) ys [.slice (some ⟨b,off,none⟩) n cap] [b]:=by
 subst hn;refine ⟨_,rfl,cO hl hm,.inr ⟨b,off,cap,cur,ty,fz,ys.map λ_=>[],rfl,hl,hm,by simpa [jX] using hz,hh,hf,by simp,?_,λi x bi hx hbi => ?_⟩⟩
 ·have:(ys.map λ_=>([]:List Nat)).flatten=[]:=by simp
  rw [this]
 ·rw [gZ,hx] at hbi;cases hbi;refine ⟨[.string x],rfl,λj c hj => ?_,rfl,hs x (List.mem_of_getElem? hx),rfl⟩;rcases j with _ | j
  ·cases hj;simpa [jX] using hc i x hx
  ·simp at hj
theorem bDG {w:World} {xs:List ByteArray} {v:Value} {bs:List Nat} {s:ByteArray} {b':Nat} {ty:TypeId} (ho:gB w (.sl .str) xs [v] bs) (hs:s.size<=maxLen) (hb:w.cell? ⟨b',0,none⟩=some (.string s)) (hl:xs.length<=1000000000) :
  ∃ v' w' bs',(gD #[46,46] ty #[v,.slice (some ⟨b',0,none⟩) 1 1]).run aL w = .ok v' w'/\gB w' (.sl .str) (xs++[s]) [v'] bs'/\cE bs w w'/\∀ i∈bs',i∈bs\/w.heap.size<=i:=by
 obtain ⟨h1,hc⟩:=aIc ho;have he:oG aL 9 .str:=TI.ty_ok (vO 9) (by kernel_rfl);obtain ⟨i0,hi,_,_,hby⟩:=info_parts (P:=aL) (e:=9) (z := .string ⟨#[]⟩) (size:=1) (bytes:=16) (by kernel_rfl);have hx:∀ w':World,w'.heap=w.heap->(dZ kE.size 1 (.slice (some ⟨b',0,none⟩) 1 1)).run aL w' = .ok [gM s].toArray w':=λw' hw=>mW rfl (λj c hj=>by
  rcases j with _ | j
  ·cases hj;exact (fB (w:=w) (by rw [hw])).trans hb
  ·simp at hj)
 have hsz:∀ y∈xs++[s],y.size<=maxLen:=λy hy=>by
  rcases bU.1 hy with hy | hy
  ·exact h1 y hy
  ·simp only [aR,bZ,or_false] at hy;rw [hy];exact hs
 have hn1:(xs++[s]).length=xs.length+1:=by simp
 have fr:∀ (l:List Value),EQ 1 (0,0) l.toArray.size:=λl=>⟨λj _ h=>by omega,.inl rfl⟩;rcases hc with ⟨ad,rfl,rfl,rfl⟩ | ⟨b,off,cap,cur,ty',fz,rfl,q1,q2,q3,q4,q5,rfl,q6⟩
 ·obtain ⟨v',w',hr,hcase⟩:=AD (P:=aL) (w:=w) (T:=46) (T2:=46) (ty:=ty) (e:=9) (d := .slice 9) (t := .str) nH nH (λk h=>by cases h) hi he (by decide) (adr:=ad) (len:=0) (cap:=0) (m:=1) (x := .slice (some ⟨b',0,none⟩) 1 1) (olds:=[]) (news:=[.string s]) hx (λw'=>rfl) (λw' hw=>by cases ad <;> rfl) rfl rfl (by simp [SL]) (by rw [hby];decide) (by decide) (.inl rfl);rcases hcase with ⟨h,_⟩ | ⟨_,nc,rest,rfl,z1,z2,rfl,z3⟩
  ·exact absurd h (by decide)
  ·refine ⟨_,_,[w.heap.size],hr,mk6 (off:=0) rfl z1 z2 (by rw [dK,z3];simp [jX]) (heap_alloc_new w.drew _) (fr _) hsz (λj y hy => ?_),(cI [] w).drew.alloc _,λi hi => .inr ?_⟩
   ·rcases j with _ | j
    ·cases hy;rfl
    ·simp at hy
   ·simp only [aR,bZ,or_false] at hi;omega
 ·have holds:∀ w':World,w'.heap=w.heap->(dZ kE.size xs.length (.slice (some ⟨b,off,none⟩) xs.length cap)).run aL w' = .ok (xs.map gM).toArray w':=λw' hw=>mW (by simp [jX]) (λj c hj=>by
   rw [gZ] at hj;obtain ⟨y,hy,rfl⟩:=Option.map_eq_some_iff.1 hj;rw [fB (w:=w) (w':=w') (by rw [hw])];simp only [fQ, q4];exact q6 j y hy)
  obtain ⟨v',w',hr,hcase⟩:=AD (P:=aL) (w:=w) (T:=46) (T2:=46) (ty:=ty) (e:=9) (d := .slice 9) (t := .str) nH nH (λk h=>by cases h) hi he (by decide) (adr:=some ⟨b,off,none⟩) (len:=xs.length) (cap:=cap) (m:=1) (x := .slice (some ⟨b',0,none⟩) 1 1) (olds:=xs.map gM) (news:=[.string s]) hx (λw'=>rfl) holds (by simp [jX]) rfl (by simp [SL]) (by rw [hby];omega) (by unfold maxLen;omega) (.inr ⟨b,off,cur,ty',fz,rfl,q4,q5,by simpa [jX] using q3⟩);rcases hcase with ⟨h,h2⟩ | ⟨_,nc,rest,rfl,z1,z2,rfl,z3⟩
  ·rcases h2 with ⟨_,_,_,h0,_⟩ | ⟨_,b2,o2,cur2,ct2,fz2,cur',e1,e2,e3,e4,rfl,e6,e7,e8⟩
   ·exact absurd h0 (by decide)
   ·cases e1;rw [q4] at e2;cases e2;have hcl:cur'.size=cur.size:=by
     have:=congrArg aN e7;rw [lK (show off+xs.length*kE.size+1<=cur.toList.length from by rw [cT (xs:=cur),show kE.size=1 from rfl];omega),cT,cT] at this;exact this
    refine ⟨_,_,[b],hr,mk6 hn1.symm h q2 (by rw [hcl];exact q3) e6 (by rw [hcl];exact q5) hsz (λj y hy => ?_),e8,λi hi => .inl hi⟩;have hj:j<xs.length+1:=by have:=(bH.1 hy).1;omega
    have hg:cur'[off+j]? = cur'.toList[off+j]? := by simp
    rw [hg,e7];have hw:off+xs.length<=cur.toList.length:=by rw [cT (xs:=cur)];omega
    have ht:(cur.toList.take (off+xs.length*kE.size)).length=off+xs.length:=by rw [cJ,show kE.size=1 from rfl,Nn];omega
    unfold fJ;rw [bS];rcases eK j xs.length with c | c
    ·rw [bV (by rw [ht];omega),List.getElem?_take,if_pos (by rw [show kE.size=1 from rfl];omega),Array.getElem?_toList];rw [bV c] at hy;exact q6 j y hy
    ·obtain rfl:j=xs.length:=by omega
     rw [cH (by rw [ht];exact aT _),ht,Dt];rw [cH (aT _),Dt] at hy;cases hy;rfl
  ·refine ⟨_,_,[w.heap.size],hr,mk6 (off:=0) hn1.symm z1 z2 (by rw [dK,z3];simp [jX]) (heap_alloc_new w.drew _) (fr _) hsz (λj y hy => ?_),((cI [] w).drew.alloc _).of_nil,λi hi => .inr ?_⟩
   ·have e:(Cs gM xs++[gM s]++rest)=Cs gM (xs++[s])++rest:=by simp
    have hj:j<(xs++[s]).length:=(bH.1 hy).1;rw [e,cV,List.getElem?_toArray,bV (by rw [eJ];exact hj),gZ,hy];rfl
   ·simp only [aR,bZ,or_false] at hi;omega
def Aj (x0:ByteArray):List ByteArray:=Hh x0++(if C4 x0=aA #[] then [] else [C4 x0])
def UO (o:ByteArray) (ls:List ByteArray):ByteArray:=ls.foldl (λo l=>o++(l++aA #[10])) o
def Oc (s:DT6×ByteArray) (ln:ByteArray):DT6×ByteArray:=if RW s.1 ln=0 then (GB s.1 ln,UO s.2 (Ai s.1 ln)) else (s.1,s.2++aA #[63,10])
def Kg (ls:List ByteArray) (k:Nat):DT6×ByteArray:=(ls.take k).foldl Oc (Sc,aA #[])
def aOP (x0:ByteArray):ByteArray:=if 60<(Aj x0).length then aA #[] else (Kg (Aj x0) (Aj x0).length).2
def aOQ (x0:ByteArray):Int:=if 60<(Aj x0).length then 5 else 0
def Pk6 (ls:List ByteArray) (k:Nat):Prop:=P8 (Kg ls k).1 (ls.getD k aC)/\(Ai (Kg ls k).1 (ls.getD k aC)).length<=1000/\∀ l∈Ai (Kg ls k).1 (ls.getD k aC),l.size<=50000000
def P6 (x0:ByteArray):Prop:=P16 x0/\(Hh x0).length<=1000000000/\((Aj x0).length<=60->∀ k,k<(Aj x0).length->Pk6 (Aj x0) k)
theorem RX (ls:List ByteArray) (k:Nat) (h:k<ls.length):Kg ls (k+1)=Oc (Kg ls k) (ls.getD k aC):=by
 unfold Kg;rw [gY,oP ls k aC h];simp only [tU,Bg,dY,SM]
theorem RY (o:ByteArray) (ls:List ByteArray) (k:Nat) (h:k<ls.length):UO o (ls.take (k+1))=UO o (ls.take k)++(ls.getD k aC++aA #[10]):=by
 unfold UO;rw [gY,oP ls k aC h];simp only [tU,Bg,dY,SM]
theorem Kh (o:ByteArray) (ls:List ByteArray) (h:∀ l∈ls,l.size<=50000000):∀ k,k<=ls.length->(UO o (ls.take k)).size<=o.size+50000001*k
 | 0,_=>aT _
 | k+1,hk=>by
  have ih:=Kh o ls h k (by omega);have hx:=h _ (dN ls k aC (by omega));rw [RY o ls k (by omega),aS,aS];have i1:(aA #[10]).size=1:=rfl;omega
theorem RZ (ls:List ByteArray) (hp:∀ k,k<ls.length->Pk6 ls k):∀ k,k<=ls.length->(Kg ls k).2.size<=50000001000*k
 | 0,_=>bW _
 | k+1,hk=>by
  have ih:=RZ ls hp k (by omega);obtain ⟨_,p1,p2⟩:=hp k (by omega);rw [RX ls k (by omega)];unfold Oc;split
  ·have:=Kh (Kg ls k).2 _ p2 _ (aT _);rw [gU] at this;show (UO _ _).size<=_;omega
  ·show ((Kg ls k).2++aA #[63,10]).size<=_;rw [aS];have i1:(aA #[63,10]).size=2:=rfl;omega
theorem aLu (a b:ByteArray):gC (a++b)=gC a++gC b:=by
 unfold gC;rw [pV,kX,gQ]
theorem bLC (s:ByteArray):s.toList.isEmpty=decide (s=aA #[]):=by
 have e:aB (aA #[])=[]:=by unfold aB ByteArray.toList.loop;rfl
 rw [Bool.eq_iff_iff,decide_eq_true_eq, <- eR,e,List.isEmpty_iff,beq_iff_eq]
theorem aLv {w:World} {ops:Array Oper} {rest:List Oper} {o:Oper} {a:Act} {Q:Exit->Act->World->Prop} (hgd:o.guard=none) (sl x:Operand)
  (ho:o.op = .call { callee := .builtin .append,args := #[sl,x],argTypes := #[46,46] }) {v:Value} {xs:List ByteArray} {bs:List Nat} {s:ByteArray} {b':Nat} (hs:a.eval sl=v) (hx:a.eval x = .slice (some ⟨b',0,none⟩) 1 1)
  (hown:gB w (.sl .str) xs [v] bs) (hsz:s.size<=maxLen) (hb:w.cell? ⟨b',0,none⟩=some (.string s)) (hl:xs.length<=1000000000)
  (h:∀ v' w' bs',gB w' (.sl .str) (xs++[s]) [v'] bs'->cE bs w w'->(∀ i∈bs',i∈bs\/w.heap.size<=i)->wpList aL ops Q rest (a.put o.dst v') w'):wpList aL ops Q (o :: rest) a w:=by
 refine wpList_plain hgd λK hK => ?_;obtain ⟨v',w',bs',hr,h2,h3,h4⟩:=bDG (ty:=o.type) hown hsz hb hl;unfold Oper.wp execOp;simp only [ho,resolve,invoke,builtin,bO,cM,aW,Cv,bP,kM,hs,hx,hr];exact hK _ _ (h v' w' bs' h2 h3 h4)
theorem aW2:oG aL 44 DY6:=TI.ty_ok (vO 44) (by kernel_rfl)
theorem dv6 (cs:List Value):(Value.agg cs.toArray).cells.toList=cs:=rfl
section
variable {ops:Array Oper} {rest:List Oper} {a:Act} {w:World} {Q:Exit->Act->World->Prop} {o:Oper}
theorem aOR (hg:o.guard=none) (ho:o.op = .alloc 44) (h:∀ w',w'=w.alloc (.cells (eF DY6).toArray 44)->wpList aL ops Q rest (a.put o.dst (.pointer (some ⟨w.heap.size,0,none⟩))) w'):wpList aL ops Q (o :: rest) a w:=by
 refine wpList_plain hg λK hK => ?_;have hr:(GH 44 true (.tuple #[])).run aL w = .ok (.pointer (some ⟨w.heap.size,0,none⟩)) (w.alloc (.cells (eF DY6).toArray 44)):=by
  simp only [GH,newVar,newRow,bO,run_newObj,aW,cM,aW2.zero_run];rfl
 unfold Oper.wp execOp;simp only [ho,bO,hr,aW,cM];exact hK _ _ (h _ rfl)
theorem aGE {p x:Operand} {b:Nat} {cs:List Value} {cur:Array Value} (hg:o.guard=none) (ho:o.op = .store 44 p x) (hp:a.eval p = .pointer (some ⟨b,0,none⟩)) (hx:a.eval x = .agg cs.toArray) (hl:cs.length=22) (h1:∀ c∈cs,c.oneCell'=true) (hb:w.heap[b]? = some (.cells cur 44 (0,0))) (hc:cur.size=22)
  (h:∀ w',WV b cs w'->cE [b] w w'->w'.heap.size=w.heap.size->wpList aL ops Q rest (a.put o.dst (.tuple #[])) w'):wpList aL ops Q (o :: rest) a w:=by
 refine wpList_plain hg λK hK => ?_;obtain ⟨w',cur',r1,r2,r3,r4,r5⟩:=qD (P:=aL) cs w b 0 0 cur 44 (0,0) hb (λj _ h=>by omega) (by omega) h1;have hr:(xH 44 (a.eval p) (a.eval x)).run aL w = .ok () w':=by
  unfold xH;rw [hp,hx];simp only [iT,bO,cM,aW,storeVar,aW2.size_run,dv6];rw [if_neg (by show ¬ (cs.toArray.size≠22);simp [hl])];exact r1
 have hcur:cur'=cs.toArray:=by
  have:cur'.toList=cs:=by
   rw [r3];exact DL (by rw [cT,hc,hl])
  rw [<- this,Array.toArray_toList]
 subst hcur;unfold Oper.wp execOp;simp only [ho,bO,hr,aW,cM];exact hK _ _ (h _ r2 r4 r5)
theorem aDV {p:Operand} {b:Nat} {cs:List Value} (hg:Region.wanted o (yielded ops a.tmps)=true) (ho:o.op = .load 44 p) (hp:a.eval p = .pointer (some ⟨b,0,none⟩)) (hb:WV b cs w) (hl:cs.length=22) (h:wpList aL ops Q rest (a.put o.dst (.agg cs.toArray)) w) :
  wpList aL ops Q (o :: rest) a w:=by
 refine wpList_step λK hK => ?_;rw [if_pos hg];have hr:(lD 44 (a.eval p)).run aL w = .ok (.agg cs.toArray) w:=by
  unfold lD;rw [hp];simp only [iT,bO,cM,aW];exact BP aW2 hl (λj v hj=>by
   unfold WV at hb;simp only [fQ, hb,cV];simpa using hj)
 unfold Oper.wp execOp;simp only [ho,bO,hr,aW,cM];exact hK _ _ h
end
theorem WW {w:World} {G:Nat->Prop} {xs:List ByteArray} {ad:Option Addr} {n cap:Nat} (h:dW w G (.sl .str) xs [.slice ad n cap]) (k:Nat) (hk:k<xs.length):∃ b off,ad=some ⟨b,off,none⟩/\w.cell? ⟨b,off+k,none⟩=some (.string (xs.getD k aC))/\(xs.getD k aC).size<=maxLen:=by
 obtain ⟨ad',cap',e,hh⟩:=aAh h;cases e;obtain ⟨b,off,e,_,h1,h2⟩:=hh k hk;exact ⟨b,off,e,h1,h2⟩
theorem bDH (w:World):Bld w.heap.size [] [w.heap.size] (w.alloc (.cells #[.pointer none,.slice none 0 0] 62)):=by
 refine ⟨Lib.IsBuilderF.of (Lib.fresh_isBuilder 62 5 w),by simp,by simp,λv g hv hg => ?_⟩;rw [Eh] at hv;cases hv;cases hg
set_option maxHeartbeats 4000000 in
theorem bDI (w:World) (x0:ByteArray) (hgo:E9 w []) (hx:x0.size<=maxLen) (hp:P6 x0) :
  Calls aL 6 #[.string x0] w λe w'=>e = .returned (.tuple #[.string (aOP x0),.int .i64 (aOQ x0)])/\cE [] w w':=by
 obtain ⟨hp1,hp2,hp3⟩:=hp;have HP:Aside ((Aj x0).length<=60->∀ k,k<(Aj x0).length->Pk6 (Aj x0) k):=hp3;clear hp3;have mixed:=mixed
 go_enter Tryz.func6,Tryz.ntmps6
 go_upto_if 21 with (go_at_call 16;refine (el6 _ x0 hgo hx hp1).mono ?_)
 rintro e w1 ⟨lv,bs,rfl,k1,o1,f1,z1⟩
 go_upto_if 21 with fail
 have HZ:Aside (Aj x0=Hh x0++(if C4 x0=aA #[] then [] else [C4 x0])):=rfl
 go_cut [4] (λlv2 wx=>∃ ad cap,lv2 = .slice ad (Aj x0).length cap/\dW wx (dM wx []) (.sl .str) (Aj x0) [lv2]/\cE [] w wx)
 case first =>
  have hem:(!(C4 x0).toList.isEmpty) = !decide (C4 x0=aA #[]):=by
   rw [bLC]
  have EM:Aside ((!(C4 x0).toList.isEmpty) = !decide (C4 x0=aA #[])):=hem;clear hem;generalize C4 x0=rest at *;have ho:gB (w1.alloc (.cells #[.string rest] 9)) kE.sl (Hh x0) [lv] bs:=o1.keep λi hi=>Below.heap_alloc _ _ _ (o1.lt i hi)
  go_wp2_with (at_builtin;refine aLv rfl _ _ rfl rfl rfl ho z1 (by simp [Eh]) hp2 ?_)
  ·intro v' w2 bs2 o2 k2 f2;rename_i hq;have HQ:Aside ((!rest.toList.isEmpty)=true):=hq;clear hq
   go_wp2_with fail
   go_meet
   case rel =>
    have hr:¬ rest=aA #[]:=by have:=EM.out;rw [HQ.out] at this;simpa using this.symm
    have el:Aj x0=Hh x0++[rest]:=by rw [HZ.out,if_neg hr]
    have r1:dW w2 (dM w2 []) (.sl .str) (Aj x0) [v']:=by rw [el];exact o2.read λi hi=>⟨o2.lt i hi,by simp⟩
    obtain ⟨ad,cap,e1,_⟩:=aAh r1;have k3:=k1.alloc (.cells #[.string rest] 9);exact ⟨ad,cap,e1,r1,⟨k2.os.trans k3.os,k2.tape.trans k3.tape,k2.output.trans k3.output,cO k3.size k2.size,λi hi _=>(k2.block i (cK hi k3.size) (λhb=>by have:=f1 i hb;omega)).trans (k3.block i hi (by simp))⟩⟩
  ·rename_i hq
   go_meet
   case rel =>
    have hr:rest=aA #[]:=by have:=EM.out;rw [hq] at this;simpa using this.symm
    have el:Aj x0=Hh x0:=by rw [HZ.out,if_pos hr,c6]
    have r1:dW w1 (dM w1 []) (.sl .str) (Aj x0) [lv]:=by rw [el];exact o1.read λi hi=>⟨o1.lt i hi,by simp⟩
    obtain ⟨ad,cap,e1,_⟩:=aAh r1;exact ⟨ad,cap,e1,r1,k1⟩
 case rest =>
  obtain ⟨ad,cap,rfl,r0,k0⟩:=hcut;have eg0:aOP x0=if 60<(Aj x0).length then aA #[] else (Kg (Aj x0) (Aj x0).length).2:=rfl
  have eg1:aOQ x0=if 60<(Aj x0).length then 5 else 0:=rfl
  have E0:Aside (aOP x0=if 60<(Aj x0).length then aA #[] else (Kg (Aj x0) (Aj x0).length).2):=eg0;have E1:Aside (aOQ x0=if 60<(Aj x0).length then 5 else 0):=eg1;clear eg0 eg1 HZ;generalize Aj x0=ls at *;have R0:Aside (dW wc (dM wc []) (.sl .str) ls [.slice ad ls.length cap]):=r0;clear r0;by_cases h60:60<ls.length
  ·go_wp2
   go_ret2
   exact ⟨by rw [E0.out,E1.out,if_pos h60,if_pos h60];rfl,k0⟩
  ·have b0:cE [] wc (wc.alloc (.cells #[.pointer none,.slice none 0 0] 62)):=(cI [] wc).alloc _;have s0:(wc.alloc (.cells #[.pointer none,.slice none 0 0] 62)).heap.size=wc.heap.size+1:=by simp
   go_wp2_with (go_at_call 7;refine (nd6 _ [wc.heap.size] (aAg hgo (k0.trans b0)) (by simp)).mono ?_)
   rintro e w3 ⟨cs0,rfl,k3,r3⟩;have L0:cs0.length=22:=r3.length;have R3:Aside (dW w3 (dM w3 [wc.heap.size]) DY6 Sc cs0):=r3;have O3:Aside (∀ c∈cs0,c.oneCell'=true):=r3.one;clear r3
   go_wp2_with (first
    | (refine aOR rfl rfl ?_;rintro w4 hw4;have W4:Aside (w4=w3.alloc (.cells (eF DY6).toArray 44)):=hw4;clear hw4)
    | (refine aGE (b:=w3.heap.size) (cs:=cs0) (cur:=(eF DY6).toArray) rfl rfl rfl rfl L0 O3.out (by rw [W4.out];exact heap_alloc_new _ _) rfl ?_;intro w5 d5 k5 z5))
   have hwb:w.heap.size<=wc.heap.size:=k0.size;have hbb:wc.heap.size<w3.heap.size:=by have:=k3.size;omega
   have h43:cE [] w3 w4:=by rw [W4.out];exact (cI [] w3).alloc _
   have h44:w4.heap.size=w3.heap.size+1:=by rw [W4.out];simp
   have s35:JC [wc.heap.size] w3 [w3.heap.size,wc.heap.size] w5:=by
    refine ⟨⟨k5.os.trans h43.os,k5.tape.trans h43.tape,k5.output.trans h43.output,by omega,λi hi hx=>(k5.block i (by omega) (by simp only [aR,bZ,or_false];omega)).trans (h43.block i hi (by simp))⟩,λx hx => ?_⟩;simp only [aR,bZ,or_false] at hx ⊢;omega
   have kc3:cE [] wc w3:=b0.trans k3;have sc3:JC [] wc [wc.heap.size] w3:=⟨kc3,λx hx=>by simp only [aR,bZ,or_false] at hx ⊢;omega⟩;have SC:Aside (JC [] wc [w3.heap.size,wc.heap.size] w5):=sc3.trans s35;have B5:Aside (Bld wc.heap.size [] [wc.heap.size] w5):=(bDH wc).keep (λx hx=>by
    simp only [aR,bZ,or_false] at hx;subst hx;rw [k5.block _ (by omega) (by simp only [aR,bZ,or_false];omega),h43.block _ (by omega) (by simp),k3.block _ (by omega) (by simp)]) (by have:=k3.size;omega)
   have D5:Aside (WV w3.heap.size cs0 w5):=d5;have R5:Aside (dW w5 (dM w5 [w3.heap.size,wc.heap.size]) DY6 Sc cs0):=s35.keep R3.out;clear s35 sc3 k5 d5;generalize hbq:wc.heap.size=bb at *;generalize hdq:w3.heap.size=db at *;clear hbq hdq
   go_loopw [32] (λi wr=>∃ (k:Nat) (X:List Nat) (cs:List Value),k<=ls.length/\i = .int .i64 k/\Bld bb (gC (Kg ls k).2) X wr/\db ∉ X/\WV db cs wr/\dW wr (dM wr (db :: X)) DY6 (Kg ls k).1 cs/\JC [] wc (db :: X) wr/\db<wr.heap.size) (λi _=>ls.length - (intOf i).toNat)
   case atStart=>exact ⟨0,[bb],cs0,bW _,rfl,B5.out,by simp;omega,D5.out,R5.out,SC.out,by omega⟩
   case round =>
    obtain ⟨k,X,cs,hk,rfl,hB,hdX,hD,hR,hS,hdb⟩:=hrel;have HS:Aside (JC [] wc (db :: X) wr):=hS;have HB:Aside (Bld bb (gC (Kg ls k).2) X wr):=hB;have HD:Aside (WV db cs wr):=hD;have HR:Aside (dW wr (dM wr (db :: X)) DY6 (Kg ls k).1 cs):=hR;have HX:Aside (db ∉ X):=hdX;have BX:Aside (∀ x∈db :: X,x<wr.heap.size):=λx hx=>by
     rcases aR.1 hx with rfl | hx
     ·exact hdb
     ·exact hB.2.2.1 x hx
    have GO:Aside (E9 wr []):=aAg hgo (k0.trans hS.kept);have LC:Aside (cs.length=22):=hR.length;clear hS hB hD hR hdX;by_cases hlt:k<ls.length
    ·obtain ⟨b,off,rfl,e1,hz⟩:=WW (HS.out.keep R0.out) k hlt;obtain ⟨p1,p2,p3⟩:=HP.out (by omega) k hlt;have hsz:=RZ ls (HP.out (by omega)) k hk;have HU:Aside (Kg ls (k+1)=Oc (Kg ls k) (ls.getD k aC)):=RX ls k hlt;generalize ls.getD k aC=ln at *;generalize Kg ls k=s at *;have P1:Aside (P8 s.1 ln):=p1;have P3:Aside (∀ l∈Ai s.1 ln,l.size<=50000000):=p3;clear p1 p3
     go_upto_region 12 with (first
      | (refine aDV (b:=db) (cs:=cs) rfl rfl rfl HD.out LC.out ?_)
      | (go_at_call 8;refine (dk6 _ (db :: X) s.1 cs ln GO.out BX.out HR.out hz P1.out).mono ?_;rintro e w6 ⟨cs6,lv6,rfl,k6,r6,l6⟩)
      | (refine aOR rfl rfl ?_;rintro w7 hw7;have W7:Aside (w7=w6.alloc (.cells (eF DY6).toArray 44)):=hw7;clear hw7)
      | (refine aGE (b:=w6.heap.size) (cs:=cs6) (cur:=(eF DY6).toArray) rfl rfl rfl rfl r6.length r6.one (by rw [W7.out];exact heap_alloc_new _ _) rfl ?_;intro w8 d8 k8 z8))
     have h67:cE [] w6 w7:=by rw [W7.out];exact (cI [] w6).alloc _
     have h77:w7.heap.size=w6.heap.size+1:=by rw [W7.out];simp
     have z6:=k6.size;have h68:cE [] w6 w8:=⟨k8.os.trans h67.os,k8.tape.trans h67.tape,k8.output.trans h67.output,by omega,λi hi _=>(k8.block i (by omega) (by simp only [aR,bZ,or_false];omega)).trans (h67.block i hi (by simp))⟩;have hr8:cE [] wr w8:=k6.trans h68;have D8:Aside (WV w6.heap.size cs6 w8):=d8;have B8:Aside (Bld bb (gC s.2) X w8):=HB.out.keep (λx hx=>hr8.block x (HB.out.2.2.1 x hx) (by simp)) hr8.size;have E8:Aside (WV db cs w8):=HD.out.keep (hr8.block db hdb (by simp));have R6:Aside (dW w6 (dM w6 (db :: X)) DY6 (GB s.1 ln) cs6):=r6;have L6:Aside (dW w6 (dM w6 (db :: X)) (.sl .str) (Ai s.1 ln) [lv6]):=l6;have K8:Aside (cE [] wr w8):=hr8;have K68:Aside (cE [] w6 w8):=h68;have z8r:=hr8.size;clear d8 k8 h67 h68 hr8 r6 l6;generalize hcode:RW s.1 ln=code at *;have HC:Aside (RW s.1 ln=code):=hcode;clear hcode;have i2:(aA #[63,10]).size=2:=rfl;by_cases hc:code=0
     ·subst hc;obtain ⟨ad6,cap6,rfl,_⟩:=aAh L6.out;have O6:Aside (∀ c∈cs6,c.oneCell'=true):=R6.out.one;have LC6:Aside (cs6.length=22):=R6.out.length;have hcz:cs.toArray.size=22:=by rw [dK];exact LC.out
      go_upto_region 15 with (first
       | (refine aDV (b:=w6.heap.size) (cs:=cs6) rfl rfl rfl D8.out LC6.out ?_)
       | (refine aGE (b:=db) (cs:=cs6) (cur:=cs.toArray) rfl rfl rfl rfl LC6.out O6.out E8.out hcz ?_;intro w9 d9 k9 z9))
      have s89:JC (db :: X) w8 (db :: X) w9:=⟨k9.mono (λi hi=>by simp only [aR,bZ,or_false] at hi;rw [hi];exact aQ ..),λx hx => .inl hx⟩;have s68:JC (db :: X) w6 (db :: X) w8:=⟨K68.out.mono (λi hi=>by cases hi),λx hx => .inl hx⟩;have sr8:JC (db :: X) wr (db :: X) w8:=⟨K8.out.mono (λi hi=>by cases hi),λx hx => .inl hx⟩;have S9:Aside (JC [] wc (db :: X) w9):=HS.out.trans (sr8.trans s89);have R9:Aside (dW w9 (dM w9 (db :: X)) DY6 (GB s.1 ln) cs6):=(s68.trans s89).keep R6.out;have L9:Aside (dW w9 (dM w9 (db :: X)) (.sl .str) (Ai s.1 ln) [.slice ad6 (Ai s.1 ln).length cap6]):=(s68.trans s89).keep L6.out;have B9:Aside (Bld bb (gC s.2) X w9):=B8.out.keep (λx hx=>k9.block x (by have:=B8.out.2.2.1 x hx;omega) (by simp only [aR,bZ,or_false];exact λe=>HX.out (e ▸ hx))) (by omega);have D9:Aside (WV db cs6 w9):=d9;have HV:Aside (Oc s ln=(GB s.1 ln,UO s.2 (Ai s.1 ln))):=by
       show Oc s ln=_;unfold Oc;rw [if_pos HC.out]
      clear s89 s68 sr8 k9 d9 HC;generalize Ai s.1 ln=ot at *;have hd9:db<w9.heap.size:=by omega
      go_wp2_with fail
      go_loopw [49] (λi wi=>∃ (j:Nat) (Y:List Nat),j<=ot.length/\i = .int .i64 j/\Bld bb (gC (UO s.2 (ot.take j))) Y wi/\JC X w9 Y wi) (λi _=>ot.length - (intOf i).toNat)
      case atStart=>exact ⟨0,X,bW _,rfl,B9.out,⟨cI _ _,λx hx => .inl hx⟩⟩
      case round =>
       obtain ⟨j,Y,hj,rfl,hBi,hSi⟩:=hrel;have hdY:db ∉ Y:=λh=>(hSi.new db h).elim HX.out (λh'=>by omega);have SI:Aside (JC (db :: X) w9 (db :: Y) wr):=hSi.cons db;by_cases hjt:j<ot.length
       ·obtain ⟨bo,oo,rfl,q1,q2⟩:=WW (SI.out.keep L9.out) j hjt;have hsj:=Kh s.2 ot P3.out j hj;have HSU:Aside (UO s.2 (ot.take (j+1))=UO s.2 (ot.take j)++(ot.getD j aC++aA #[10])):=RY s.2 ot j hjt;have hlz:=P3.out _ (dN ot j aC hjt);generalize ot.getD j aC=l at *;have i10:(l++aA #[10]).size<=50000001:=by
         rw [aS];show _+1<=50000001;omega
        go_wp2_with (go_at_call 17;refine (wrt bb (gC (UO s.2 (ot.take j))) (l++aA #[10]) Y _ hBi (by rw [kY];omega)).mono ?_;rintro e w10 ⟨rfl,Z,y1,y2,y3⟩)
        go_roundw
        case rel=>exact ⟨j+1,Z,hjt,by simp,by rw [HSU.out,aLu];exact y2,hSi.trans y3⟩
        case measure=>simp [intOf];omega
       ·have hjn:j=ot.length:=by omega
        subst hjn
        go_wp2_with fail
        go_roundw
        case rel =>
         rw [gU] at hBi;have hsw:=hSi.kept.size;refine ⟨k+1,Y,cs6,hlt,by simp,?_,hdY,D9.out.keep (hSi.kept.block db hd9 HX.out),?_,S9.out.trans SI.out,by omega⟩
         ·rw [HU.out,HV.out];exact hBi
         ·rw [HU.out,HV.out];exact SI.out.keep R9.out
        case measure=>simp [intOf];omega
     ·have hcb:(code != 0)=true:=by simpa using hc
      go_wp2_with (go_at_call 17;refine (wrt bb (gC s.2) (aA #[63,10]) X _ B8.out (by rw [kY];omega)).mono ?_;rintro e w9 ⟨rfl,Y,y1,y2,y3⟩)
      go_roundw
      case rel =>
       have hdY:db ∉ Y:=λh=>(y3.new db h).elim HX.out (λh'=>by omega);have s9:JC (db :: X) wr (db :: Y) w9:=by
        have k8:=K8.out;have k9:=y3.kept;refine ⟨⟨k9.os.trans k8.os,k9.tape.trans k8.tape,k9.output.trans k8.output,cO k8.size k9.size,λi hi hx=>(k9.block i (by omega) (λh=>hx (aM _ h))).trans (k8.block i hi (by simp))⟩,λx hx => ?_⟩;rcases aR.1 hx with rfl | hx
        ·exact .inl (aQ ..)
        ·rcases y3.new x hx with h | h
         ·exact .inl (aM _ h)
         ·exact .inr (by omega)
       have hv:Oc s ln=(s.1,s.2++aA #[63,10]):=by
        unfold Oc;rw [if_neg (by rw [HC.out];exact hc)]
       refine ⟨k+1,Y,cs,hlt,by simp,?_,hdY,E8.out.keep (y3.kept.block db (by omega) HX.out),?_,HS.out.trans s9,by have:=y3.kept.size;omega⟩
       ·rw [HU.out,hv];show Bld bb (gC (s.2++aA #[63,10])) Y w9;rw [aLu];exact y2
       ·rw [HU.out,hv];exact s9.keep HR.out
      case measure=>simp [intOf];omega
    ·have hkn:k=ls.length:=by omega
     subst hkn;have h7:vE 62 5 bb bb (Lib.byteCells (Kg ls ls.length).2.data.toList) wr:=by
      rw [<- Lib.strCells_eq];exact HB.out.1
     have hbl:=HB.out.2.2.1 bb HB.out.2.1
     go_wp2_with (go_at_call 18;refine (aNp bb bb (Kg ls ls.length).2.data.toList _ h7 (Nat.le_of_lt hbl)).mono ?_;rintro e w8 ⟨rfl,b8⟩)
     have e8:(⟨(Kg ls ls.length).2.data.toList.toArray⟩:ByteArray)=(Kg ls ls.length).2:=by simp
     rw [e8]
     go_ret2
     have kw:=k0.trans HS.out.kept;exact ⟨by rw [E0.out,E1.out,if_neg h60,if_neg h60];rfl,⟨b8.1.trans kw.os,b8.2.trans kw.tape,b8.3.trans kw.output,cO kw.size b8.4,λi hi _=>(b8.5 i (by omega)).trans (kw.block i hi (by simp))⟩⟩
noncomputable section
noncomputable def bDJ:dB:=⟨328,Tryz.f328,[.v (.int .u8)],[.bool],[],[],false,[]⟩
theorem bLD:FO bDJ:=mo Tryz.func328 trivial
def bLE (x0:Int):Prop:=True
def sD (x0:Int):Bool:=(if (decide (x0>=97))=true then decide (x0<=122) else false)
def bDK:=dR bDJ (λ⟨x0,_⟩=>bLE x0) λ⟨x0,_⟩=>[⟨.bool,sD x0⟩]
theorem aW3:c7 328 bDK:=dF bLD λ⟨x0,_⟩ h _ K q=>e1 (rt) (rt)
noncomputable def bDL:dB:=⟨329,Tryz.f329,[.v (.int .u8)],[.bool],[],[],false,[]⟩
theorem bLF:FO bDL:=mo Tryz.func329 trivial
def bLG (x0:Int):Prop:=True
def Bx (x0:Int):Bool:=(if (decide (x0>=48))=true then decide (x0<=57) else false)
def bDM:=dR bDL (λ⟨x0,_⟩=>bLG x0) λ⟨x0,_⟩=>[⟨.bool,Bx x0⟩]
theorem aW4:c7 329 bDM:=dF bLF λ⟨x0,_⟩ h _ K q=>e1 (rt) (rt)
noncomputable def aOS:dB:=⟨251,Tryz.f251,[.v (.str)],[.bool],[],[(328,bDK),(329,bDM)],false,[]⟩
theorem bLH:FO aOS:=mo Tryz.func251 ⟨aW3,aW4,trivial⟩
def aW5 (v3:Int) (x0:ByteArray):eD×bG:=([eS 0 x0,eI 3 v3],[])
mutual
def aW6:Nat->ByteArray->List aY->Prop
 | 0,_,_=>False
 | n+1,x0,ds=>(if (aB x0==aB (aA #[]))=true then (ds=[aP .bool false]) else (if (decide ((↑(aH x0):Int)>10))=true then (ds=[aP .bool false]) else ((0<(↑(aH x0):Int))/\(if (!sD (↑(uK (aD (rI (rA x0)) 0 0)):Int))=true then (ds=[aP .bool false]) else (Dl n (0) (x0) ds)))))
def Dl:Nat->Int->ByteArray->List aY->Prop
 | 0,_,_,_=>False
 | n+1,v3,x0,ds=>(if (decide (v3<(↑(aH x0):Int)))=true then ((0<=v3)/\(v3<(↑(aH x0):Int))/\(if (!sD (↑(uK (aD (rI (rA x0)) (aE v3) 0)):Int))=true then ((0<=v3)/\(v3<(↑(aH x0):Int))/\(if (!Bx (↑(uK (aD (rI (rA x0)) (aE v3) 0)):Int))=true then (ds=[aP .bool false]) else ((cC .i64 (v3+1))/\(Dl n (v3+1) (x0) ds)))) else ((cC .i64 (v3+1))/\(Dl n (v3+1) (x0) ds)))) else (ds=[aP .bool true]))
end
theorem aW7 (ds:List aY) (K:jK) (q:Nat->Value):∀ n,(∀ {x0},aW6 n x0 ds->St aOS (x0,()) ds [] K q)/\(∀ {v3 x0},Dl n v3 x0 ds->Cu aOS 4 (aW5 v3 x0) ds [] K q):=by
 intro n
 induction n with
 | zero=>exact ⟨λh=>h.elim,λh=>h.elim⟩
 | succ n ih =>
 obtain ⟨i,i4⟩:=ih;exact ⟨λ{x0} h=>bR h (λh=>tT<|tT<|rh h) λh=>bR h (λh=>tT<|rh h) λh=>tP ((by decide):(0:Int)<=(0:Int))<|c1 h λh=>tv<|bR h (λh=>rh h) λh=>jp (i4 h),
  λh=>bR h (λh=>c2 h λh=>tv<|bR h (λh=>c2 h λh=>tv<|bR h (λh=>rh h) λh=>c1 h λh=>jp (i4 h)) λh=>tF<|c1 h λh=>jp (i4 h)) λh=>rh h⟩
def wW (x0:ByteArray):Bool:=decide (1<=x0.size)&&decide (x0.size<=10)&&sD ((cY x0).getD 0 0)&&(cY x0).all λb=>sD b||Bx b
def bLI (x0:ByteArray):Prop:=True
theorem aW8 (x0:ByteArray) (hw:Wf .str x0):aW6 (x0.size+1+1) x0 [⟨.bool,wW x0⟩]:=by
 have hl:=uW x0;rw [aW6];by_cases h0:x0=aA #[]
 ·rw [if_pos ((eR _ _).2 h0)];subst h0;rfl
 ·rw [if_neg (λh=>h0 ((eR _ _).1 h))];have hs:1<=x0.size:=by
   rcases eK 0 x0.size with h | h
   ·exact h
   ·exact absurd (YS (s:=x0) (t:=aA #[]) (List.eq_nil_of_length_eq_zero (by rw [hl];omega))) h0
  by_cases h1:(x0.size:Int)>10
  ·rw [if_pos (by simpa using h1)];have:¬ x0.size<=10:=by omega
   simp [wW,this]
  ·rw [if_neg (by simpa using h1)];refine ⟨by omega,?_⟩;rw [Pl];cases h2:sD ((cY x0).getD 0 0) with
   | false =>
    rw [if_pos (by simp)];simp [wW,h2, -bL]
   | true =>
    rw [if_neg (by simp)];have key:=Gi (cY x0) 0 (λb=>sD b||Bx b) [(⟨.bool,false⟩:aY)] [⟨.bool,true⟩] (λn i ds=>Dl n i x0 ds) (λn => ?_) (λn i hi hok ds hr => ?_) (λn i hi hok => ?_)
    ·rw [hl] at key;have e:wW x0=(cY x0).all λb=>sD b||Bx b:=by
      have:x0.size<=10:=by omega
      unfold wW;simp only [hs,this,decide_true,CG,h2]
     rw [e];cases h:(cY x0).all λb=>sD b||Bx b with
     | true=>rw [if_pos h] at key;exact key
     | false=>rw [if_neg (by rw [h];simp)] at key;exact key
    ·show Dl (n+1) ((cY x0).length:Int) x0 _;rw [Dl,hl,if_neg (by simp)]
    ·rw [Dl,if_pos (by simp;omega)];simp only [aF,Pl];generalize (cY x0).getD i 0=c at *;refine ⟨by omega,by omega,?_⟩;have hu:=fC (xs:=cY x0) (by rw [hl];exact hw) hi;cases h3:sD c with
     | true=>rw [if_neg (by simp)];exact ⟨hu,hr⟩
     | false =>
      rw [if_pos (by simp)];rw [h3,Bool.false_or] at hok;refine ⟨by omega,by omega,?_⟩;rw [if_neg (by rw [hok];simp)];exact ⟨hu,hr⟩
    ·simp only [xZ] at hok;rw [Dl,if_pos (by simp;omega)];simp only [aF,Pl];refine ⟨by omega,by omega,?_⟩;rw [if_pos (by rw [hok.1];rfl)];refine ⟨by omega,by omega,?_⟩;rw [if_pos (by rw [hok.2];rfl)] <;> trivial
def aGF:=dR aOS (λ⟨x0,_⟩=>bLI x0) λ⟨x0,_⟩=>[⟨.bool,wW x0⟩]
theorem R7:c7 251 aGF:=dF bLH (λ⟨x0,_⟩ h hwf K q =>
 (aW7 _ K q _).1 (aW8 x0 hwf.1))
noncomputable def bDN:dB:=⟨252,Tryz.f252,[.v (.int .i64)],[.bool],[],[(163,Ef)],false,[]⟩
theorem bLJ:FO bDN:=mo Tryz.func252 ⟨qI,trivial⟩
def bLK (x0:Int):Prop:=True
def aLw (x0:Int):Bool:=fM x0 0 200
def bDO:=dR bDN (λ⟨x0,_⟩=>bLK x0) λ⟨x0,_⟩=>[⟨.bool,aLw x0⟩]
theorem aW9:c7 252 bDO:=dF bLJ λ⟨x0,_⟩ h _ K q=>tv<|rt
noncomputable def bDP:dB:=⟨162,Tryz.f162,[.p gT],[.bool],[],[(251,aGF),(163,Ef),(252,bDO)],false,[]⟩
theorem bLL:FO bDP:=mo Tryz.func162 ⟨R7,qI,aW9,trivial⟩
def bLM (x0:ByteArray×Int×Int×Int×Unit):Prop:=True
def Mm (x0:ByteArray×Int×Int×Int×Unit):Bool:=(if (wW x0.1)=true then (if (fM x0.2.1 10000 10000000)=true then (if (fM x0.2.2.1 1000 1000000)=true then aLw x0.2.2.2.1 else false) else false) else false)
def bDQ:=dR bDP (λ⟨x0,_⟩=>bLM x0) λ⟨x0,_⟩=>[⟨.bool,Mm x0⟩]
theorem aWA:c7 162 bDQ:=dF bLL λ⟨x0,_⟩ h _ K q=>tv<|e1 (tv<|e1 (tv<|e1 (tv<|rt) (rt)) (tF<|rt)) (tF<|tF<|rt)
noncomputable def d87:dB:=⟨87,Tryz.f87,[.v (.sl gT)],[.bool],[],[(162,bDQ)],false,[]⟩
theorem o87:FO d87:=mo Tryz.func87 ⟨aWA,trivial⟩
def bDR (v3:Int) (x0:List dG):eD×bG:=([eL 0 gT x0,eI 3 v3],[])
mutual
def R87:Nat->List dG->List aY->Prop
 | 0,_,_=>False
 | n+1,x0,ds=>(Ki n (0) (x0) ds)
def Ki:Nat->Int->List dG->List aY->Prop
 | 0,_,_,_=>False
 | n+1,v3,x0,ds=>(if (decide (v3<(x0.length:Int)))=true then ((0<=v3)/\(v3<(x0.length:Int))/\(if (!Mm (aD x0 (aE v3) (aC,0,0,0,())))=true then (ds=[aP .bool false]) else (if (decide (v3>0))=true then ((cC .i64 (v3 - 1))/\((0<=v3 - 1)/\(v3 - 1<(x0.length:Int))/\((0<=v3)/\(v3<(x0.length:Int))/\(if (!bE (aB (aD x0 (aE (v3 - 1)) (aC,0,0,0,())).1) (aB (aD x0 (aE v3) (aC,0,0,0,())).1))=true then (ds=[aP .bool false]) else ((cC .i64 (v3+1))/\(Ki n (v3+1) (x0) ds)))))) else ((cC .i64 (v3+1))/\(Ki n (v3+1) (x0) ds))))) else (ds=[aP .bool (decide ((x0.length:Int)<=12))]))
end
theorem bDS (ds:List aY) (K:jK) (q:Nat->Value):∀ n,(∀ {x0},R87 n x0 ds->St d87 (x0,()) ds [] K q)/\(∀ {v3 x0},Ki n v3 x0 ds->Cu d87 2 (bDR v3 x0) ds [] K q):=by
 intro n
 induction n with
 | zero=>exact ⟨λh=>h.elim,λh=>h.elim⟩
 | succ n ih =>
 obtain ⟨i,i2⟩:=ih;exact ⟨λh=>jp (i2 h),
  λh=>bR h (λh=>c2 h λh=>tv<|bR h (λh=>tT<|rh h) λh=>bR h (λh=>c1 h λh=>c2 h λh=>c2 h λh=>bR h (λh=>rh h) λh=>c1 h λh=>jp (i2 h)) λh=>tF<|c1 h λh=>jp (i2 h)) λh=>rh h⟩
def aGG (x0:List dG) (i:Nat) (x:dG):Bool :=
 Mm x&&(i==0||bE (aB (x0.getD (i - 1) (aC,(0:Int),(0:Int),(0:Int),())).1) (aB x.1))
def UP (x0:List dG):Bool:=lC (aGG x0) 0 x0&&decide (x0.length<=12)
def P87 (x0:List dG):Prop:=True
theorem aLx (n i : Nat) (x0 : List dG) (hm : x0.length <= maxLen) (hi : i < x0.length) (ds : List aY) :
    (if aGG x0 i (x0.getD i (aC, (0 : Int), (0 : Int), (0 : Int), ())) = true then Ki n ((i : Int) + 1) x0 ds else ds = [⟨.bool, false⟩]) -> Ki (n + 1) (i : Int) x0 ds := by
  intro h;have hu := fC hm hi;rw [Ki, if_pos (by simp; omega)];refine ⟨by omega, by omega, ?_⟩;simp only [aF];unfold aGG at h;cases h1 : Mm (x0.getD i (aC, (0 : Int), (0 : Int), (0 : Int), ())) with
  | false =>
    rw [h1] at h;rw [if_pos (by rfl)];simpa using h
  | true =>
    rw [h1] at h;rw [if_neg (by simp)];by_cases h0 : (i : Int) > 0
    · rw [if_pos (by simpa using h0)]
      have hi0 : (i == 0) = false := by simp; omega
      have e : ((i : Int) - 1).toNat = i - 1 := by omega
      refine ⟨by rw [aK]; have : maxLen <= 9223372036854775807 := by decide
                 omega, by omega, by omega, by omega, by omega, ?_⟩
      rw [e];by_cases h2 : bE (aB (x0.getD (i - 1) (aC, (0 : Int), (0 : Int), (0 : Int), ())).1) (aB (x0.getD i (aC, (0 : Int), (0 : Int), (0 : Int), ())).1) = true
      · rw [h2, hi0] at h
        rw [if_neg (by rw [h2]; simp)];exact ⟨hu, by simpa using h⟩
      · have h2 := BE h2
        rw [h2, hi0] at h;rw [if_pos (by rw [h2]; rfl)];simpa using h
    · rw [if_neg (by simpa using h0)]
      have hi0 : (i == 0) = true := by simp; omega
      rw [hi0] at h;exact ⟨hu, by simpa using h⟩
theorem bDT (x0:List dG) (hw:x0.length<=maxLen):R87 (x0.length+1+1) x0 [⟨.bool,UP x0⟩]:=by
 rw [R87];have key:=jU x0 (aC,(0:Int),(0:Int),(0:Int),()) (aGG x0) [(⟨.bool,false⟩:aY)] [⟨.bool,decide (x0.length<=12)⟩] (λn i ds=>Ki n i x0 ds) (λn => ?_) (λn i hi hok ds hr => ?_) (λn i hi hok => ?_)
 ·unfold UP;cases h:lC (aGG x0) 0 x0 with
  | true=>rw [if_pos h] at key;simpa using key
  | false=>rw [if_neg (by rw [h];simp)] at key;simpa using key
 ·rw [Ki,if_neg (by simp)];have hc:decide ((x0.length:Int)<=12)=decide (x0.length<=12):=by
   congr 1;exact propext ⟨λh=>by omega,λh=>by omega⟩
  rw [hc]
 ·exact aLx n i x0 hw hi ds (by rw [if_pos hok];exact hr)
 ·exact aLx n i x0 hw hi _ (by rw [if_neg (by rw [hok];simp)])
def S87:=dR d87 (λ⟨x0,_⟩=>P87 x0) λ⟨x0,_⟩=>[⟨.bool,UP x0⟩]
theorem bDU:c7 87 S87:=dF o87 (λ⟨x0,_⟩ h hwf K q =>
 (bDS _ K q _).1 (bDT x0 hwf.1.1))
noncomputable def d88:dB:=⟨88,Tryz.f88,[.p X1],[.bool],[],[(163,Ef)],false,[]⟩
theorem o88:FO d88:=mo Tryz.func88 ⟨qI,trivial⟩
def P88 (x0:Int×Int×Int×Int×Unit):Prop:=True
def aLy (x0:Int×Int×Int×Int×Unit):Bool:=(if (fM x0.1 1000 4000000)=true then (if (fM x0.2.1 100 20000)=true then (if (fM x0.2.2.1 6 400)=true then fM x0.2.2.2.1 1000 10000000 else false) else false) else false)
def S88:=dR d88 (λ⟨x0,_⟩=>P88 x0) λ⟨x0,_⟩=>[⟨.bool,aLy x0⟩]
theorem bDV:c7 88 S88:=dF o88 λ⟨x0,_⟩ h _ K q=>tv<|e1 (tv<|e1 (tv<|e1 (tv<|rt) (rt)) (tF<|rt)) (tF<|tF<|rt)
noncomputable def bDW:dB:=⟨164,Tryz.f164,[.p fL],[.bool],[],[(163,Ef)],false,[]⟩
theorem bLO:FO bDW:=mo Tryz.func164 ⟨qI,trivial⟩
def bLP (x0:Int×Int×Int×Unit):Prop:=True
def GC (x0:Int×Int×Int×Unit):Bool:=(if (fM x0.1 0 1000)=true then (if (fM x0.2.1 (-400) 500)=true then fM x0.2.2.1 0 1000 else false) else false)
def bDX:=dR bDW (λ⟨x0,_⟩=>bLP x0) λ⟨x0,_⟩=>[⟨.bool,GC x0⟩]
theorem aWB:c7 164 bDX:=dF bLO λ⟨x0,_⟩ h _ K q=>tv<|e1 (tv<|e1 (tv<|rt) (rt)) (tF<|rt)
noncomputable def d89:dB:=⟨89,Tryz.f89,[.v (.sl fL)],[.bool],[],[(164,bDX)],false,[]⟩
theorem o89:FO d89:=mo Tryz.func89 ⟨aWB,trivial⟩
def bDY (v3:Int) (x0:List cU):eD×bG:=([eL 0 fL x0,eI 3 v3],[])
mutual
def R89:Nat->List cU->List aY->Prop
 | 0,_,_=>False
 | n+1,x0,ds=>(Ra n (0) (x0) ds)
def Ra:Nat->Int->List cU->List aY->Prop
 | 0,_,_,_=>False
 | n+1,v3,x0,ds=>(if (decide (v3<(x0.length:Int)))=true then ((0<=v3)/\(v3<(x0.length:Int))/\(if (!GC (aD x0 (aE v3) (0,0,0,())))=true then (ds=[aP .bool false]) else ((cC .i64 (v3+1))/\(Ra n (v3+1) (x0) ds)))) else (ds=[aP .bool (decide ((x0.length:Int)<=48))]))
end
theorem bDZ (ds:List aY) (K:jK) (q:Nat->Value):∀ n,(∀ {x0},R89 n x0 ds->St d89 (x0,()) ds [] K q)/\(∀ {v3 x0},Ra n v3 x0 ds->Cu d89 2 (bDY v3 x0) ds [] K q):=by
 intro n
 induction n with
 | zero=>exact ⟨λh=>h.elim,λh=>h.elim⟩
 | succ n ih =>
 obtain ⟨i,i2⟩:=ih;exact ⟨λh=>jp (i2 h),
  λh=>bR h (λh=>c2 h λh=>tv<|bR h (λh=>rh h) λh=>c1 h λh=>jp (i2 h)) λh=>rh h⟩
def UQ (x0:List cU):Bool:=x0.all GC&&decide (x0.length<=48)
def P89 (x0:List cU):Prop:=True
theorem bEa (x0:List cU) (hw:Wf (.sl (.cons (.int .i64) (.cons (.int .i64) (.cons (.int .i64) .unit)))) x0):R89 (x0.length+1+1) x0 [⟨.bool,UQ x0⟩]:=by
 rw [R89];have key:=Gi x0 ((0:Int),(0:Int),(0:Int),()) GC [(⟨.bool,false⟩:aY)] [⟨.bool,decide (x0.length<=48)⟩] (λn i ds=>Ra n i x0 ds) (λn => ?_) (λn i hi hok ds hr => ?_) (λn i hi hok => ?_)
 ·unfold UQ;cases h:x0.all GC <;> rw [h] at key <;> simpa using key
 ·rw [Ra,if_neg (by simp)];simp only [aY.mk.injEq,heq_eq_eq,true_and,dP,and_true]
  congr 1
  exact propext ⟨λh=>by omega,λh=>by omega⟩
 ·rw [Ra,if_pos (by simp;omega)];simp only [aF];refine ⟨by omega,by omega,?_⟩;rw [if_neg (by rw [hok];simp)];exact ⟨fC hw.1 hi,hr⟩
 ·rw [Ra,if_pos (by simp;omega)];simp only [aF];refine ⟨by omega,by omega,?_⟩;rw [if_pos (by rw [hok];simp)] <;> trivial
def S89:=dR d89 (λ⟨x0,_⟩=>P89 x0) λ⟨x0,_⟩=>[⟨.bool,UQ x0⟩]
theorem bEb:c7 89 S89:=dF o89 (λ⟨x0,_⟩ h hwf K q =>
 (bDZ _ K q _).1 (bEa x0 hwf.1))
noncomputable def bEc:dB:=⟨165,Tryz.f165,[.v (.int .i64)],[.bool],[],[(163,Ef)],false,[]⟩
theorem bLR:FO bEc:=mo Tryz.func165 ⟨qI,trivial⟩
def bLS (x0:Int):Prop:=True
def Mn (x0:Int):Bool:=fM x0 0 20000
def bEd:=dR bEc (λ⟨x0,_⟩=>bLS x0) λ⟨x0,_⟩=>[⟨.bool,Mn x0⟩]
theorem aWC:c7 165 bEd:=dF bLR λ⟨x0,_⟩ h _ K q=>tv<|rt
noncomputable def d90:dB:=⟨90,Tryz.f90,[.v (.sl fL)],[.bool],[],[(163,Ef),(165,bEd)],false,[]⟩
theorem o90:FO d90:=mo Tryz.func90 ⟨qI,aWC,trivial⟩
def bEe (v3:Int) (x0:List cU):eD×bG:=([eL 0 fL x0,eI 3 v3],[])
mutual
def R90:Nat->List cU->List aY->Prop
 | 0,_,_=>False
 | n+1,x0,ds=>(Nd n (0) (x0) ds)
def Nd:Nat->Int->List cU->List aY->Prop
 | 0,_,_,_=>False
 | n+1,v3,x0,ds=>(if (decide (v3<(x0.length:Int)))=true then ((0<=v3)/\(v3<(x0.length:Int))/\(if (!fM (aD x0 (aE v3) (0,0,0,())).1 1 4)=true then (ds=[aP .bool false]) else (if (!fM (aD x0 (aE v3) (0,0,0,())).2.1 0 1000)=true then (ds=[aP .bool false]) else (if (!Mn (aD x0 (aE v3) (0,0,0,())).2.2.1)=true then (ds=[aP .bool false]) else ((cC .i64 (v3+1))/\(Nd n (v3+1) (x0) ds)))))) else (ds=[aP .bool (decide ((x0.length:Int)<=8))]))
end
theorem bEf (ds:List aY) (K:jK) (q:Nat->Value):∀ n,(∀ {x0},R90 n x0 ds->St d90 (x0,()) ds [] K q)/\(∀ {v3 x0},Nd n v3 x0 ds->Cu d90 2 (bEe v3 x0) ds [] K q):=by
 intro n
 induction n with
 | zero=>exact ⟨λh=>h.elim,λh=>h.elim⟩
 | succ n ih =>
 obtain ⟨i,i2⟩:=ih;exact ⟨λh=>jp (i2 h),
  λh=>bR h (λh=>c2 h λh=>tv<|bR h (λh=>tT<|tT<|rh h) λh=>tv<|bR h (λh=>tT<|rh h) λh=>tv<|bR h (λh=>rh h) λh=>c1 h λh=>jp (i2 h)) λh=>rh h⟩
def Nf (x:Int×Int×Int×Unit):Bool:=fM x.1 1 4&&fM x.2.1 0 1000&&Mn x.2.2.1
def UR (x0:List cU):Bool:=x0.all Nf&&decide (x0.length<=8)
def P90 (x0:List cU):Prop:=True
theorem aLz (n i:Nat) (x0:List cU) (hm:x0.length<=maxLen) (hi:i<x0.length) (ds:List aY)
  (h:if Nf (x0.getD i ((0:Int),(0:Int),(0:Int),()))=true then Nd n ((i:Int)+1) x0 ds else ds=[⟨.bool,false⟩]):Nd (n+1) (i:Int) x0 ds:=by
 rw [Nd,if_pos (by simp;omega)];simp only [aF];refine ⟨by omega,by omega,?_⟩;have hu:=fC hm hi;unfold Nf at h;by_cases h1:fM (x0.getD i ((0:Int),(0:Int),(0:Int),())).1 1 4=true
 case neg=>rw [BE h1] at h;rw [if_pos (by rw [BE h1];rfl)];simpa using h
 rw [if_neg (by rw [h1];simp)];by_cases h2:fM (x0.getD i ((0:Int),(0:Int),(0:Int),())).2.1 0 1000=true
 case neg=>rw [h1,BE h2] at h;rw [if_pos (by rw [BE h2];rfl)];simpa using h
 rw [if_neg (by rw [h2];simp)];by_cases h3:Mn (x0.getD i ((0:Int),(0:Int),(0:Int),())).2.2.1=true
 case neg=>rw [h1,h2,BE h3] at h;rw [if_pos (by rw [BE h3];rfl)];simpa using h
 rw [if_neg (by rw [h3];simp)];rw [h1,h2,h3] at h;exact ⟨hu,by simpa using h⟩
theorem bEg (x0:List cU) (hw:x0.length<=maxLen):R90 (x0.length+1+1) x0 [⟨.bool,UR x0⟩]:=by
 rw [R90];have key:=Gi x0 ((0:Int),(0:Int),(0:Int),()) Nf [(⟨.bool,false⟩:aY)] [⟨.bool,decide (x0.length<=8)⟩] (λn i ds=>Nd n i x0 ds) (λn => ?_) (λn i hi hok ds hr => ?_) (λn i hi hok => ?_)
 ·unfold UR;cases h:x0.all Nf <;> rw [h] at key <;> simpa using key
 ·rw [Nd,if_neg (by simp)];simp only [aY.mk.injEq,heq_eq_eq,true_and,dP,and_true]
  congr 1
  exact propext ⟨λh=>by omega,λh=>by omega⟩
 ·exact aLz n i x0 hw hi ds (by rw [if_pos hok];exact hr)
 ·exact aLz n i x0 hw hi _ (by rw [if_neg (by rw [hok];simp)])
def S90:=dR d90 (λ⟨x0,_⟩=>P90 x0) λ⟨x0,_⟩=>[⟨.bool,UR x0⟩]
theorem bEh:c7 90 S90:=dF o90 (λ⟨x0,_⟩ h hwf K q =>
 (bEf _ K q _).1 (bEg x0 hwf.1.1))
noncomputable def d91:dB:=⟨91,Tryz.f91,[.p fL],[.bool],[],[(163,Ef)],false,[]⟩
theorem o91:FO d91:=mo Tryz.func91 ⟨qI,trivial⟩
def P91 (x0:Int×Int×Int×Unit):Prop:=True
def aFp (x0:Int×Int×Int×Unit):Bool:=(if (fM x0.1 1000 10000000)=true then (if (fM x0.2.1 100 1000000)=true then fM x0.2.2.1 0 500 else false) else false)
def S91:=dR d91 (λ⟨x0,_⟩=>P91 x0) λ⟨x0,_⟩=>[⟨.bool,aFp x0⟩]
theorem bEi:c7 91 S91:=dF o91 λ⟨x0,_⟩ h _ K q=>tv<|e1 (tv<|e1 (tv<|rt) (rt)) (tF<|rt)
noncomputable def d92:dB:=⟨92,Tryz.f92,[.p fL],[.bool],[],[(163,Ef)],false,[]⟩
theorem o92:FO d92:=mo Tryz.func92 ⟨qI,trivial⟩
def P92 (x0:Int×Int×Int×Unit):Prop:=True
def aFq (x0:Int×Int×Int×Unit):Bool:=(if (x0.1==0)=true then (if (x0.2.1==0)=true then x0.2.2.1==0 else false) else (if (x0.1==2)=true then (if (x0.2.1==0)=true then x0.2.2.1==0 else false) else (if (x0.1==1)=true then (if (fM x0.2.1 0 2)=true then fM x0.2.2.1 0 3 else false) else (if (x0.1==3)=true then (if (fM x0.2.1 0 2)=true then fM x0.2.2.1 0 3 else false) else false))))
def S92:=dR d92 (λ⟨x0,_⟩=>P92 x0) λ⟨x0,_⟩=>[⟨.bool,aFq x0⟩]
theorem bEj:c7 92 S92:=dF o92 λ⟨x0,_⟩ h _ K q=>e1 (tT<|e1 (rt) (rt)) (e1 (e1 (rt) (rt)) (e1 (tT<|tv<|e1 (tv<|rt) (rt)) (e1 (tv<|e1 (tv<|rt) (rt)) (tF<|rt))))
noncomputable def bEk:dB:=⟨253,Tryz.f253,[.v (.int .i64)],[.bool],[],[(163,Ef)],false,[]⟩
theorem bLU:FO bEk:=mo Tryz.func253 ⟨qI,trivial⟩
def bLV (x0:Int):Prop:=True
def aDW (x0:Int):Bool:=fM x0 0 1440
def bEl:=dR bEk (λ⟨x0,_⟩=>bLV x0) λ⟨x0,_⟩=>[⟨.bool,aDW x0⟩]
theorem aWD:c7 253 bEl:=dF bLU λ⟨x0,_⟩ h _ K q=>tv<|rt
noncomputable def bEm:dB:=⟨166,Tryz.f166,[.p fP],[.bool],[],[(251,aGF),(253,bEl)],false,[]⟩
theorem bLW:FO bEm:=mo Tryz.func166 ⟨R7,aWD,trivial⟩
def bLX (x0:ByteArray×Int×Int×Unit):Prop:=True
def Mo (x0:ByteArray×Int×Int×Unit):Bool:=(if (wW x0.1)=true then (if (aDW x0.2.1)=true then (if (aDW x0.2.2.1)=true then decide (x0.2.1<x0.2.2.1) else false) else false) else false)
def bEn:=dR bEm (λ⟨x0,_⟩=>bLX x0) λ⟨x0,_⟩=>[⟨.bool,Mo x0⟩]
theorem aWE:c7 166 bEn:=dF bLW λ⟨x0,_⟩ h _ K q=>tv<|e1 (tv<|e1 (tv<|e1 (rt) (rt)) (tF<|rt)) (tF<|tF<|rt)
noncomputable def d93:dB:=⟨93,Tryz.f93,[.v (.sl fP)],[.bool],[],[(166,bEn)],false,[]⟩
theorem o93:FO d93:=mo Tryz.func93 ⟨aWE,trivial⟩
def bEo (v3:Int) (x0:List bX):eD×bG:=([eL 0 fP x0,eI 3 v3],[])
mutual
def R93:Nat->List bX->List aY->Prop
 | 0,_,_=>False
 | n+1,x0,ds=>(Kj n (0) (x0) ds)
def Kj:Nat->Int->List bX->List aY->Prop
 | 0,_,_,_=>False
 | n+1,v3,x0,ds=>(if (decide (v3<(x0.length:Int)))=true then ((0<=v3)/\(v3<(x0.length:Int))/\(if (!Mo (aD x0 (aE v3) (aC,0,0,())))=true then (ds=[aP .bool false]) else (if (decide (v3>0))=true then ((cC .i64 (v3 - 1))/\((0<=v3 - 1)/\(v3 - 1<(x0.length:Int))/\((0<=v3)/\(v3<(x0.length:Int))/\(if (!bE (aB (aD x0 (aE (v3 - 1)) (aC,0,0,())).1) (aB (aD x0 (aE v3) (aC,0,0,())).1))=true then (ds=[aP .bool false]) else ((cC .i64 (v3+1))/\(Kj n (v3+1) (x0) ds)))))) else ((cC .i64 (v3+1))/\(Kj n (v3+1) (x0) ds))))) else (ds=[aP .bool (decide ((x0.length:Int)<=12))]))
end
theorem bEp (ds:List aY) (K:jK) (q:Nat->Value):∀ n,(∀ {x0},R93 n x0 ds->St d93 (x0,()) ds [] K q)/\(∀ {v3 x0},Kj n v3 x0 ds->Cu d93 2 (bEo v3 x0) ds [] K q):=by
 intro n
 induction n with
 | zero=>exact ⟨λh=>h.elim,λh=>h.elim⟩
 | succ n ih =>
 obtain ⟨i,i2⟩:=ih;exact ⟨λh=>jp (i2 h),
  λh=>bR h (λh=>c2 h λh=>tv<|bR h (λh=>tT<|rh h) λh=>bR h (λh=>c1 h λh=>c2 h λh=>c2 h λh=>bR h (λh=>rh h) λh=>c1 h λh=>jp (i2 h)) λh=>tF<|c1 h λh=>jp (i2 h)) λh=>rh h⟩
def aGH (x0:List bX) (i:Nat) (x:bX):Bool :=
 Mo x&&(i==0||bE (aB (x0.getD (i - 1) (aC,(0:Int),(0:Int),())).1) (aB x.1))
def US (x0:List bX):Bool:=lC (aGH x0) 0 x0&&decide (x0.length<=12)
def P93 (x0:List bX):Prop:=True
theorem aL0 (n i : Nat) (x0 : List bX) (hm : x0.length <= maxLen) (hi : i < x0.length) (ds : List aY) :
    (if aGH x0 i (x0.getD i (aC, (0 : Int), (0 : Int), ())) = true then Kj n ((i : Int) + 1) x0 ds else ds = [⟨.bool, false⟩]) -> Kj (n + 1) (i : Int) x0 ds := by
  intro h;have hu := fC hm hi;rw [Kj, if_pos (by simp; omega)];refine ⟨by omega, by omega, ?_⟩;simp only [aF];unfold aGH at h;cases h1 : Mo (x0.getD i (aC, (0 : Int), (0 : Int), ())) with
  | false =>
    rw [h1] at h;rw [if_pos (by rfl)];simpa using h
  | true =>
    rw [h1] at h;rw [if_neg (by simp)];by_cases h0 : (i : Int) > 0
    · rw [if_pos (by simpa using h0)]
      have hi0 : (i == 0) = false := by simp; omega
      have e : ((i : Int) - 1).toNat = i - 1 := by omega
      refine ⟨by rw [aK]; have : maxLen <= 9223372036854775807 := by decide
                 omega, by omega, by omega, by omega, by omega, ?_⟩
      rw [e];by_cases h2 : bE (aB (x0.getD (i - 1) (aC, (0 : Int), (0 : Int), ())).1) (aB (x0.getD i (aC, (0 : Int), (0 : Int), ())).1) = true
      · rw [h2, hi0] at h
        rw [if_neg (by rw [h2]; simp)];exact ⟨hu, by simpa using h⟩
      · have h2 := BE h2
        rw [h2, hi0] at h;rw [if_pos (by rw [h2]; rfl)];simpa using h
    · rw [if_neg (by simpa using h0)]
      have hi0 : (i == 0) = true := by simp; omega
      rw [hi0] at h;exact ⟨hu, by simpa using h⟩
theorem bEq (x0:List bX) (hw:x0.length<=maxLen):R93 (x0.length+1+1) x0 [⟨.bool,US x0⟩]:=by
 rw [R93];have key:=jU x0 (aC,(0:Int),(0:Int),()) (aGH x0) [(⟨.bool,false⟩:aY)] [⟨.bool,decide (x0.length<=12)⟩] (λn i ds=>Kj n i x0 ds) (λn => ?_) (λn i hi hok ds hr => ?_) (λn i hi hok => ?_)
 ·unfold US;cases h:lC (aGH x0) 0 x0 with
  | true=>rw [if_pos h] at key;simpa using key
  | false=>rw [if_neg (by rw [h];simp)] at key;simpa using key
 ·rw [Kj,if_neg (by simp)];have hc:decide ((x0.length:Int)<=12)=decide (x0.length<=12):=by
   congr 1;exact propext ⟨λh=>by omega,λh=>by omega⟩
  rw [hc]
 ·exact aL0 n i x0 hw hi ds (by rw [if_pos hok];exact hr)
 ·exact aL0 n i x0 hw hi _ (by rw [if_neg (by rw [hok];simp)])
def S93:=dR d93 (λ⟨x0,_⟩=>P93 x0) λ⟨x0,_⟩=>[⟨.bool,US x0⟩]
theorem bEr:c7 93 S93:=dF o93 (λ⟨x0,_⟩ h hwf K q =>
 (bEp _ K q _).1 (bEq x0 hwf.1.1))
noncomputable def d94:dB:=⟨94,Tryz.f94,[.p X1],[.bool],[],[(163,Ef)],false,[]⟩
theorem o94:FO d94:=mo Tryz.func94 ⟨qI,trivial⟩
def P94 (x0:Int×Int×Int×Int×Unit):Prop:=True
def aL1 (x0:Int×Int×Int×Int×Unit):Bool:=(if (fM x0.1 1 20000)=true then (if (fM x0.2.1 1 1000)=true then (if (fM x0.2.2.1 0 10000000)=true then fM x0.2.2.2.1 0 1000 else false) else false) else false)
def S94:=dR d94 (λ⟨x0,_⟩=>P94 x0) λ⟨x0,_⟩=>[⟨.bool,aL1 x0⟩]
theorem bEs:c7 94 S94:=dF o94 λ⟨x0,_⟩ h _ K q=>tv<|e1 (tv<|e1 (tv<|e1 (tv<|rt) (rt)) (tF<|rt)) (tF<|tF<|rt)
noncomputable def bEt:dB:=⟨167,Tryz.f167,[.p gT],[.bool],[],[(251,aGF),(163,Ef)],false,[]⟩
theorem bLZ:FO bEt:=mo Tryz.func167 ⟨R7,qI,trivial⟩
def bMa (x0:ByteArray×Int×Int×Int×Unit):Prop:=True
def Mp (x0:ByteArray×Int×Int×Int×Unit):Bool:=(if (wW x0.1)=true then (if (fM x0.2.1 0 100000)=true then (if (fM x0.2.2.1 1 1000)=true then fM x0.2.2.2.1 1 400 else false) else false) else false)
def bEu:=dR bEt (λ⟨x0,_⟩=>bMa x0) λ⟨x0,_⟩=>[⟨.bool,Mp x0⟩]
theorem aWF:c7 167 bEu:=dF bLZ λ⟨x0,_⟩ h _ K q=>tv<|e1 (tv<|e1 (tv<|e1 (tv<|rt) (rt)) (tF<|rt)) (tF<|tF<|rt)
noncomputable def d95:dB:=⟨95,Tryz.f95,[.v (.sl gT)],[.bool],[],[(167,bEu)],false,[]⟩
theorem o95:FO d95:=mo Tryz.func95 ⟨aWF,trivial⟩
def bEv (v3:Int) (x0:List dG):eD×bG:=([eL 0 gT x0,eI 3 v3],[])
mutual
def R95:Nat->List dG->List aY->Prop
 | 0,_,_=>False
 | n+1,x0,ds=>(Kk n (0) (x0) ds)
def Kk:Nat->Int->List dG->List aY->Prop
 | 0,_,_,_=>False
 | n+1,v3,x0,ds=>(if (decide (v3<(x0.length:Int)))=true then ((0<=v3)/\(v3<(x0.length:Int))/\(if (!Mp (aD x0 (aE v3) (aC,0,0,0,())))=true then (ds=[aP .bool false]) else (if (decide (v3>0))=true then ((cC .i64 (v3 - 1))/\((0<=v3 - 1)/\(v3 - 1<(x0.length:Int))/\((0<=v3)/\(v3<(x0.length:Int))/\(if (!bE (aB (aD x0 (aE (v3 - 1)) (aC,0,0,0,())).1) (aB (aD x0 (aE v3) (aC,0,0,0,())).1))=true then (ds=[aP .bool false]) else ((cC .i64 (v3+1))/\(Kk n (v3+1) (x0) ds)))))) else ((cC .i64 (v3+1))/\(Kk n (v3+1) (x0) ds))))) else (ds=[aP .bool (decide ((x0.length:Int)<=8))]))
end
theorem bEw (ds:List aY) (K:jK) (q:Nat->Value):∀ n,(∀ {x0},R95 n x0 ds->St d95 (x0,()) ds [] K q)/\(∀ {v3 x0},Kk n v3 x0 ds->Cu d95 2 (bEv v3 x0) ds [] K q):=by
 intro n
 induction n with
 | zero=>exact ⟨λh=>h.elim,λh=>h.elim⟩
 | succ n ih =>
 obtain ⟨i,i2⟩:=ih;exact ⟨λh=>jp (i2 h),
  λh=>bR h (λh=>c2 h λh=>tv<|bR h (λh=>tT<|rh h) λh=>bR h (λh=>c1 h λh=>c2 h λh=>c2 h λh=>bR h (λh=>rh h) λh=>c1 h λh=>jp (i2 h)) λh=>tF<|c1 h λh=>jp (i2 h)) λh=>rh h⟩
def aGI (x0:List dG) (i:Nat) (x:dG):Bool :=
 Mp x&&(i==0||bE (aB (x0.getD (i - 1) (aC,(0:Int),(0:Int),(0:Int),())).1) (aB x.1))
def UT (x0:List dG):Bool:=lC (aGI x0) 0 x0&&decide (x0.length<=8)
def P95 (x0:List dG):Prop:=True
theorem aL2 (n i : Nat) (x0 : List dG) (hm : x0.length <= maxLen) (hi : i < x0.length) (ds : List aY) :
    (if aGI x0 i (x0.getD i (aC, (0 : Int), (0 : Int), (0 : Int), ())) = true then Kk n ((i : Int) + 1) x0 ds else ds = [⟨.bool, false⟩]) -> Kk (n + 1) (i : Int) x0 ds := by
  intro h;have hu := fC hm hi;rw [Kk, if_pos (by simp; omega)];refine ⟨by omega, by omega, ?_⟩;simp only [aF];unfold aGI at h;cases h1 : Mp (x0.getD i (aC, (0 : Int), (0 : Int), (0 : Int), ())) with
  | false =>
    rw [h1] at h;rw [if_pos (by rfl)];simpa using h
  | true =>
    rw [h1] at h;rw [if_neg (by simp)];by_cases h0 : (i : Int) > 0
    · rw [if_pos (by simpa using h0)]
      have hi0 : (i == 0) = false := by simp; omega
      have e : ((i : Int) - 1).toNat = i - 1 := by omega
      refine ⟨by rw [aK]; have : maxLen <= 9223372036854775807 := by decide
                 omega, by omega, by omega, by omega, by omega, ?_⟩
      rw [e];by_cases h2 : bE (aB (x0.getD (i - 1) (aC, (0 : Int), (0 : Int), (0 : Int), ())).1) (aB (x0.getD i (aC, (0 : Int), (0 : Int), (0 : Int), ())).1) = true
      · rw [h2, hi0] at h
        rw [if_neg (by rw [h2]; simp)];exact ⟨hu, by simpa using h⟩
      · have h2 := BE h2
        rw [h2, hi0] at h;rw [if_pos (by rw [h2]; rfl)];simpa using h
    · rw [if_neg (by simpa using h0)]
      have hi0 : (i == 0) = true := by simp; omega
      rw [hi0] at h;exact ⟨hu, by simpa using h⟩
theorem bEx (x0:List dG) (hw:x0.length<=maxLen):R95 (x0.length+1+1) x0 [⟨.bool,UT x0⟩]:=by
 rw [R95];have key:=jU x0 (aC,(0:Int),(0:Int),(0:Int),()) (aGI x0) [(⟨.bool,false⟩:aY)] [⟨.bool,decide (x0.length<=8)⟩] (λn i ds=>Kk n i x0 ds) (λn => ?_) (λn i hi hok ds hr => ?_) (λn i hi hok => ?_)
 ·unfold UT;cases h:lC (aGI x0) 0 x0 with
  | true=>rw [if_pos h] at key;simpa using key
  | false=>rw [if_neg (by rw [h];simp)] at key;simpa using key
 ·rw [Kk,if_neg (by simp)];have hc:decide ((x0.length:Int)<=8)=decide (x0.length<=8):=by
   congr 1;exact propext ⟨λh=>by omega,λh=>by omega⟩
  rw [hc]
 ·exact aL2 n i x0 hw hi ds (by rw [if_pos hok];exact hr)
 ·exact aL2 n i x0 hw hi _ (by rw [if_neg (by rw [hok];simp)])
def S95:=dR d95 (λ⟨x0,_⟩=>P95 x0) λ⟨x0,_⟩=>[⟨.bool,UT x0⟩]
theorem bEy:c7 95 S95:=dF o95 (λ⟨x0,_⟩ h hwf K q =>
 (bEw _ K q _).1 (bEx x0 hwf.1.1))
noncomputable def bEz:dB:=⟨330,Tryz.f330,[.v (.int .i64)],[.bool],[],[(163,Ef)],false,[]⟩
theorem bMc:FO bEz:=mo Tryz.func330 ⟨qI,trivial⟩
def bMd (x0:Int):Prop:=True
def aL3 (x0:Int):Bool:=fM x0 0 36524
def bE0:=dR bEz (λ⟨x0,_⟩=>bMd x0) λ⟨x0,_⟩=>[⟨.bool,aL3 x0⟩]
theorem aWG:c7 330 bE0:=dF bMc λ⟨x0,_⟩ h _ K q=>tv<|rt
noncomputable def bE1:dB:=⟨331,Tryz.f331,[.v (.int .i64)],[.bool],[],[(163,Ef)],false,[]⟩
theorem bMe:FO bE1:=mo Tryz.func331 ⟨qI,trivial⟩
def bMf (x0:Int):Prop:=True
def aL4 (x0:Int):Bool:=fM x0 0 24000
def bE2:=dR bE1 (λ⟨x0,_⟩=>bMf x0) λ⟨x0,_⟩=>[⟨.bool,aL4 x0⟩]
theorem aWH:c7 331 bE2:=dF bMe λ⟨x0,_⟩ h _ K q=>tv<|rt
noncomputable def bE3:dB:=⟨254,Tryz.f254,[.p fL],[.bool],[],[(330,bE0),(331,bE2),(163,Ef)],false,[]⟩
theorem bMg:FO bE3:=mo Tryz.func254 ⟨aWG,aWH,qI,trivial⟩
def bMh (x0:Int×Int×Int×Unit):Prop:=True
def Mq (x0:Int×Int×Int×Unit):Bool:=(if (aL3 x0.1)=true then (if (aL4 x0.2.1)=true then fM x0.2.2.1 0 1000 else false) else false)
def bE4:=dR bE3 (λ⟨x0,_⟩=>bMh x0) λ⟨x0,_⟩=>[⟨.bool,Mq x0⟩]
theorem aWI:c7 254 bE4:=dF bMg λ⟨x0,_⟩ h _ K q=>tv<|e1 (tv<|e1 (tv<|rt) (rt)) (tF<|rt)
noncomputable def aOT:dB:=⟨168,Tryz.f168,[.v (.sl fL)],[.bool],[],[(254,bE4)],false,[]⟩
theorem bMi:FO aOT:=mo Tryz.func168 ⟨aWI,trivial⟩
def aWJ (v3:Int) (x0:List cU):eD×bG:=([eL 0 fL x0,eI 3 v3],[])
mutual
def aWK:Nat->List cU->List aY->Prop
 | 0,_,_=>False
 | n+1,x0,ds=>(Dm n (0) (x0) ds)
def Dm:Nat->Int->List cU->List aY->Prop
 | 0,_,_,_=>False
 | n+1,v3,x0,ds=>(if (decide (v3<(x0.length:Int)))=true then ((0<=v3)/\(v3<(x0.length:Int))/\(if (!Mq (aD x0 (aE v3) (0,0,0,())))=true then (ds=[aP .bool false]) else (if (decide (v3>0))=true then ((cC .i64 (v3 - 1))/\((0<=v3 - 1)/\(v3 - 1<(x0.length:Int))/\((0<=v3)/\(v3<(x0.length:Int))/\(if (decide ((aD x0 (aE (v3 - 1)) (0,0,0,())).1>=(aD x0 (aE v3) (0,0,0,())).1))=true then (ds=[aP .bool false]) else ((cC .i64 (v3 - 1))/\((0<=v3 - 1)/\(v3 - 1<(x0.length:Int))/\((0<=v3)/\(v3<(x0.length:Int))/\(if (decide ((aD x0 (aE (v3 - 1)) (0,0,0,())).2.1>(aD x0 (aE v3) (0,0,0,())).2.1))=true then (ds=[aP .bool false]) else ((cC .i64 (v3 - 1))/\((0<=v3 - 1)/\(v3 - 1<(x0.length:Int))/\((0<=v3)/\(v3<(x0.length:Int))/\(if (decide ((aD x0 (aE (v3 - 1)) (0,0,0,())).2.2.1>(aD x0 (aE v3) (0,0,0,())).2.2.1))=true then (ds=[aP .bool false]) else ((cC .i64 (v3+1))/\(Dm n (v3+1) (x0) ds)))))))))))))) else ((cC .i64 (v3+1))/\(Dm n (v3+1) (x0) ds))))) else (ds=[aP .bool true]))
end
theorem aWL (ds:List aY) (K:jK) (q:Nat->Value):∀ n,(∀ {x0},aWK n x0 ds->St aOT (x0,()) ds [] K q)/\(∀ {v3 x0},Dm n v3 x0 ds->Cu aOT 2 (aWJ v3 x0) ds [] K q):=by
 intro n
 induction n with
 | zero=>exact ⟨λh=>h.elim,λh=>h.elim⟩
 | succ n ih =>
 obtain ⟨i,i2⟩:=ih;exact ⟨λh=>jp (i2 h),
  λh=>bR h (λh=>c2 h λh=>tv<|bR h (λh=>rh h) λh=>bR h (λh=>c1 h λh=>c2 h λh=>c2 h λh=>bR h (λh=>tT<|tT<|rh h) λh=>c1 h λh=>c2 h λh=>c2 h λh=>bR h (λh=>tT<|rh h) λh=>c1 h λh=>c2 h λh=>c2 h λh=>bR h (λh=>rh h) λh=>c1 h λh=>jp (i2 h)) λh=>tF<|c1 h λh=>jp (i2 h)) λh=>rh h⟩
def aL5 (y x:cU):Bool:=decide (y.1<x.1)&&decide (y.2.1<=x.2.1)&&decide (y.2.2.1<=x.2.2.1)
def UU (x0:List cU) (i:Nat) (x:cU):Bool:=Mq x&&(i==0||aL5 (x0.getD (i - 1) ((0:Int),(0:Int),(0:Int),())) x)
def JD (x0:List cU):Bool:=lC (UU x0) 0 x0
def bMj (x0:List cU):Prop:=True
theorem aFr (n i:Nat) (x0:List cU) (hm:x0.length<=maxLen) (hi:i<x0.length) (ds:List aY)
  (h:if UU x0 i (x0.getD i ((0:Int),(0:Int),(0:Int),()))=true then Dm n ((i:Int)+1) x0 ds else ds=[⟨.bool,false⟩]):Dm (n+1) (i:Int) x0 ds:=by
 have hu:=fC hm hi;have hmx:maxLen<=9223372036854775807:=by decide
 rw [Dm,if_pos (by simp;omega)];refine ⟨by omega,by omega,?_⟩;simp only [aF];unfold UU aL5 at h;by_cases hv:Mq (x0.getD i ((0:Int),(0:Int),(0:Int),()))=true
 case neg=>rw [BE hv] at h;rw [if_pos (by rw [BE hv];rfl)];simpa using h
 rw [if_neg (by rw [hv];simp)];rw [hv] at h;by_cases h0:(i:Int)>0
 case neg =>
  rw [if_neg (by simpa using h0)];have hi0:(i==0)=true:=by simp;omega
  rw [hi0] at h;exact ⟨hu,by simpa using h⟩
 rw [if_pos (by simpa using h0)];have hi0:(i==0)=false:=by simp;omega
 have e:((i:Int) - 1).toNat=i - 1:=by omega
 have hd:cC .i64 ((i:Int) - 1):=by rw [aK];omega
 rw [hi0] at h;simp only [e];refine ⟨hd,by omega,by omega,by omega,by omega,?_⟩;by_cases c0:(x0.getD (i - 1) ((0:Int),(0:Int),(0:Int),())).1>=(x0.getD i ((0:Int),(0:Int),(0:Int),())).1
 case pos =>
  rw [if_pos (decide_eq_true c0)];have:decide ((x0.getD (i - 1) ((0:Int),(0:Int),(0:Int),())).1<(x0.getD i ((0:Int),(0:Int),(0:Int),())).1)=false:=decide_eq_false (by omega);rw [this] at h;simpa using h
 rw [if_neg (by simpa using c0)];refine ⟨hd,by omega,by omega,by omega,by omega,?_⟩;by_cases c1:(x0.getD (i - 1) ((0:Int),(0:Int),(0:Int),())).2.1>(x0.getD i ((0:Int),(0:Int),(0:Int),())).2.1
 case pos =>
  rw [if_pos (decide_eq_true c1)];have:decide ((x0.getD (i - 1) ((0:Int),(0:Int),(0:Int),())).2.1<=(x0.getD i ((0:Int),(0:Int),(0:Int),())).2.1)=false:=decide_eq_false (by omega);rw [this] at h;simpa using h
 rw [if_neg (by simpa using c1)];refine ⟨hd,by omega,by omega,by omega,by omega,?_⟩;by_cases c2:(x0.getD (i - 1) ((0:Int),(0:Int),(0:Int),())).2.2.1>(x0.getD i ((0:Int),(0:Int),(0:Int),())).2.2.1
 case pos =>
  rw [if_pos (decide_eq_true c2)];have:decide ((x0.getD (i - 1) ((0:Int),(0:Int),(0:Int),())).2.2.1<=(x0.getD i ((0:Int),(0:Int),(0:Int),())).2.2.1)=false:=decide_eq_false (by omega);rw [this] at h;simpa using h
 rw [if_neg (by simpa using c2)];have d0:decide ((x0.getD (i - 1) ((0:Int),(0:Int),(0:Int),())).1<(x0.getD i ((0:Int),(0:Int),(0:Int),())).1)=true:=decide_eq_true (by omega);have d1:decide ((x0.getD (i - 1) ((0:Int),(0:Int),(0:Int),())).2.1<=(x0.getD i ((0:Int),(0:Int),(0:Int),())).2.1)=true:=decide_eq_true (by omega);have d2:decide ((x0.getD (i - 1) ((0:Int),(0:Int),(0:Int),())).2.2.1<=(x0.getD i ((0:Int),(0:Int),(0:Int),())).2.2.1)=true:=decide_eq_true (by omega);rw [d0,d1,d2] at h;exact ⟨hu,by simpa using h⟩
theorem aWM (x0:List cU) (hw:x0.length<=maxLen):aWK (x0.length+1+1) x0 [⟨.bool,JD x0⟩]:=by
 rw [aWK];have key:=jU x0 ((0:Int),(0:Int),(0:Int),()) (UU x0) [(⟨.bool,false⟩:aY)] [⟨.bool,true⟩] (λn i ds=>Dm n i x0 ds) (λn => ?_) (λn i hi hok ds hr => ?_) (λn i hi hok => ?_)
 ·unfold JD;cases h:lC (UU x0) 0 x0 with
  | true=>rw [if_pos h] at key;simpa using key
  | false=>rw [if_neg (by rw [h];simp)] at key;simpa using key
 ·rw [Dm,if_neg (by simp)]
 ·exact aFr n i x0 hw hi ds (by rw [if_pos hok];exact hr)
 ·exact aFr n i x0 hw hi _ (by rw [if_neg (by rw [hok];simp)])
def bE5:=dR aOT (λ⟨x0,_⟩=>bMj x0) λ⟨x0,_⟩=>[⟨.bool,JD x0⟩]
theorem aWN:c7 168 bE5:=dF bMi (λ⟨x0,_⟩ h hwf K q =>
 (aWL _ K q _).1 (aWM x0 hwf.1.1))
noncomputable def d96:dB:=⟨96,Tryz.f96,[.v (.sl fL)],[.bool],[],[(168,bE5)],false,[]⟩
theorem o96:FO d96:=mo Tryz.func96 ⟨aWN,trivial⟩
def P96 (x0:List cU):Prop:=True
def aFs (x0:List cU):Bool:=(if (decide ((x0.length:Int)<=24))=true then JD x0 else false)
def S96:=dR d96 (λ⟨x0,_⟩=>P96 x0) λ⟨x0,_⟩=>[⟨.bool,aFs x0⟩]
theorem bE6:c7 96 S96:=dF o96 λ⟨x0,_⟩ h _ K q=>e1 (tv<|rt) (rt)
noncomputable def bE7:dB:=⟨255,Tryz.f255,[.v (.int .i64)],[.bool],[],[(163,Ef)],false,[]⟩
theorem bMk:FO bE7:=mo Tryz.func255 ⟨qI,trivial⟩
def bMl (x0:Int):Prop:=True
def aDX (x0:Int):Bool:=fM x0 0 7
def aWO:=dR bE7 (λ⟨x0,_⟩=>bMl x0) λ⟨x0,_⟩=>[⟨.bool,aDX x0⟩]
theorem aL6:c7 255 aWO:=dF bMk λ⟨x0,_⟩ h _ K q=>tv<|rt
noncomputable def bE8:dB:=⟨256,Tryz.f256,[.v (.int .i64)],[.bool],[],[(163,Ef)],false,[]⟩
theorem bMm:FO bE8:=mo Tryz.func256 ⟨qI,trivial⟩
def bMn (x0:Int):Prop:=True
def aDY (x0:Int):Bool:=fM x0 0 1000
def aWP:=dR bE8 (λ⟨x0,_⟩=>bMn x0) λ⟨x0,_⟩=>[⟨.bool,aDY x0⟩]
theorem aL7:c7 256 aWP:=dF bMm λ⟨x0,_⟩ h _ K q=>tv<|rt
noncomputable def bE9:dB:=⟨169,Tryz.f169,[.p fP],[.bool],[],[(251,aGF),(255,aWO),(256,aWP)],false,[]⟩
theorem bMo:FO bE9:=mo Tryz.func169 ⟨R7,aL6,aL7,trivial⟩
def bMp (x0:ByteArray×Int×Int×Unit):Prop:=True
def Mr (x0:ByteArray×Int×Int×Unit):Bool:=(if (wW x0.1)=true then (if (aDX x0.2.1)=true then aDY x0.2.2.1 else false) else false)
def bEA:=dR bE9 (λ⟨x0,_⟩=>bMp x0) λ⟨x0,_⟩=>[⟨.bool,Mr x0⟩]
theorem aWQ:c7 169 bEA:=dF bMo λ⟨x0,_⟩ h _ K q=>tv<|e1 (tv<|e1 (tv<|rt) (rt)) (tF<|rt)
noncomputable def d97:dB:=⟨97,Tryz.f97,[.v (.sl fP)],[.bool],[],[(169,bEA)],false,[]⟩
theorem o97:FO d97:=mo Tryz.func97 ⟨aWQ,trivial⟩
def bEB (v3:Int) (x0:List bX):eD×bG:=([eL 0 fP x0,eI 3 v3],[])
mutual
def R97:Nat->List bX->List aY->Prop
 | 0,_,_=>False
 | n+1,x0,ds=>(Km n (0) (x0) ds)
def Km:Nat->Int->List bX->List aY->Prop
 | 0,_,_,_=>False
 | n+1,v3,x0,ds=>(if (decide (v3<(x0.length:Int)))=true then ((0<=v3)/\(v3<(x0.length:Int))/\(if (!Mr (aD x0 (aE v3) (aC,0,0,())))=true then (ds=[aP .bool false]) else (if (decide (v3>0))=true then ((cC .i64 (v3 - 1))/\((0<=v3 - 1)/\(v3 - 1<(x0.length:Int))/\((0<=v3)/\(v3<(x0.length:Int))/\(if (!bE (aB (aD x0 (aE (v3 - 1)) (aC,0,0,())).1) (aB (aD x0 (aE v3) (aC,0,0,())).1))=true then (ds=[aP .bool false]) else ((cC .i64 (v3+1))/\(Km n (v3+1) (x0) ds)))))) else ((cC .i64 (v3+1))/\(Km n (v3+1) (x0) ds))))) else (ds=[aP .bool (decide ((x0.length:Int)<=10))]))
end
theorem bEC (ds:List aY) (K:jK) (q:Nat->Value):∀ n,(∀ {x0},R97 n x0 ds->St d97 (x0,()) ds [] K q)/\(∀ {v3 x0},Km n v3 x0 ds->Cu d97 2 (bEB v3 x0) ds [] K q):=by
 intro n
 induction n with
 | zero=>exact ⟨λh=>h.elim,λh=>h.elim⟩
 | succ n ih =>
 obtain ⟨i,i2⟩:=ih;exact ⟨λh=>jp (i2 h),
  λh=>bR h (λh=>c2 h λh=>tv<|bR h (λh=>tT<|rh h) λh=>bR h (λh=>c1 h λh=>c2 h λh=>c2 h λh=>bR h (λh=>rh h) λh=>c1 h λh=>jp (i2 h)) λh=>tF<|c1 h λh=>jp (i2 h)) λh=>rh h⟩
def aGJ (x0:List bX) (i:Nat) (x:bX):Bool :=
 Mr x&&(i==0||bE (aB (x0.getD (i - 1) (aC,(0:Int),(0:Int),())).1) (aB x.1))
def UV (x0:List bX):Bool:=lC (aGJ x0) 0 x0&&decide (x0.length<=10)
def P97 (x0:List bX):Prop:=True
theorem aL8 (n i : Nat) (x0 : List bX) (hm : x0.length <= maxLen) (hi : i < x0.length) (ds : List aY) :
    (if aGJ x0 i (x0.getD i (aC, (0 : Int), (0 : Int), ())) = true then Km n ((i : Int) + 1) x0 ds else ds = [⟨.bool, false⟩]) -> Km (n + 1) (i : Int) x0 ds := by
  intro h;have hu := fC hm hi;rw [Km, if_pos (by simp; omega)];refine ⟨by omega, by omega, ?_⟩;simp only [aF];unfold aGJ at h;cases h1 : Mr (x0.getD i (aC, (0 : Int), (0 : Int), ())) with
  | false =>
    rw [h1] at h;rw [if_pos (by rfl)];simpa using h
  | true =>
    rw [h1] at h;rw [if_neg (by simp)];by_cases h0 : (i : Int) > 0
    · rw [if_pos (by simpa using h0)]
      have hi0 : (i == 0) = false := by simp; omega
      have e : ((i : Int) - 1).toNat = i - 1 := by omega
      refine ⟨by rw [aK]; have : maxLen <= 9223372036854775807 := by decide
                 omega, by omega, by omega, by omega, by omega, ?_⟩
      rw [e];by_cases h2 : bE (aB (x0.getD (i - 1) (aC, (0 : Int), (0 : Int), ())).1) (aB (x0.getD i (aC, (0 : Int), (0 : Int), ())).1) = true
      · rw [h2, hi0] at h
        rw [if_neg (by rw [h2]; simp)];exact ⟨hu, by simpa using h⟩
      · have h2 := BE h2
        rw [h2, hi0] at h;rw [if_pos (by rw [h2]; rfl)];simpa using h
    · rw [if_neg (by simpa using h0)]
      have hi0 : (i == 0) = true := by simp; omega
      rw [hi0] at h;exact ⟨hu, by simpa using h⟩
theorem bED (x0:List bX) (hw:x0.length<=maxLen):R97 (x0.length+1+1) x0 [⟨.bool,UV x0⟩]:=by
 rw [R97];have key:=jU x0 (aC,(0:Int),(0:Int),()) (aGJ x0) [(⟨.bool,false⟩:aY)] [⟨.bool,decide (x0.length<=10)⟩] (λn i ds=>Km n i x0 ds) (λn => ?_) (λn i hi hok ds hr => ?_) (λn i hi hok => ?_)
 ·unfold UV;cases h:lC (aGJ x0) 0 x0 with
  | true=>rw [if_pos h] at key;simpa using key
  | false=>rw [if_neg (by rw [h];simp)] at key;simpa using key
 ·rw [Km,if_neg (by simp)];have hc:decide ((x0.length:Int)<=10)=decide (x0.length<=10):=by
   congr 1;exact propext ⟨λh=>by omega,λh=>by omega⟩
  rw [hc]
 ·exact aL8 n i x0 hw hi ds (by rw [if_pos hok];exact hr)
 ·exact aL8 n i x0 hw hi _ (by rw [if_neg (by rw [hok];simp)])
def S97:=dR d97 (λ⟨x0,_⟩=>P97 x0) λ⟨x0,_⟩=>[⟨.bool,UV x0⟩]
theorem bEE:c7 97 S97:=dF o97 (λ⟨x0,_⟩ h hwf K q =>
 (bEC _ K q _).1 (bED x0 hwf.1.1))
noncomputable def bEF:dB:=⟨170,Tryz.f170,[.p fP],[.bool],[],[(251,aGF),(255,aWO),(256,aWP)],false,[]⟩
theorem bMr:FO bEF:=mo Tryz.func170 ⟨R7,aL6,aL7,trivial⟩
def bMs (x0:ByteArray×Int×Int×Unit):Prop:=True
def Ms (x0:ByteArray×Int×Int×Unit):Bool:=(if (wW x0.1)=true then (if (aDX x0.2.1)=true then aDY x0.2.2.1 else false) else false)
def bEG:=dR bEF (λ⟨x0,_⟩=>bMs x0) λ⟨x0,_⟩=>[⟨.bool,Ms x0⟩]
theorem aWR:c7 170 bEG:=dF bMr λ⟨x0,_⟩ h _ K q=>tv<|e1 (tv<|e1 (tv<|rt) (rt)) (tF<|rt)
noncomputable def d98:dB:=⟨98,Tryz.f98,[.v (.sl fP)],[.bool],[],[(170,bEG)],false,[]⟩
theorem o98:FO d98:=mo Tryz.func98 ⟨aWR,trivial⟩
def bEH (v3:Int) (x0:List bX):eD×bG:=([eL 0 fP x0,eI 3 v3],[])
mutual
def R98:Nat->List bX->List aY->Prop
 | 0,_,_=>False
 | n+1,x0,ds=>(Kn n (0) (x0) ds)
def Kn:Nat->Int->List bX->List aY->Prop
 | 0,_,_,_=>False
 | n+1,v3,x0,ds=>(if (decide (v3<(x0.length:Int)))=true then ((0<=v3)/\(v3<(x0.length:Int))/\(if (!Ms (aD x0 (aE v3) (aC,0,0,())))=true then (ds=[aP .bool false]) else (if (decide (v3>0))=true then ((cC .i64 (v3 - 1))/\((0<=v3 - 1)/\(v3 - 1<(x0.length:Int))/\((0<=v3)/\(v3<(x0.length:Int))/\(if (!bE (aB (aD x0 (aE (v3 - 1)) (aC,0,0,())).1) (aB (aD x0 (aE v3) (aC,0,0,())).1))=true then (ds=[aP .bool false]) else ((cC .i64 (v3+1))/\(Kn n (v3+1) (x0) ds)))))) else ((cC .i64 (v3+1))/\(Kn n (v3+1) (x0) ds))))) else (ds=[aP .bool (decide ((x0.length:Int)<=8))]))
end
theorem bEI (ds:List aY) (K:jK) (q:Nat->Value):∀ n,(∀ {x0},R98 n x0 ds->St d98 (x0,()) ds [] K q)/\(∀ {v3 x0},Kn n v3 x0 ds->Cu d98 2 (bEH v3 x0) ds [] K q):=by
 intro n
 induction n with
 | zero=>exact ⟨λh=>h.elim,λh=>h.elim⟩
 | succ n ih =>
 obtain ⟨i,i2⟩:=ih;exact ⟨λh=>jp (i2 h),
  λh=>bR h (λh=>c2 h λh=>tv<|bR h (λh=>tT<|rh h) λh=>bR h (λh=>c1 h λh=>c2 h λh=>c2 h λh=>bR h (λh=>rh h) λh=>c1 h λh=>jp (i2 h)) λh=>tF<|c1 h λh=>jp (i2 h)) λh=>rh h⟩
def aGK (x0:List bX) (i:Nat) (x:bX):Bool :=
 Ms x&&(i==0||bE (aB (x0.getD (i - 1) (aC,(0:Int),(0:Int),())).1) (aB x.1))
def UW (x0:List bX):Bool:=lC (aGK x0) 0 x0&&decide (x0.length<=8)
def P98 (x0:List bX):Prop:=True
theorem aL9 (n i : Nat) (x0 : List bX) (hm : x0.length <= maxLen) (hi : i < x0.length) (ds : List aY) :
    (if aGK x0 i (x0.getD i (aC, (0 : Int), (0 : Int), ())) = true then Kn n ((i : Int) + 1) x0 ds else ds = [⟨.bool, false⟩]) -> Kn (n + 1) (i : Int) x0 ds := by
  intro h;have hu := fC hm hi;rw [Kn, if_pos (by simp; omega)];refine ⟨by omega, by omega, ?_⟩;simp only [aF];unfold aGK at h;cases h1 : Ms (x0.getD i (aC, (0 : Int), (0 : Int), ())) with
  | false =>
    rw [h1] at h;rw [if_pos (by rfl)];simpa using h
  | true =>
    rw [h1] at h;rw [if_neg (by simp)];by_cases h0 : (i : Int) > 0
    · rw [if_pos (by simpa using h0)]
      have hi0 : (i == 0) = false := by simp; omega
      have e : ((i : Int) - 1).toNat = i - 1 := by omega
      refine ⟨by rw [aK]; have : maxLen <= 9223372036854775807 := by decide
                 omega, by omega, by omega, by omega, by omega, ?_⟩
      rw [e];by_cases h2 : bE (aB (x0.getD (i - 1) (aC, (0 : Int), (0 : Int), ())).1) (aB (x0.getD i (aC, (0 : Int), (0 : Int), ())).1) = true
      · rw [h2, hi0] at h
        rw [if_neg (by rw [h2]; simp)];exact ⟨hu, by simpa using h⟩
      · have h2 := BE h2
        rw [h2, hi0] at h;rw [if_pos (by rw [h2]; rfl)];simpa using h
    · rw [if_neg (by simpa using h0)]
      have hi0 : (i == 0) = true := by simp; omega
      rw [hi0] at h;exact ⟨hu, by simpa using h⟩
theorem bEJ (x0:List bX) (hw:x0.length<=maxLen):R98 (x0.length+1+1) x0 [⟨.bool,UW x0⟩]:=by
 rw [R98];have key:=jU x0 (aC,(0:Int),(0:Int),()) (aGK x0) [(⟨.bool,false⟩:aY)] [⟨.bool,decide (x0.length<=8)⟩] (λn i ds=>Kn n i x0 ds) (λn => ?_) (λn i hi hok ds hr => ?_) (λn i hi hok => ?_)
 ·unfold UW;cases h:lC (aGK x0) 0 x0 with
  | true=>rw [if_pos h] at key;simpa using key
  | false=>rw [if_neg (by rw [h];simp)] at key;simpa using key
 ·rw [Kn,if_neg (by simp)];have hc:decide ((x0.length:Int)<=8)=decide (x0.length<=8):=by
   congr 1;exact propext ⟨λh=>by omega,λh=>by omega⟩
  rw [hc]
 ·exact aL9 n i x0 hw hi ds (by rw [if_pos hok];exact hr)
 ·exact aL9 n i x0 hw hi _ (by rw [if_neg (by rw [hok];simp)])
def S98:=dR d98 (λ⟨x0,_⟩=>P98 x0) λ⟨x0,_⟩=>[⟨.bool,UW x0⟩]
theorem bEK:c7 98 S98:=dF o98 (λ⟨x0,_⟩ h hwf K q =>
 (bEI _ K q _).1 (bEJ x0 hwf.1.1))
noncomputable def d24:dB:=⟨24,Tryz.f24,[.p vP],[.bool],[],[(87,S87),(88,S88),(89,S89),(90,S90),(91,S91),(92,S92),(93,S93),(94,S94),(95,S95),(96,S96),(97,S97),(98,S98)],false,[]⟩
theorem o24:FO d24:=mo Tryz.func24 ⟨bDU,bDV,bEb,bEh,bEi,bEj,bEr,bEs,bEy,bE6,bEE,bEK,trivial⟩
def P24 (x0:fV):Prop:=True
def aFt (x0:fV):Bool:=(if (UP x0.1)=true then (if (aLy x0.2.1)=true then (if (UQ x0.2.2.1)=true then (if (UR x0.2.2.2.1)=true then (if (aFp x0.2.2.2.2.1)=true then (if (aFq x0.2.2.2.2.2.1)=true then (if (US x0.2.2.2.2.2.2.1)=true then (if (aL1 x0.2.2.2.2.2.2.2.1)=true then (if (UT x0.2.2.2.2.2.2.2.2.1)=true then (if (aFs x0.2.2.2.2.2.2.2.2.2.1)=true then (if (UV x0.2.2.2.2.2.2.2.2.2.2.1)=true then UW x0.2.2.2.2.2.2.2.2.2.2.2.1 else false) else false) else false) else false) else false) else false) else false) else false) else false) else false) else false)
def S24:=dR d24 (λ⟨x0,_⟩=>P24 x0) λ⟨x0,_⟩=>[⟨.bool,aFt x0⟩]
theorem bEL:c7 24 S24:=dF o24 λ⟨x0,_⟩ h _ K q=>tv<|e1 (tv<|e1 (tv<|e1 (tv<|e1 (tv<|e1 (tv<|e1 (tv<|e1 (tv<|e1 (tv<|e1 (tv<|e1 (tv<|e1 (tv<|rt) (rt)) (tF<|rt)) (tF<|tF<|rt)) (tF<|tF<|tF<|rt)) (tF<|tF<|tF<|tF<|rt)) (tF<|tF<|tF<|tF<|tF<|rt)) (tF<|tF<|tF<|tF<|tF<|tF<|rt)) (tF<|tF<|tF<|tF<|tF<|tF<|tF<|rt)) (tF<|tF<|tF<|tF<|tF<|tF<|tF<|tF<|rt)) (tF<|tF<|tF<|tF<|tF<|tF<|tF<|tF<|tF<|rt)) (tF<|tF<|tF<|tF<|tF<|tF<|tF<|tF<|tF<|tF<|rt)
noncomputable def d9:dB:=⟨9,Tryz.f9,[.v vP],[.bool],[],[(24,S24)],false,[]⟩
theorem o9:FO d9:=mo Tryz.func9 ⟨bEL,trivial⟩
def P9 (x0:fV):Prop:=True
def aOU (x0:fV):Bool:=aFt x0
def S9:=dR d9 (λ⟨x0,_⟩=>P9 x0) λ⟨x0,_⟩=>[⟨.bool,aOU x0⟩]
theorem bMu:c7 9 S9:=dF o9 λ⟨x0,_⟩ h _ K q=>tv<|rt
noncomputable def d25:dB:=⟨25,Tryz.f25,[.v (.sl gT),.v (.sl gT)],[.bool],[],[],false,[]⟩
theorem o25:FO d25:=mo Tryz.func25 trivial
def bEM (v13:Int) (x0:List dG) (x1:List dG):eD×bG:=([eL 0 gT x0,eL 1 gT x1,eI 12 (x0.length:Int),eI 13 v13],[])
mutual
def R25:Nat->List dG->List dG->List aY->Prop
 | 0,_,_,_=>False
 | n+1,x0,x1,ds=>(if ((x0.length:Int) != (x1.length:Int))=true then (ds=[aP .bool false]) else (UX n (0) (x0) (x1) ds))
def UX:Nat->Int->List dG->List dG->List aY->Prop
 | 0,_,_,_,_=>False
 | n+1,v13,x0,x1,ds=>(if (decide (v13<(x0.length:Int)))=true then ((0<=v13)/\(v13<(x0.length:Int))/\((0<=v13)/\(v13<(x1.length:Int))/\(if (!xM gT (aD x0 (aE v13) (aC,0,0,0,())) (aD x1 (aE v13) (aC,0,0,0,())))=true then (ds=[aP .bool false]) else ((cC .i64 (v13+1))/\(UX n (v13+1) (x0) (x1) ds))))) else (ds=[aP .bool true]))
end
theorem bEN (ds:List aY) (K:jK) (q:Nat->Value):∀ n,(∀ {x0 x1},R25 n x0 x1 ds->St d25 (x0,x1,()) ds [] K q)/\(∀ {v13 x0 x1},UX n v13 x0 x1 ds->Cu d25 4 (bEM v13 x0 x1) ds [] K q):=by
 intro n
 induction n with
 | zero=>exact ⟨λh=>h.elim,λh=>h.elim⟩
 | succ n ih =>
 obtain ⟨i,i4⟩:=ih;exact ⟨λh=>bR h (λh=>rh h) λh=>jp (i4 h),
  λh=>bR h (λh=>c2 h λh=>c2 h λh=>bR h (λh=>rh h) λh=>c1 h λh=>jp (i4 h)) λh=>rh h⟩
theorem bMw (x0 x1:List dG) (hl:x0.length=x1.length) (hm:x0.length<=maxLen):∀ k i:Nat,i+k=x0.length->UX (k+1) (i:Int) x0 x1 [⟨.bool,decide (x0.drop i=x1.drop i)⟩]:=by
 intro k
 induction k with
 | zero =>
  intro i hi;have h1:¬ (i:Int)<(x0.length:Int):=by omega
  rw [UX,if_neg (by simpa using h1),gW x0 i (by omega),gW x1 i (by omega)];simp
 | succ k ih =>
  intro i hi;have h1:(i:Int)<(x0.length:Int):=by omega
  rw [UX,if_pos (by simpa using h1)];refine ⟨by omega,h1,by omega,by omega,?_⟩;simp only [aF];rw [eH x0 i (aC,(0:Int),(0:Int),(0:Int),()) (by omega),eH x1 i (aC,(0:Int),(0:Int),(0:Int),()) (by omega)];by_cases he:x0.getD i (aC,(0:Int),(0:Int),(0:Int),())=x1.getD i (aC,(0:Int),(0:Int),(0:Int),())
  ·have hd:=(n7 (t:=gT) rfl).2 he;rw [if_neg (by rw [hd];simp)];refine ⟨fC hm (by omega),?_⟩;have:=ih (i+1) (by omega);simp only [he,dP,true_and];exact this
  ·have hd:xM gT (x0.getD i (aC,(0:Int),(0:Int),(0:Int),())) (x1.getD i (aC,(0:Int),(0:Int),(0:Int),()))=false :=
    BE λh=>he ((n7 rfl).1 h)
   rw [if_pos (by rw [hd];rfl)];simp only [he,dP,false_and,decide_false]
def aLA (x0 x1:List dG):Bool:=decide (x0=x1)
def P25 (x0 x1:List dG):Prop:=True
def S25:=dR d25 (λ⟨x0,x1,_⟩=>P25 x0 x1) λ⟨x0,x1,_⟩=>[⟨.bool,aLA x0 x1⟩]
theorem bEO:c7 25 S25:=dF o25 (λ⟨x0,x1,_⟩ h hwf K q=>by
 refine (bEN _ K q ((x0.length+2))).1 ?_;show R25 (x0.length+1+1) x0 x1 [⟨.bool,decide (x0=x1)⟩];rw [R25];by_cases hl:x0.length=x1.length
 ·rw [if_neg (by simp [hl])];have:=bMw x0 x1 hl hwf.1.1 x0.length 0 (by omega);simpa using this
 ·rw [if_pos (by simp;omega)];have:x0≠x1:=λh=>hl (by rw [h]);simp [this])
noncomputable def d26:dB:=⟨26,Tryz.f26,[.v (.sl fL),.v (.sl fL)],[.bool],[],[],false,[]⟩
theorem o26:FO d26:=mo Tryz.func26 trivial
def bEP (v13:Int) (x0:List cU) (x1:List cU):eD×bG:=([eL 0 fL x0,eL 1 fL x1,eI 12 (x0.length:Int),eI 13 v13],[])
mutual
def R26:Nat->List cU->List cU->List aY->Prop
 | 0,_,_,_=>False
 | n+1,x0,x1,ds=>(if ((x0.length:Int) != (x1.length:Int))=true then (ds=[aP .bool false]) else (UY n (0) (x0) (x1) ds))
def UY:Nat->Int->List cU->List cU->List aY->Prop
 | 0,_,_,_,_=>False
 | n+1,v13,x0,x1,ds=>(if (decide (v13<(x0.length:Int)))=true then ((0<=v13)/\(v13<(x0.length:Int))/\((0<=v13)/\(v13<(x1.length:Int))/\(if (!xM fL (aD x0 (aE v13) (0,0,0,())) (aD x1 (aE v13) (0,0,0,())))=true then (ds=[aP .bool false]) else ((cC .i64 (v13+1))/\(UY n (v13+1) (x0) (x1) ds))))) else (ds=[aP .bool true]))
end
theorem bEQ (ds:List aY) (K:jK) (q:Nat->Value):∀ n,(∀ {x0 x1},R26 n x0 x1 ds->St d26 (x0,x1,()) ds [] K q)/\(∀ {v13 x0 x1},UY n v13 x0 x1 ds->Cu d26 4 (bEP v13 x0 x1) ds [] K q):=by
 intro n
 induction n with
 | zero=>exact ⟨λh=>h.elim,λh=>h.elim⟩
 | succ n ih =>
 obtain ⟨i,i4⟩:=ih;exact ⟨λh=>bR h (λh=>rh h) λh=>jp (i4 h),
  λh=>bR h (λh=>c2 h λh=>c2 h λh=>bR h (λh=>rh h) λh=>c1 h λh=>jp (i4 h)) λh=>rh h⟩
theorem bMy (x0 x1:List cU) (hl:x0.length=x1.length) (hm:x0.length<=maxLen):∀ k i:Nat,i+k=x0.length->UY (k+1) (i:Int) x0 x1 [⟨.bool,decide (x0.drop i=x1.drop i)⟩]:=by
 intro k
 induction k with
 | zero =>
  intro i hi;have h1:¬ (i:Int)<(x0.length:Int):=by omega
  rw [UY,if_neg (by simpa using h1),gW x0 i (by omega),gW x1 i (by omega)];simp
 | succ k ih =>
  intro i hi;have h1:(i:Int)<(x0.length:Int):=by omega
  rw [UY,if_pos (by simpa using h1)];refine ⟨by omega,h1,by omega,by omega,?_⟩;simp only [aF];rw [eH x0 i ((0:Int),(0:Int),(0:Int),()) (by omega),eH x1 i ((0:Int),(0:Int),(0:Int),()) (by omega)];by_cases he:x0.getD i ((0:Int),(0:Int),(0:Int),())=x1.getD i ((0:Int),(0:Int),(0:Int),())
  ·have hd:=(n7 (t:=fL) rfl).2 he;rw [if_neg (by rw [hd];simp)];refine ⟨fC hm (by omega),?_⟩;have:=ih (i+1) (by omega);simp only [he,dP,true_and];exact this
  ·have hd:xM fL (x0.getD i ((0:Int),(0:Int),(0:Int),())) (x1.getD i ((0:Int),(0:Int),(0:Int),()))=false :=
    BE λh=>he ((n7 rfl).1 h)
   rw [if_pos (by rw [hd];rfl)];simp only [he,dP,false_and,decide_false]
def aLB (x0 x1:List cU):Bool:=decide (x0=x1)
def P26 (x0 x1:List cU):Prop:=True
def S26:=dR d26 (λ⟨x0,x1,_⟩=>P26 x0 x1) λ⟨x0,x1,_⟩=>[⟨.bool,aLB x0 x1⟩]
theorem bER:c7 26 S26:=dF o26 (λ⟨x0,x1,_⟩ h hwf K q=>by
 refine (bEQ _ K q ((x0.length+2))).1 ?_;show R26 (x0.length+1+1) x0 x1 [⟨.bool,decide (x0=x1)⟩];rw [R26];by_cases hl:x0.length=x1.length
 ·rw [if_neg (by simp [hl])];have:=bMy x0 x1 hl hwf.1.1 x0.length 0 (by omega);simpa using this
 ·rw [if_pos (by simp;omega)];have:x0≠x1:=λh=>hl (by rw [h]);simp [this])
noncomputable def d27:dB:=⟨27,Tryz.f27,[.v (.sl fL),.v (.sl fL)],[.bool],[],[],false,[]⟩
theorem o27:FO d27:=mo Tryz.func27 trivial
def bES (v13:Int) (x0:List cU) (x1:List cU):eD×bG:=([eL 0 fL x0,eL 1 fL x1,eI 12 (x0.length:Int),eI 13 v13],[])
mutual
def R27:Nat->List cU->List cU->List aY->Prop
 | 0,_,_,_=>False
 | n+1,x0,x1,ds=>(if ((x0.length:Int) != (x1.length:Int))=true then (ds=[aP .bool false]) else (UZ n (0) (x0) (x1) ds))
def UZ:Nat->Int->List cU->List cU->List aY->Prop
 | 0,_,_,_,_=>False
 | n+1,v13,x0,x1,ds=>(if (decide (v13<(x0.length:Int)))=true then ((0<=v13)/\(v13<(x0.length:Int))/\((0<=v13)/\(v13<(x1.length:Int))/\(if (!xM fL (aD x0 (aE v13) (0,0,0,())) (aD x1 (aE v13) (0,0,0,())))=true then (ds=[aP .bool false]) else ((cC .i64 (v13+1))/\(UZ n (v13+1) (x0) (x1) ds))))) else (ds=[aP .bool true]))
end
theorem bET (ds:List aY) (K:jK) (q:Nat->Value):∀ n,(∀ {x0 x1},R27 n x0 x1 ds->St d27 (x0,x1,()) ds [] K q)/\(∀ {v13 x0 x1},UZ n v13 x0 x1 ds->Cu d27 4 (bES v13 x0 x1) ds [] K q):=by
 intro n
 induction n with
 | zero=>exact ⟨λh=>h.elim,λh=>h.elim⟩
 | succ n ih =>
 obtain ⟨i,i4⟩:=ih;exact ⟨λh=>bR h (λh=>rh h) λh=>jp (i4 h),
  λh=>bR h (λh=>c2 h λh=>c2 h λh=>bR h (λh=>rh h) λh=>c1 h λh=>jp (i4 h)) λh=>rh h⟩
theorem bM0 (x0 x1:List cU) (hl:x0.length=x1.length) (hm:x0.length<=maxLen):∀ k i:Nat,i+k=x0.length->UZ (k+1) (i:Int) x0 x1 [⟨.bool,decide (x0.drop i=x1.drop i)⟩]:=by
 intro k
 induction k with
 | zero =>
  intro i hi;have h1:¬ (i:Int)<(x0.length:Int):=by omega
  rw [UZ,if_neg (by simpa using h1),gW x0 i (by omega),gW x1 i (by omega)];simp
 | succ k ih =>
  intro i hi;have h1:(i:Int)<(x0.length:Int):=by omega
  rw [UZ,if_pos (by simpa using h1)];refine ⟨by omega,h1,by omega,by omega,?_⟩;simp only [aF];rw [eH x0 i ((0:Int),(0:Int),(0:Int),()) (by omega),eH x1 i ((0:Int),(0:Int),(0:Int),()) (by omega)];by_cases he:x0.getD i ((0:Int),(0:Int),(0:Int),())=x1.getD i ((0:Int),(0:Int),(0:Int),())
  ·have hd:=(n7 (t:=fL) rfl).2 he;rw [if_neg (by rw [hd];simp)];refine ⟨fC hm (by omega),?_⟩;have:=ih (i+1) (by omega);simp only [he,dP,true_and];exact this
  ·have hd:xM fL (x0.getD i ((0:Int),(0:Int),(0:Int),())) (x1.getD i ((0:Int),(0:Int),(0:Int),()))=false :=
    BE λh=>he ((n7 rfl).1 h)
   rw [if_pos (by rw [hd];rfl)];simp only [he,dP,false_and,decide_false]
def aLC (x0 x1:List cU):Bool:=decide (x0=x1)
def P27 (x0 x1:List cU):Prop:=True
def S27:=dR d27 (λ⟨x0,x1,_⟩=>P27 x0 x1) λ⟨x0,x1,_⟩=>[⟨.bool,aLC x0 x1⟩]
theorem bEU:c7 27 S27:=dF o27 (λ⟨x0,x1,_⟩ h hwf K q=>by
 refine (bET _ K q ((x0.length+2))).1 ?_;show R27 (x0.length+1+1) x0 x1 [⟨.bool,decide (x0=x1)⟩];rw [R27];by_cases hl:x0.length=x1.length
 ·rw [if_neg (by simp [hl])];have:=bM0 x0 x1 hl hwf.1.1 x0.length 0 (by omega);simpa using this
 ·rw [if_pos (by simp;omega)];have:x0≠x1:=λh=>hl (by rw [h]);simp [this])
noncomputable def d28:dB:=⟨28,Tryz.f28,[.v (.sl fP),.v (.sl fP)],[.bool],[],[],false,[]⟩
theorem o28:FO d28:=mo Tryz.func28 trivial
def bEV (v13:Int) (x0:List bX) (x1:List bX):eD×bG:=([eL 0 fP x0,eL 1 fP x1,eI 12 (x0.length:Int),eI 13 v13],[])
mutual
def R28:Nat->List bX->List bX->List aY->Prop
 | 0,_,_,_=>False
 | n+1,x0,x1,ds=>(if ((x0.length:Int) != (x1.length:Int))=true then (ds=[aP .bool false]) else (U0 n (0) (x0) (x1) ds))
def U0:Nat->Int->List bX->List bX->List aY->Prop
 | 0,_,_,_,_=>False
 | n+1,v13,x0,x1,ds=>(if (decide (v13<(x0.length:Int)))=true then ((0<=v13)/\(v13<(x0.length:Int))/\((0<=v13)/\(v13<(x1.length:Int))/\(if (!xM fP (aD x0 (aE v13) (aC,0,0,())) (aD x1 (aE v13) (aC,0,0,())))=true then (ds=[aP .bool false]) else ((cC .i64 (v13+1))/\(U0 n (v13+1) (x0) (x1) ds))))) else (ds=[aP .bool true]))
end
theorem bEW (ds:List aY) (K:jK) (q:Nat->Value):∀ n,(∀ {x0 x1},R28 n x0 x1 ds->St d28 (x0,x1,()) ds [] K q)/\(∀ {v13 x0 x1},U0 n v13 x0 x1 ds->Cu d28 4 (bEV v13 x0 x1) ds [] K q):=by
 intro n
 induction n with
 | zero=>exact ⟨λh=>h.elim,λh=>h.elim⟩
 | succ n ih =>
 obtain ⟨i,i4⟩:=ih;exact ⟨λh=>bR h (λh=>rh h) λh=>jp (i4 h),
  λh=>bR h (λh=>c2 h λh=>c2 h λh=>bR h (λh=>rh h) λh=>c1 h λh=>jp (i4 h)) λh=>rh h⟩
theorem bM2 (x0 x1:List bX) (hl:x0.length=x1.length) (hm:x0.length<=maxLen):∀ k i:Nat,i+k=x0.length->U0 (k+1) (i:Int) x0 x1 [⟨.bool,decide (x0.drop i=x1.drop i)⟩]:=by
 intro k
 induction k with
 | zero =>
  intro i hi;have h1:¬ (i:Int)<(x0.length:Int):=by omega
  rw [U0,if_neg (by simpa using h1),gW x0 i (by omega),gW x1 i (by omega)];simp
 | succ k ih =>
  intro i hi;have h1:(i:Int)<(x0.length:Int):=by omega
  rw [U0,if_pos (by simpa using h1)];refine ⟨by omega,h1,by omega,by omega,?_⟩;simp only [aF];rw [eH x0 i (aC,(0:Int),(0:Int),()) (by omega),eH x1 i (aC,(0:Int),(0:Int),()) (by omega)];by_cases he:x0.getD i (aC,(0:Int),(0:Int),())=x1.getD i (aC,(0:Int),(0:Int),())
  ·have hd:=(n7 (t:=fP) rfl).2 he;rw [if_neg (by rw [hd];simp)];refine ⟨fC hm (by omega),?_⟩;have:=ih (i+1) (by omega);simp only [he,dP,true_and];exact this
  ·have hd:xM fP (x0.getD i (aC,(0:Int),(0:Int),())) (x1.getD i (aC,(0:Int),(0:Int),()))=false :=
    BE λh=>he ((n7 rfl).1 h)
   rw [if_pos (by rw [hd];rfl)];simp only [he,dP,false_and,decide_false]
def Rb (x0 x1:List bX):Bool:=decide (x0=x1)
def P28 (x0 x1:List bX):Prop:=True
def S28:=dR d28 (λ⟨x0,x1,_⟩=>P28 x0 x1) λ⟨x0,x1,_⟩=>[⟨.bool,Rb x0 x1⟩]
theorem bEX:c7 28 S28:=dF o28 (λ⟨x0,x1,_⟩ h hwf K q=>by
 refine (bEW _ K q ((x0.length+2))).1 ?_;show R28 (x0.length+1+1) x0 x1 [⟨.bool,decide (x0=x1)⟩];rw [R28];by_cases hl:x0.length=x1.length
 ·rw [if_neg (by simp [hl])];have:=bM2 x0 x1 hl hwf.1.1 x0.length 0 (by omega);simpa using this
 ·rw [if_pos (by simp;omega)];have:x0≠x1:=λh=>hl (by rw [h]);simp [this])
noncomputable def d29:dB:=⟨29,Tryz.f29,[.v (.sl gT),.v (.sl gT)],[.bool],[],[],false,[]⟩
theorem o29:FO d29:=mo Tryz.func29 trivial
def bEY (v13:Int) (x0:List dG) (x1:List dG):eD×bG:=([eL 0 gT x0,eL 1 gT x1,eI 12 (x0.length:Int),eI 13 v13],[])
mutual
def R29:Nat->List dG->List dG->List aY->Prop
 | 0,_,_,_=>False
 | n+1,x0,x1,ds=>(if ((x0.length:Int) != (x1.length:Int))=true then (ds=[aP .bool false]) else (U1 n (0) (x0) (x1) ds))
def U1:Nat->Int->List dG->List dG->List aY->Prop
 | 0,_,_,_,_=>False
 | n+1,v13,x0,x1,ds=>(if (decide (v13<(x0.length:Int)))=true then ((0<=v13)/\(v13<(x0.length:Int))/\((0<=v13)/\(v13<(x1.length:Int))/\(if (!xM gT (aD x0 (aE v13) (aC,0,0,0,())) (aD x1 (aE v13) (aC,0,0,0,())))=true then (ds=[aP .bool false]) else ((cC .i64 (v13+1))/\(U1 n (v13+1) (x0) (x1) ds))))) else (ds=[aP .bool true]))
end
theorem bEZ (ds:List aY) (K:jK) (q:Nat->Value):∀ n,(∀ {x0 x1},R29 n x0 x1 ds->St d29 (x0,x1,()) ds [] K q)/\(∀ {v13 x0 x1},U1 n v13 x0 x1 ds->Cu d29 4 (bEY v13 x0 x1) ds [] K q):=by
 intro n
 induction n with
 | zero=>exact ⟨λh=>h.elim,λh=>h.elim⟩
 | succ n ih =>
 obtain ⟨i,i4⟩:=ih;exact ⟨λh=>bR h (λh=>rh h) λh=>jp (i4 h),
  λh=>bR h (λh=>c2 h λh=>c2 h λh=>bR h (λh=>rh h) λh=>c1 h λh=>jp (i4 h)) λh=>rh h⟩
theorem bM4 (x0 x1:List dG) (hl:x0.length=x1.length) (hm:x0.length<=maxLen):∀ k i:Nat,i+k=x0.length->U1 (k+1) (i:Int) x0 x1 [⟨.bool,decide (x0.drop i=x1.drop i)⟩]:=by
 intro k
 induction k with
 | zero =>
  intro i hi;have h1:¬ (i:Int)<(x0.length:Int):=by omega
  rw [U1,if_neg (by simpa using h1),gW x0 i (by omega),gW x1 i (by omega)];simp
 | succ k ih =>
  intro i hi;have h1:(i:Int)<(x0.length:Int):=by omega
  rw [U1,if_pos (by simpa using h1)];refine ⟨by omega,h1,by omega,by omega,?_⟩;simp only [aF];rw [eH x0 i (aC,(0:Int),(0:Int),(0:Int),()) (by omega),eH x1 i (aC,(0:Int),(0:Int),(0:Int),()) (by omega)];by_cases he:x0.getD i (aC,(0:Int),(0:Int),(0:Int),())=x1.getD i (aC,(0:Int),(0:Int),(0:Int),())
  ·have hd:=(n7 (t:=gT) rfl).2 he;rw [if_neg (by rw [hd];simp)];refine ⟨fC hm (by omega),?_⟩;have:=ih (i+1) (by omega);simp only [he,dP,true_and];exact this
  ·have hd:xM gT (x0.getD i (aC,(0:Int),(0:Int),(0:Int),())) (x1.getD i (aC,(0:Int),(0:Int),(0:Int),()))=false :=
    BE λh=>he ((n7 rfl).1 h)
   rw [if_pos (by rw [hd];rfl)];simp only [he,dP,false_and,decide_false]
def aLD (x0 x1:List dG):Bool:=decide (x0=x1)
def P29 (x0 x1:List dG):Prop:=True
def S29:=dR d29 (λ⟨x0,x1,_⟩=>P29 x0 x1) λ⟨x0,x1,_⟩=>[⟨.bool,aLD x0 x1⟩]
theorem bFa:c7 29 S29:=dF o29 (λ⟨x0,x1,_⟩ h hwf K q=>by
 refine (bEZ _ K q ((x0.length+2))).1 ?_;show R29 (x0.length+1+1) x0 x1 [⟨.bool,decide (x0=x1)⟩];rw [R29];by_cases hl:x0.length=x1.length
 ·rw [if_neg (by simp [hl])];have:=bM4 x0 x1 hl hwf.1.1 x0.length 0 (by omega);simpa using this
 ·rw [if_pos (by simp;omega)];have:x0≠x1:=λh=>hl (by rw [h]);simp [this])
noncomputable def d30:dB:=⟨30,Tryz.f30,[.v (.sl fL),.v (.sl fL)],[.bool],[],[],false,[]⟩
theorem o30:FO d30:=mo Tryz.func30 trivial
def bFb (v13:Int) (x0:List cU) (x1:List cU):eD×bG:=([eL 0 fL x0,eL 1 fL x1,eI 12 (x0.length:Int),eI 13 v13],[])
mutual
def R30:Nat->List cU->List cU->List aY->Prop
 | 0,_,_,_=>False
 | n+1,x0,x1,ds=>(if ((x0.length:Int) != (x1.length:Int))=true then (ds=[aP .bool false]) else (U2 n (0) (x0) (x1) ds))
def U2:Nat->Int->List cU->List cU->List aY->Prop
 | 0,_,_,_,_=>False
 | n+1,v13,x0,x1,ds=>(if (decide (v13<(x0.length:Int)))=true then ((0<=v13)/\(v13<(x0.length:Int))/\((0<=v13)/\(v13<(x1.length:Int))/\(if (!xM fL (aD x0 (aE v13) (0,0,0,())) (aD x1 (aE v13) (0,0,0,())))=true then (ds=[aP .bool false]) else ((cC .i64 (v13+1))/\(U2 n (v13+1) (x0) (x1) ds))))) else (ds=[aP .bool true]))
end
theorem bFc (ds:List aY) (K:jK) (q:Nat->Value):∀ n,(∀ {x0 x1},R30 n x0 x1 ds->St d30 (x0,x1,()) ds [] K q)/\(∀ {v13 x0 x1},U2 n v13 x0 x1 ds->Cu d30 4 (bFb v13 x0 x1) ds [] K q):=by
 intro n
 induction n with
 | zero=>exact ⟨λh=>h.elim,λh=>h.elim⟩
 | succ n ih =>
 obtain ⟨i,i4⟩:=ih;exact ⟨λh=>bR h (λh=>rh h) λh=>jp (i4 h),
  λh=>bR h (λh=>c2 h λh=>c2 h λh=>bR h (λh=>rh h) λh=>c1 h λh=>jp (i4 h)) λh=>rh h⟩
theorem bM6 (x0 x1:List cU) (hl:x0.length=x1.length) (hm:x0.length<=maxLen):∀ k i:Nat,i+k=x0.length->U2 (k+1) (i:Int) x0 x1 [⟨.bool,decide (x0.drop i=x1.drop i)⟩]:=by
 intro k
 induction k with
 | zero =>
  intro i hi;have h1:¬ (i:Int)<(x0.length:Int):=by omega
  rw [U2,if_neg (by simpa using h1),gW x0 i (by omega),gW x1 i (by omega)];simp
 | succ k ih =>
  intro i hi;have h1:(i:Int)<(x0.length:Int):=by omega
  rw [U2,if_pos (by simpa using h1)];refine ⟨by omega,h1,by omega,by omega,?_⟩;simp only [aF];rw [eH x0 i ((0:Int),(0:Int),(0:Int),()) (by omega),eH x1 i ((0:Int),(0:Int),(0:Int),()) (by omega)];by_cases he:x0.getD i ((0:Int),(0:Int),(0:Int),())=x1.getD i ((0:Int),(0:Int),(0:Int),())
  ·have hd:=(n7 (t:=fL) rfl).2 he;rw [if_neg (by rw [hd];simp)];refine ⟨fC hm (by omega),?_⟩;have:=ih (i+1) (by omega);simp only [he,dP,true_and];exact this
  ·have hd:xM fL (x0.getD i ((0:Int),(0:Int),(0:Int),())) (x1.getD i ((0:Int),(0:Int),(0:Int),()))=false :=
    BE λh=>he ((n7 rfl).1 h)
   rw [if_pos (by rw [hd];rfl)];simp only [he,dP,false_and,decide_false]
def aLE (x0 x1:List cU):Bool:=decide (x0=x1)
def P30 (x0 x1:List cU):Prop:=True
def S30:=dR d30 (λ⟨x0,x1,_⟩=>P30 x0 x1) λ⟨x0,x1,_⟩=>[⟨.bool,aLE x0 x1⟩]
theorem bFd:c7 30 S30:=dF o30 (λ⟨x0,x1,_⟩ h hwf K q=>by
 refine (bFc _ K q ((x0.length+2))).1 ?_;show R30 (x0.length+1+1) x0 x1 [⟨.bool,decide (x0=x1)⟩];rw [R30];by_cases hl:x0.length=x1.length
 ·rw [if_neg (by simp [hl])];have:=bM6 x0 x1 hl hwf.1.1 x0.length 0 (by omega);simpa using this
 ·rw [if_pos (by simp;omega)];have:x0≠x1:=λh=>hl (by rw [h]);simp [this])
noncomputable def d31:dB:=⟨31,Tryz.f31,[.v (.sl fP),.v (.sl fP)],[.bool],[],[],false,[]⟩
theorem o31:FO d31:=mo Tryz.func31 trivial
def bFe (v13:Int) (x0:List bX) (x1:List bX):eD×bG:=([eL 0 fP x0,eL 1 fP x1,eI 12 (x0.length:Int),eI 13 v13],[])
mutual
def R31:Nat->List bX->List bX->List aY->Prop
 | 0,_,_,_=>False
 | n+1,x0,x1,ds=>(if ((x0.length:Int) != (x1.length:Int))=true then (ds=[aP .bool false]) else (U3 n (0) (x0) (x1) ds))
def U3:Nat->Int->List bX->List bX->List aY->Prop
 | 0,_,_,_,_=>False
 | n+1,v13,x0,x1,ds=>(if (decide (v13<(x0.length:Int)))=true then ((0<=v13)/\(v13<(x0.length:Int))/\((0<=v13)/\(v13<(x1.length:Int))/\(if (!xM fP (aD x0 (aE v13) (aC,0,0,())) (aD x1 (aE v13) (aC,0,0,())))=true then (ds=[aP .bool false]) else ((cC .i64 (v13+1))/\(U3 n (v13+1) (x0) (x1) ds))))) else (ds=[aP .bool true]))
end
theorem bFf (ds:List aY) (K:jK) (q:Nat->Value):∀ n,(∀ {x0 x1},R31 n x0 x1 ds->St d31 (x0,x1,()) ds [] K q)/\(∀ {v13 x0 x1},U3 n v13 x0 x1 ds->Cu d31 4 (bFe v13 x0 x1) ds [] K q):=by
 intro n
 induction n with
 | zero=>exact ⟨λh=>h.elim,λh=>h.elim⟩
 | succ n ih =>
 obtain ⟨i,i4⟩:=ih;exact ⟨λh=>bR h (λh=>rh h) λh=>jp (i4 h),
  λh=>bR h (λh=>c2 h λh=>c2 h λh=>bR h (λh=>rh h) λh=>c1 h λh=>jp (i4 h)) λh=>rh h⟩
theorem bM8 (x0 x1:List bX) (hl:x0.length=x1.length) (hm:x0.length<=maxLen):∀ k i:Nat,i+k=x0.length->U3 (k+1) (i:Int) x0 x1 [⟨.bool,decide (x0.drop i=x1.drop i)⟩]:=by
 intro k
 induction k with
 | zero =>
  intro i hi;have h1:¬ (i:Int)<(x0.length:Int):=by omega
  rw [U3,if_neg (by simpa using h1),gW x0 i (by omega),gW x1 i (by omega)];simp
 | succ k ih =>
  intro i hi;have h1:(i:Int)<(x0.length:Int):=by omega
  rw [U3,if_pos (by simpa using h1)];refine ⟨by omega,h1,by omega,by omega,?_⟩;simp only [aF];rw [eH x0 i (aC,(0:Int),(0:Int),()) (by omega),eH x1 i (aC,(0:Int),(0:Int),()) (by omega)];by_cases he:x0.getD i (aC,(0:Int),(0:Int),())=x1.getD i (aC,(0:Int),(0:Int),())
  ·have hd:=(n7 (t:=fP) rfl).2 he;rw [if_neg (by rw [hd];simp)];refine ⟨fC hm (by omega),?_⟩;have:=ih (i+1) (by omega);simp only [he,dP,true_and];exact this
  ·have hd:xM fP (x0.getD i (aC,(0:Int),(0:Int),())) (x1.getD i (aC,(0:Int),(0:Int),()))=false :=
    BE λh=>he ((n7 rfl).1 h)
   rw [if_pos (by rw [hd];rfl)];simp only [he,dP,false_and,decide_false]
def aLF (x0 x1:List bX):Bool:=decide (x0=x1)
def P31 (x0 x1:List bX):Prop:=True
def S31:=dR d31 (λ⟨x0,x1,_⟩=>P31 x0 x1) λ⟨x0,x1,_⟩=>[⟨.bool,aLF x0 x1⟩]
theorem bFg:c7 31 S31:=dF o31 (λ⟨x0,x1,_⟩ h hwf K q=>by
 refine (bFf _ K q ((x0.length+2))).1 ?_;show R31 (x0.length+1+1) x0 x1 [⟨.bool,decide (x0=x1)⟩];rw [R31];by_cases hl:x0.length=x1.length
 ·rw [if_neg (by simp [hl])];have:=bM8 x0 x1 hl hwf.1.1 x0.length 0 (by omega);simpa using this
 ·rw [if_pos (by simp;omega)];have:x0≠x1:=λh=>hl (by rw [h]);simp [this])
noncomputable def d32:dB:=⟨32,Tryz.f32,[.v (.sl fP),.v (.sl fP)],[.bool],[],[],false,[]⟩
theorem o32:FO d32:=mo Tryz.func32 trivial
def bFh (v13:Int) (x0:List bX) (x1:List bX):eD×bG:=([eL 0 fP x0,eL 1 fP x1,eI 12 (x0.length:Int),eI 13 v13],[])
mutual
def R32:Nat->List bX->List bX->List aY->Prop
 | 0,_,_,_=>False
 | n+1,x0,x1,ds=>(if ((x0.length:Int) != (x1.length:Int))=true then (ds=[aP .bool false]) else (U4 n (0) (x0) (x1) ds))
def U4:Nat->Int->List bX->List bX->List aY->Prop
 | 0,_,_,_,_=>False
 | n+1,v13,x0,x1,ds=>(if (decide (v13<(x0.length:Int)))=true then ((0<=v13)/\(v13<(x0.length:Int))/\((0<=v13)/\(v13<(x1.length:Int))/\(if (!xM fP (aD x0 (aE v13) (aC,0,0,())) (aD x1 (aE v13) (aC,0,0,())))=true then (ds=[aP .bool false]) else ((cC .i64 (v13+1))/\(U4 n (v13+1) (x0) (x1) ds))))) else (ds=[aP .bool true]))
end
theorem bFi (ds:List aY) (K:jK) (q:Nat->Value):∀ n,(∀ {x0 x1},R32 n x0 x1 ds->St d32 (x0,x1,()) ds [] K q)/\(∀ {v13 x0 x1},U4 n v13 x0 x1 ds->Cu d32 4 (bFh v13 x0 x1) ds [] K q):=by
 intro n
 induction n with
 | zero=>exact ⟨λh=>h.elim,λh=>h.elim⟩
 | succ n ih =>
 obtain ⟨i,i4⟩:=ih;exact ⟨λh=>bR h (λh=>rh h) λh=>jp (i4 h),
  λh=>bR h (λh=>c2 h λh=>c2 h λh=>bR h (λh=>rh h) λh=>c1 h λh=>jp (i4 h)) λh=>rh h⟩
theorem bMA (x0 x1:List bX) (hl:x0.length=x1.length) (hm:x0.length<=maxLen):∀ k i:Nat,i+k=x0.length->U4 (k+1) (i:Int) x0 x1 [⟨.bool,decide (x0.drop i=x1.drop i)⟩]:=by
 intro k
 induction k with
 | zero =>
  intro i hi;have h1:¬ (i:Int)<(x0.length:Int):=by omega
  rw [U4,if_neg (by simpa using h1),gW x0 i (by omega),gW x1 i (by omega)];simp
 | succ k ih =>
  intro i hi;have h1:(i:Int)<(x0.length:Int):=by omega
  rw [U4,if_pos (by simpa using h1)];refine ⟨by omega,h1,by omega,by omega,?_⟩;simp only [aF];rw [eH x0 i (aC,(0:Int),(0:Int),()) (by omega),eH x1 i (aC,(0:Int),(0:Int),()) (by omega)];by_cases he:x0.getD i (aC,(0:Int),(0:Int),())=x1.getD i (aC,(0:Int),(0:Int),())
  ·have hd:=(n7 (t:=fP) rfl).2 he;rw [if_neg (by rw [hd];simp)];refine ⟨fC hm (by omega),?_⟩;have:=ih (i+1) (by omega);simp only [he,dP,true_and];exact this
  ·have hd:xM fP (x0.getD i (aC,(0:Int),(0:Int),())) (x1.getD i (aC,(0:Int),(0:Int),()))=false :=
    BE λh=>he ((n7 rfl).1 h)
   rw [if_pos (by rw [hd];rfl)];simp only [he,dP,false_and,decide_false]
def aLG (x0 x1:List bX):Bool:=decide (x0=x1)
def P32 (x0 x1:List bX):Prop:=True
def S32:=dR d32 (λ⟨x0,x1,_⟩=>P32 x0 x1) λ⟨x0,x1,_⟩=>[⟨.bool,aLG x0 x1⟩]
theorem bFj:c7 32 S32:=dF o32 (λ⟨x0,x1,_⟩ h hwf K q=>by
 refine (bFi _ K q ((x0.length+2))).1 ?_;show R32 (x0.length+1+1) x0 x1 [⟨.bool,decide (x0=x1)⟩];rw [R32];by_cases hl:x0.length=x1.length
 ·rw [if_neg (by simp [hl])];have:=bMA x0 x1 hl hwf.1.1 x0.length 0 (by omega);simpa using this
 ·rw [if_pos (by simp;omega)];have:x0≠x1:=λh=>hl (by rw [h]);simp [this])
noncomputable def d10:dB:=⟨10,Tryz.f10,[.v vP,.v vP],[.bool],[],[(25,S25),(26,S26),(27,S27),(28,S28),(29,S29),(30,S30),(31,S31),(32,S32)],false,[]⟩
theorem o10:FO d10:=mo Tryz.func10 ⟨bEO,bER,bEU,bEX,bFa,bFd,bFg,bFj,trivial⟩
def P10 (x0:fV) (x1:fV):Prop:=True
def aAi (x0:fV) (x1:fV):Bool:=(if (aLA x0.1 x1.1)=true then (if (xM X1 x0.2.1 x1.2.1)=true then (if (aLB x0.2.2.1 x1.2.2.1)=true then (if (aLC x0.2.2.2.1 x1.2.2.2.1)=true then (if (xM fL x0.2.2.2.2.2.1 x1.2.2.2.2.2.1)=true then (if (Rb x0.2.2.2.2.2.2.1 x1.2.2.2.2.2.2.1)=true then (if (xM X1 x0.2.2.2.2.2.2.2.1 x1.2.2.2.2.2.2.2.1)=true then (if (xM fL x0.2.2.2.2.1 x1.2.2.2.2.1)=true then (if (aLD x0.2.2.2.2.2.2.2.2.1 x1.2.2.2.2.2.2.2.2.1)=true then (if (aLE x0.2.2.2.2.2.2.2.2.2.1 x1.2.2.2.2.2.2.2.2.2.1)=true then (if (aLF x0.2.2.2.2.2.2.2.2.2.2.1 x1.2.2.2.2.2.2.2.2.2.2.1)=true then aLG x0.2.2.2.2.2.2.2.2.2.2.2.1 x1.2.2.2.2.2.2.2.2.2.2.2.1 else false) else false) else false) else false) else (if (xM fL x0.2.2.2.2.1 x1.2.2.2.2.1)=true then false else false)) else (if (xM fL x0.2.2.2.2.1 x1.2.2.2.2.1)=true then false else false)) else (if (xM fL x0.2.2.2.2.1 x1.2.2.2.2.1)=true then false else false)) else (if (xM fL x0.2.2.2.2.2.1 x1.2.2.2.2.2.1)=true then (if (Rb x0.2.2.2.2.2.2.1 x1.2.2.2.2.2.2.1)=true then (if (xM X1 x0.2.2.2.2.2.2.2.1 x1.2.2.2.2.2.2.2.1)=true then false else false) else false) else false)) else (if (xM fL x0.2.2.2.2.2.1 x1.2.2.2.2.2.1)=true then (if (Rb x0.2.2.2.2.2.2.1 x1.2.2.2.2.2.2.1)=true then (if (xM X1 x0.2.2.2.2.2.2.2.1 x1.2.2.2.2.2.2.2.1)=true then false else false) else false) else false)) else (if (xM fL x0.2.2.2.2.2.1 x1.2.2.2.2.2.1)=true then (if (Rb x0.2.2.2.2.2.2.1 x1.2.2.2.2.2.2.1)=true then (if (xM X1 x0.2.2.2.2.2.2.2.1 x1.2.2.2.2.2.2.2.1)=true then false else false) else false) else false)) else (if (xM fL x0.2.2.2.2.2.1 x1.2.2.2.2.2.1)=true then (if (Rb x0.2.2.2.2.2.2.1 x1.2.2.2.2.2.2.1)=true then (if (xM X1 x0.2.2.2.2.2.2.2.1 x1.2.2.2.2.2.2.2.1)=true then false else false) else false) else false))
def S10:=dR d10 (λ⟨x0,x1,_⟩=>P10 x0 x1) λ⟨x0,x1,_⟩=>[⟨.bool,aAi x0 x1⟩]
theorem bFk:c7 10 S10:=dF o10 λ⟨x0,x1,_⟩ h _ K q=>tv<|e1 (e1 (tv<|e1 (tv<|e1 (e1 (tv<|e1 (e1 (tv<|e1 (e1 (tv<|e1 (tv<|e1 (tv<|rt) (rt)) (tF<|rt)) (tF<|tF<|rt)) (tF<|tF<|tF<|rt)) (e1 (tF<|tF<|tF<|rt) (tF<|tF<|tF<|rt))) (tF<|e1 (tF<|tF<|tF<|rt) (tF<|tF<|tF<|rt))) (tF<|tF<|e1 (tF<|tF<|tF<|rt) (tF<|tF<|tF<|rt))) (e1 (tv<|e1 (e1 (tv<|tF<|tF<|tF<|tF<|rt) (tF<|tF<|tF<|tF<|rt)) (tF<|tF<|tF<|tF<|tF<|rt)) (tF<|tF<|tF<|tF<|tF<|tF<|rt))) (tF<|e1 (tv<|e1 (e1 (tv<|tF<|tF<|tF<|tF<|rt) (tF<|tF<|tF<|tF<|rt)) (tF<|tF<|tF<|tF<|tF<|rt)) (tF<|tF<|tF<|tF<|tF<|tF<|rt))) (tF<|tF<|e1 (tv<|e1 (e1 (tv<|tF<|tF<|tF<|tF<|rt) (tF<|tF<|tF<|tF<|rt)) (tF<|tF<|tF<|tF<|tF<|rt)) (tF<|tF<|tF<|tF<|tF<|tF<|rt))) (tF<|tF<|tF<|e1 (tv<|e1 (e1 (tv<|tF<|tF<|tF<|tF<|rt) (tF<|tF<|tF<|tF<|rt)) (tF<|tF<|tF<|tF<|tF<|rt)) (tF<|tF<|tF<|tF<|tF<|tF<|rt))
end
theorem Ko (s:ByteArray):qJ s=wW s:=by
 have hs:∀ c,sD c=(decide (97<=c)&&decide (c<=122)):=λc=>by
  unfold sD;by_cases h1:(97:Int)<=c <;> simp [h1]
 have hd:∀ c,Bx c=(decide (48<=c)&&decide (c<=57)):=λc=>by
  unfold Bx;by_cases h1:(48:Int)<=c <;> simp [h1]
 unfold qJ wW;have hl:=uW s;by_cases h1:1<=s.size
 ·cases hb:cY s with
  | nil=>rw [hb] at hl;simp at hl;omega
  | cons c r =>
   have hr:lC Hi 1 r=r.all λb=>sD b||Bx b:=by
    rw [<- Pm (λb=>sD b||Bx b) r 1];refine qF r 1 λj x hj => ?_;have:(j==0)=false:=by simp;omega
    simp only [Hi,this,hs,hd,Bool.not_false,CG]
   have h0:Hi 0 c=sD c:=by simp [Hi,hs]
   simp only [lC,hr,h0,List.all_cons,List.getD_cons_zero];cases sD c <;> simp
 ·simp [h1]
theorem aOV {x y:List UInt8} (h:bE x y=true):bE y x=false:=by
 cases h2:bE y x with
 | false=>rfl
 | true =>
  have:=Pn x y x h h2;rw [Gk] at this;cases this
theorem By (a b:ByteArray):(!(bE (aB a) (aB b)||aB a==aB b))=bE (aB b) (aB a):=by
 generalize aB a=x;generalize aB b=y;cases h1:bE x y with
 | true=>rw [aOV h1];rfl
 | false =>
  cases h2:(x==y) with
  | true =>
   have:x=y:=by simpa using h2
   subst this;rw [Gk];rfl
  | false =>
   cases h3:bE y x with
   | true=>rfl
   | false =>
    have:=aB8 x y h1 h3;subst this;simp at h2
theorem Kp {α:Type} {p:Nat->α->Bool}:∀ (l:List α) (i:Nat),lC p i l=true->∀ x∈l,∃ j,p j x=true
 | [],_,_,x,hx=>by cases hx
 | y :: r,i,h,x,hx=>by
  simp only [lC,aJ] at h;rcases aR.1 hx with rfl | hx
  ·exact ⟨i,h.1⟩
  ·exact Kp r (i+1) h.2 x hx
theorem aLH (x:dG):pR x=Mm x:=by
 unfold pR Mm;rw [Ko];rfl
theorem aGL (xs:List dG):sL xs=UP xs:=by
 unfold sL UP
 congr 1
 refine qF xs 0 λj y _ => ?_;unfold aBF aGG;rw [aLH,By]
theorem aLI (x:dG):rU x=Mp x:=by
 unfold rU Mp;rw [Ko];rfl
theorem aGM (xs:List dG):qK xs=UT xs:=by
 unfold qK UT
 congr 1
 refine qF xs 0 λj y _ => ?_;unfold aBR aGI;rw [aLI,By]
theorem aDZ (x:bX):tC x=Mo x:=by
 unfold tC Mo;rw [Ko];rfl
theorem aAj (xs:List bX):rR xs=US xs:=by
 unfold rR US
 congr 1
 refine qF xs 0 λj y _ => ?_;unfold aGx aGH;rw [aDZ,By]
theorem aEa (x:bX):yH x=Mr x:=by
 unfold yH Mr;rw [Ko];rfl
theorem aAk (xs:List bX):xV xs=UV xs:=by
 unfold xV UV
 congr 1
 refine qF xs 0 λj y _ => ?_;unfold aGy aGJ;rw [aEa,By]
theorem aLJ (x:bX):yI x=Ms x:=by
 unfold yI Ms;rw [Ko];rfl
theorem aGN (xs:List bX):xW xs=UW xs:=by
 unfold xW UW
 congr 1
 refine qF xs 0 λj y _ => ?_;unfold aGz aGK;rw [aLJ,By]
theorem aLK (x:Int×Int×Int×Unit):tD x=Mq x:=by
 unfold tD Mq;rfl
theorem aEb (xs:List cU):AQ xs=JD xs:=by
 unfold AQ JD;refine qF xs 0 λj y _ => ?_;unfold N3 UU;rw [aLK];rfl
theorem aGO (xs:List cU):jV xs=aFs xs:=by
 unfold jV aFs;rw [aEb];cases JD xs <;> cases decide ((xs.length:Int)<=24) <;> rfl
theorem aLL (x:Int×Int×Int×Unit):wE x=GC x:=by
 unfold wE GC;rfl
theorem aGP (xs:List cU):AN xs=UQ xs:=by
 unfold AN UQ AM;rw [IZ];have hq:(!xs.any AL)=xs.all GC:=by
  rw [Cw]
  congr 1
  funext b
  simp only [AL,aLL,XY]
 rw [hq];by_cases h:((xs.length:Nat):Int)<=48
 ·have h':xs.length<=48:=by omega
  simp [h,h']
 ·have h':¬ xs.length<=48:=by omega
  simp [h,h']
theorem aGQ (x:Int×Int×Int×Unit):rT x=Nf x:=by
 unfold rT Nf;have e1:aBL x.1=fM x.1 1 4:=rfl;have e2:cD x.2.1 0 1000=fM x.2.1 0 1000:=rfl;have e3:I0 x.2.2.1=Mn x.2.2.1:=rfl;rw [e1,e2,e3];cases fM x.1 1 4 <;> cases fM x.2.1 0 1000 <;> cases Mn x.2.2.1 <;> rfl
theorem aEc (xs:List cU):yT xs=UR xs:=by
 unfold yT UR AP;rw [I1];have hq:(!xs.any AO)=xs.all Nf:=by
  rw [Cw]
  congr 1
  funext b
  simp only [AO,aGQ,XY]
 rw [hq];by_cases h:((xs.length:Nat):Int)<=8
 ·have h':xs.length<=8:=by omega
  simp [h,h']
 ·have h':¬ xs.length<=8:=by omega
  simp [h,h']
theorem aOW (x:Int×Int×Int×Int×Unit):BV x=aLy x:=rfl
theorem aLM (x:Int×Int×Int×Unit):vQ x=aFp x:=rfl
theorem aLN (x:Int×Int×Int×Int×Unit):uG x=aL1 x:=rfl
theorem aEd {x a b:Int}:cD x a b=decide (a<=x/\x<=b):=by
 unfold cD;by_cases c1:x>=a
 ·by_cases c2:x<=b
  ·have:a<=x/\x<=b:=⟨c1,c2⟩;simp [c1,c2,this]
  ·have:¬ (a<=x/\x<=b):=λh=>c2 h.2;simp [c1,c2]
 ·have:¬ (a<=x/\x<=b):=λh=>c1 h.1;simp [c1,this]
theorem aOX (x a b:Int):fM x a b=cD x a b:=rfl
theorem aOY (x:Int×Int×Int×Unit):kW x=aFq x:=by
 unfold kW aFq FU;simp only [aOX,aEd];obtain ⟨p,t,r,u⟩:=x;simp only;by_cases h0:p=0
 ·subst h0;simp
 by_cases h1:p=1
 ·subst h1;simp
 by_cases h2:p=2
 ·subst h2;simp
 by_cases h3:p=3
 ·subst h3;simp
 have:¬ (0<=p/\p<=3):=by omega
 simp [h0,h1,h2,h3,this]
theorem aEe (x:(fV)):BW x=aFt x:=by
 unfold BW aFt;rw [aGL,aGM,aAj,aAk,aGN,aGO,aGP,aEc,aOW,aLM,aLN,aOY];cases aFp x.2.2.2.2.1 <;> simp
def sF (a:Nat):UInt8:=kP (48+a)
theorem Od {a:Nat} (h:a<10):(sF a).toNat=48+a:=by unfold sF;rw [tX];omega
theorem aOZ {n:Nat} (h:n<10):C0 (n:Int)=⟨⟨[sF n]⟩⟩:=by
 unfold C0 Ck;rw [if_neg (by omega),aF,Lib.decDigits_one h];rfl
theorem aPa {n:Nat} (h1:10<=n) (h:n<100):C0 (n:Int)=⟨⟨[sF (n / 10),sF (n % 10)]⟩⟩:=by
 unfold C0 Ck;rw [if_neg (by omega),aF,Lib.decDigits_two (by omega) h];rfl
theorem B6 {n:Nat} (h:n<100):aCp (n:Int) 2/\uZ (n:Int) 2=⟨⟨[sF (n / 10),sF (n % 10)]⟩⟩:=by
 unfold aCp uZ;have e:dU (n:Int)=C0 (n:Int):=rfl;rw [e];by_cases h1:n<10
 ·rw [aOZ h1];have e0:n / 10=0:=by omega
  have e1:n % 10=n:=by omega
  rw [e0,e1];have e2:(aA (aM3 [sF n])).size=1:=rfl;rw [e2];exact ⟨⟨⟨rfl,trivial⟩,by rw [aK];decide,⟨by decide,by decide⟩,by show 1+1<=_;decide,trivial⟩,rfl⟩
 ·rw [aPa (by omega) h];have e2:(aA (aM3 [sF (n / 10),sF (n % 10)])).size=2:=rfl;rw [e2];exact ⟨⟨⟨rfl,trivial⟩,by rw [aK];decide,⟨by decide,by decide⟩,by show 0+2<=_;decide,trivial⟩,rfl⟩
theorem U5:∀ (l:List UInt8) (m i:Nat),m<10 ^ i->i+l.length<=12 -> -1<=AW l (m:Int)/\AW l (m:Int)<1000000000000
 | [],m,i,h,hi=>by
  have hp:10 ^ i<=10 ^ 12:=Nat.pow_le_pow_right (by decide) (by simp at hi;omega);have:m<1000000000000:=cK h hp;show -1<=(m:Int)/\(m:Int)<1000000000000;omega
 | b :: r,m,i,h,hi=>by
  unfold AW;split
  ·rename_i hd;have hd':48<=b.toNat/\b.toNat<=57:=by simpa using hd
   have e1:10*(m:Int)+((b.toNat:Int) - 48)=((10*m+(b.toNat - 48):Nat):Int):=by omega
   rw [e1];exact U5 r _ (i+1) (by rw [EC];omega) (by simp at hi;omega)
  ·omega
theorem Kq (x:ByteArray) : -1<=eX x/\eX x<1000000000000:=by
 unfold eX;split
 ·omega
 ·rename_i h;have:x.data.toList.length=x.size:=rfl;exact U5 x.data.toList 0 0 (by decide) (by omega)
theorem Rc {a b:Nat} (ha:a<10) (hb:b<10):eX ⟨⟨[sF a,sF b]⟩⟩=((10*a+b:Nat):Int):=by
 unfold eX;rw [if_neg (by show ¬ (2<1\/12<2);omega)];show AW [sF a,sF b] 0=_;simp only [AW,Od ha,Od hb,decide_eq_true_eq,aJ];rw [if_pos (by omega),if_pos (by omega)];omega
def clk (h m:Nat):ByteArray:=⟨⟨[sF (h / 10),sF (h % 10),58,sF (m / 10),sF (m % 10)]⟩⟩
theorem aEf {k:Nat} (h:k<=1439):MU (k:Int)=clk (k / 60) (k % 60):=by
 unfold MU cD;have e1:bM (k:Int) 60=((k / 60:Nat):Int):=rfl;have e2:c8 (k:Int) 60=((k % 60:Nat):Int):=rfl;rw [e1,e2,(B6 (n:=k / 60) (by omega)).2,(B6 (n:=k % 60) (by omega)).2];have c1:(k:Int)>=0:=by omega
 have c2:(k:Int)<=1439:=by omega
 simp only [c1,c2,decide_true,if_true,xF,dJ,if_false];rfl
theorem U6 (n:Int):aJ9 n:=by
 unfold aJ9;split
 ·trivial
 ·rename_i hw;have hw':0<=n/\n<=1439:=by
   unfold cD at hw;by_cases c1:n>=0
   ·by_cases c2:n<=1439
    ·exact ⟨c1,c2⟩
    ·simp [c1,c2] at hw
   ·simp [c1] at hw
  obtain ⟨k,rfl⟩:∃ k:Nat,n=(k:Int):=Int.eq_ofNat_of_zero_le hw'.1;have e1:bM (k:Int) 60=((k / 60:Nat):Int):=rfl;have e2:c8 (k:Int) 60=((k % 60:Nat):Int):=rfl;obtain ⟨p1,q1⟩:=B6 (n:=k / 60) (by omega);obtain ⟨p2,q2⟩:=B6 (n:=k % 60) (by omega);rw [e1,e2,q1,q2];refine ⟨by rw [aK];omega,p1,?_,by rw [aK];omega,p2,?_,trivial⟩
  ·show 2+1<=_;decide
  ·show 3+2<=_;decide
theorem aLO {x:ByteArray} (h:x.size<=1048576):aNB x:=by
 unfold aNB;have b1:=Kq (pI x (aA #[58]));have b2:=Kq (iR x (aA #[58]));refine ⟨(show x.size<4294967281 from by omega),by rw [aK];omega,by rw [aK];omega,?_⟩;split
 ·trivial
 ·exact ⟨U6 _,trivial⟩
theorem aLP {n:Nat} (h:n<=1440):Bt (n:Int)=clk (n / 60) (n % 60):=by
 unfold Bt;by_cases e:n=1440
 ·subst e;rw [if_pos (by decide)];rfl
 ·rw [if_neg (by rw [beq_iff_eq];omega),aEf (by omega)]
theorem aFu (n:Int):aJD n:=by
 unfold aJD;split
 ·trivial
 ·exact ⟨U6 n,trivial⟩
theorem aWS {x:ByteArray} (h:x.size<=1048576):aJC x:=by
 unfold aJC;split
 ·trivial
 ·exact ⟨aLO h,trivial⟩
theorem aLQ (n:Int):DV n=(decide (0<=n)&&decide (n<=1440)):=by
 unfold DV cD;by_cases c1:n>=0
 ·have c1':0<=n:=c1;by_cases c2:n<=1440 <;> simp [c1,c2]
 ·have c1':¬ 0<=n:=c1;simp [c1']
theorem aAl {a:ByteArray} {n m:Int} (h:tC (a,n,m,())=true):0<=n/\n<=1440/\0<=m/\m<=1440:=by
 unfold tC at h;simp only [aLQ] at h;split at h
 ·split at h
  ·rename_i h1;split at h
   ·rename_i h2;simp only [aJ,decide_eq_true_eq] at h1 h2;exact ⟨h1.1,h1.2,h2.1,h2.2⟩
   ·cases h
  ·cases h
 ·cases h
theorem wi {x a b:Int} (h:cD x a b=true):a<=x/\x<=b:=by rw [aEd,decide_eq_true_eq] at h;exact h
theorem mb {a b A B:Int} (h1 : -A<=a/\a<=A) (h2 : -B<=b/\b<=B) : -(A*B)<=a*b/\a*b<=A*B:=by
 have h:(a*b).natAbs<=A.toNat*B.toNat:=by
  rw [Int.natAbs_mul];exact Nat.mul_le_mul (by omega) (by omega)
 have e:A*B=((A.toNat*B.toNat:Nat):Int):=by
  rw [Int.natCast_mul,yW (by omega),yW (by omega)]
 omega
theorem tdb {a A:Int} (b:Int) (h : -A<=a/\a<=A) : -A<=bM a b/\bM a b<=A:=by
 have h1:(bM a b).natAbs<=a.natAbs:=by rw [Int.natAbs_tdiv];exact Nat.div_le_self _ _
 omega
theorem tmb {a A:Int} (b:Int) (h : -A<=a/\a<=A) : -A<=c8 a b/\c8 a b<=A:=by
 have h1:(c8 a b).natAbs<=a.natAbs:=by rw [Int.natAbs_tmod];exact Nat.mod_le _ _
 omega
theorem BH {c:Prop} [Decidable c] {Q:Prop} (h:¬ c->Q):if c then True else Q:=by
 by_cases k:c
 ·rw [if_pos k];trivial
 ·rw [if_neg k];exact h k
theorem nb {b:Bool} (h:¬ (!b)=true):b=true:=by cases b <;> simp_all
theorem aFv {x:Int} (h : -1000000000000000<=x/\x<=1000000000000000):OJ x/\0<=nN x/\nN x<=1000000000000000/\(nN x=x\/nN x=0 - x):=by
 unfold OJ nN;by_cases c:x<0
 ·rw [if_pos (decide_eq_true c),if_pos (decide_eq_true c)];exact ⟨⟨by rw [aK];omega,trivial⟩,by omega,by omega,.inr rfl⟩
 ·rw [if_neg (by simpa using c),if_neg (by simpa using c)];exact ⟨trivial,by omega,by omega,.inl rfl⟩
theorem Rd {x y:Int} (h : -1000000000000000<=x/\x<=1000000000000000) (k : -1000000000000000<=y/\y<=1000000000000000) (hy:y≠0):M2 x y /\ -1000000000000001<=pT x y/\pT x y<=1000000000000001:=by
 have d:=tdb y h;have m:=tmb y h;obtain ⟨p1,p2,p3,_⟩:=aFv m;obtain ⟨q1,q2,q3,_⟩:=aFv k;unfold M2 pT;refine ⟨⟨hy,by rw [aK];omega,hy,by rw [aK];omega,p1,q1,by rw [aK];omega,?_⟩,?_⟩
 ·split
  ·split <;> exact ⟨by rw [aK];omega,trivial⟩
  ·trivial
 ·split
  ·split <;> omega
  ·omega
theorem aLR {d:Int×Int×Int×Unit} (h:kW d=true) : -1<=d.2.1/\d.2.1<=3 /\ -1<=d.2.2.1/\d.2.2.1<=4:=by
 unfold kW at h;split at h
 ·cases h
 ·split at h
  ·split at h
   ·rename_i c;simp only [beq_iff_eq] at c h;omega
   ·cases h
  ·split at h
   ·rename_i c;have:=wi c;have:=wi h;omega
   ·cases h
theorem Sg (d:Int×Int×Int×Unit) (e:Int):aNS d e:=by
 unfold aNS;refine BH λc=>BH λ_=>⟨?_,trivial⟩;have hd:=aLR (nb c);have i1:cC .i64 (d.2.1+1):=by rw [aK];omega
 have i2:cC .i64 (d.2.2.1+1):=by rw [aK];omega
 unfold aT5 aT3;split
 ·refine ⟨?_,trivial⟩;split
  ·trivial
  ·exact ⟨i1,trivial⟩
 ·repeat (first | trivial | exact ⟨i2,trivial⟩ | split)
theorem JE {x:Int} (h:cC .i64 x):(dU x).size<=21:=wC x (by rw [aK] at h;omega) (by rw [aK] at h;omega)
theorem zA (x:Int):BG x:=⟨rfl,trivial⟩
theorem aLS {l:List cU} (hl:l.length<=1000) (x:Int×Int×Int×Unit) (m:Int):aNJ l x m:=by
 unfold aNJ;exact BH λc=>⟨show l.length<=1048576 by omega,show (l.length+1)*24<=140737488355328 by omega,trivial⟩
theorem aLT {l:List cU} (hl:l.length<=1000) (x:Int×Int×Int×Unit) (m:Int):aNV l x m:=by
 unfold aNV;exact BH λc=>⟨show l.length<=1048576 by omega,show (l.length+1)*24<=140737488355328 by omega,trivial⟩
theorem aLU {l:List cU} (hl:l.length<=1000) (x:Int×Int×Int×Unit):aSX l x :=
 ⟨show l.length<=1048576 by omega,show (l.length+1)*24<=140737488355328 by omega,trivial⟩
theorem aAm (r:Int×Int×Int×Int×Unit) (n:Int):aNY r n:=by
 unfold aNY M5;refine BH λc => ?_;by_cases v:BV r=true
 ·rw [v] at c;by_cases q:M4 n=true
  ·have hq:=wi (show cD n 1 10000000=true from q);unfold BV at v;split at v
   ·split at v
    ·split at v
     ·have hv:=wi v;have t:=tdb n (a:=1000*r.2.2.2.1) (A:=10000000000) (by omega);exact ⟨by rw [aK];omega,by omega,by rw [aK];omega,trivial⟩
     ·cases v
    ·cases v
   ·cases v
  ·rw [bN.2 q] at c;exact absurd rfl c
 ·rw [bN.2 v] at c;exact absurd rfl c
theorem wX {a b:Bool} (h:(if a=true then b else false)=true):a=true/\b=true:=by
 cases a
 ·cases h
 ·exact ⟨rfl,h⟩
theorem aAn {m:Int×Int×Int×Unit} (h:vQ m=true):(1000<=m.1/\m.1<=10000000)/\(100<=m.2.1/\m.2.1<=1000000)/\0<=m.2.2.1/\m.2.2.1<=500:=by
 unfold vQ at h;obtain ⟨a,h⟩:=wX h;obtain ⟨b,h⟩:=wX h;exact ⟨wi a,wi b,wi h⟩
theorem aPc {m:Int×Int×Int×Unit} (h:vQ m=true) {f s:Int} (hf : -1000000<=f/\f<=1000000) (hs:0<=s/\s<=20000):aG8 m f s:=by
 obtain ⟨_,_,m3⟩:=aAn h;have b1:=mb (A:=1000000) (B:=20000) (a:=f) (b:=s) (by omega) (by omega);have b2:=tdb 1000 b1;have b3:=mb (A:=20000000000) (B:=1000) (a:=0 - bM (f*s) 1000) (b:=1000 - m.2.2.1) (by omega) (by omega);have b4:=tdb 1000 b3;unfold aG8;refine ⟨by rw [aK];omega,by rw [aK];omega,?_⟩;split
 ·rename_i c;have c:=of_decide_eq_true c;have t:=tdb (1000 - m.2.2.1) (a:=1000*bM (f*s) 1000+(1000 - m.2.2.1) - 1) (A:=30000000000000) (by omega);exact ⟨by rw [aK];omega,by rw [aK];omega,⟨by rw [aK];omega,by rw [aK];omega,by omega,by rw [aK];omega,trivial⟩,trivial⟩
 ·exact ⟨by rw [aK];omega,by rw [aK];omega,by rw [aK];omega,by rw [aK];omega,by rw [aK];omega,trivial⟩
theorem Gu {m:Int×Int×Int×Unit} {b:Bool} (h:¬ (Ad m b != 0)=true):vQ m=true/\b=true:=by
 unfold Ad at h;cases v:vQ m
 ·rw [v] at h;exact absurd rfl h
 ·rw [v] at h;cases b
  ·exact absurd rfl h
  ·exact ⟨rfl,rfl⟩
theorem aGR (m:Int×Int×Int×Unit) (f s:Int):aOa m f s:=by
 unfold aOa;split
 ·rename_i hf;refine BH λc => ?_;obtain ⟨hm,hs⟩:=Gu c;have p:=aPc hm (wi (show cD f (-1000000) 1000000=true from hf)) (wi (show cD s 0 20000=true from hs));refine ⟨?_,BH λ_=>⟨p,trivial⟩⟩;unfold aNZ;split
  ·exact ⟨p,trivial⟩
  ·trivial
 ·refine BH λc => ?_;exact absurd (Gu c).2 (by decide)
theorem aPd {b:ByteArray×Int×Int×Int×Unit} (h:pR b=true):qJ b.1=true/\(10000<=b.2.1/\b.2.1<=10000000)/\(1000<=b.2.2.1/\b.2.2.1<=1000000)/\0<=b.2.2.2.1/\b.2.2.2.1<=200:=by
 unfold pR at h;obtain ⟨a,h⟩:=wX h;obtain ⟨b',h⟩:=wX h;obtain ⟨c,h⟩:=wX h;exact ⟨a,wi b',wi c,wi h⟩
theorem Re (C:Int->Bool):∀ (n:Nat) (lo e:Int),0<=lo->lo<=e->lo<=bsI C n lo e/\bsI C n lo e<=e
 | 0,lo,e,_,h=>⟨gA _,h⟩
 | n+1,lo,e,h0,h=>by
  unfold bsI;split
  ·rename_i c;obtain ⟨a,b⟩:=Vs h0 c;split
   ·have:=Re C n lo _ h0 a;omega
   ·have:=Re C n (bM (lo+e) 2+1) e (by omega) (by omega);omega
  ·exact ⟨gA _,h⟩
theorem aAo {b:ByteArray×Int×Int×Int×Unit} (h:pR b=true) (n:Int):aCT b n /\ -1<=D4 b n/\D4 b n<=20000:=by
 obtain ⟨_,b1,_,b4⟩:=aPd h;have bs:=Re (λx=>D0 x b n) (20000+1 - 0:Int).toNat 0 20001 (by decide) (by decide);have e:D4 b n=bsI (λx=>D0 x b n) (20000+1 - 0:Int).toNat 0 20001 - 1:=rfl;refine ⟨⟨⟨⟨by decide,by decide,by decide⟩,λv hv0 hv => ?_⟩,?_,trivial⟩,by rw [e];omega,by rw [e];omega⟩
 ·have m1:=mb (A:=20000) (B:=20000) (a:=v) (b:=v) (by omega) (by omega);obtain ⟨p1,q1,q2⟩:=Rd (x:=v*v) (y:=b.2.1) (by omega) (by omega) (by omega);obtain ⟨p2,r1,r2⟩:=Rd (x:=981*b.2.2.2.1) (y:=100) (by omega) (by decide) (by decide);exact ⟨⟨by rw [aK];omega,p1,by rw [aK];omega,p2,by rw [aK];omega,trivial⟩,trivial⟩
 ·show cC .i64 (bsI (λx=>D0 x b n) (20000+1 - 0:Int).toNat 0 20001 - 1);rw [aK];omega
theorem aAp (l:List dG) (n:Int) (h:sL l=true->∀ b∈l,pR b=true):aKj l n:=by
 intro hc b hb;unfold Gn at hc;split at hc
 ·cases hc
 ·rename_i c;exact (aAo (h (nb c) b hb) n).1
theorem aLV {r g t b:Int} (h:Im r g [t,b]=true):(0<=r/\r<=100000)/\(1<=g/\g<=900)/\(0<=t/\t<=100000)/\0<=b/\b<=100000:=by
 unfold Im at h;obtain ⟨a,h⟩:=wX h;obtain ⟨c,h⟩:=wX h;unfold Il at a;rw [aDi] at a;have a:(!(Ae t||(Ae b||false)))=true:=a;have e:∀ x,Ae x=false->0<=x/\x<=100000:=λx hx=>wi (show cD x 0 100000=true from by
  have:(!cD x 0 100000)=false:=hx;simpa using this)
 simp only [Bool.or_false,cW,xZ] at a;exact ⟨wi (show cD r 0 100000=true from c),wi h,e t a.1,e b a.2⟩
theorem aAq {x:Int×Int×Int×Int×Unit} (h:uG x=true):1<=x.1/\x.1<=20000:=by
 unfold uG at h;exact wi (wX h).1
theorem aGS (x:Int×Int×Int×Int×Unit) (t b r g n:Int):aOg x t b r g n:=by
 have key:∀ c:Bool,(Im r g [t,b]=true)->¬ (yL x c != 0)=true->aOf x t b r g n:=λc hl hc=>by
  obtain ⟨l1,l2,l3,l4⟩:=aLV hl;have hx:uG x=true:=by
   unfold yL at hc;cases v:uG x
   ·rw [v] at hc;exact absurd rfl hc
   ·rfl
  obtain ⟨b1,b2⟩:=aAq hx;refine ⟨⟨⟨by omega,by omega,by omega⟩,λv h0 hv => ?_⟩,trivial⟩;have m1:=mb (A:=400000) (B:=900) (a:=t+v - b - r) (b:=g) (by omega) (by omega);obtain ⟨p,_⟩:=Rd (x:=(t+v - b - r)*g*981) (y:=100000) (by omega) (by decide) (by decide);exact ⟨by rw [aK];omega,⟨by rw [aK];omega,by rw [aK];omega,by rw [aK];omega,by rw [aK];omega,p,trivial⟩,trivial⟩
 unfold aOg;split
 ·rename_i hl;exact BH λc=>⟨key _ hl c,trivial⟩
 ·refine BH λc=>absurd ?_ c;unfold yL;cases uG x <;> rfl
theorem Ng {l:List Int} {k:Int} (h:Ii l k=true):k<=l.length/\l.length<=32/\∀ x∈l, -1000000000<=x/\x<=1000000000:=by
 unfold Ii at h;obtain ⟨a,h⟩:=wX h;obtain ⟨b,h⟩:=wX h;have a:=of_decide_eq_true a;have b:=of_decide_eq_true b;refine ⟨a,by omega,λx hx => ?_⟩;unfold Ih at h;rw [aDb,cW,List.any_eq_false] at h;have q:=h x hx;have q:¬ (!aCW x)=true:=q;have w:=wi (show cD x _ _=true from nb q);omega
theorem aLW:∀ (l:List Int) (s:Int),l.foldl UE s=s\/l.foldl UE s∈l
 | [],s => .inl rfl
 | a :: r,s=>by
  rw [dY];rcases aLW r (UE s a) with h | h
  ·rw [h];unfold UE;split
   ·exact .inr (aQ ..)
   ·exact .inl rfl
  ·exact .inr (aM _ h)
theorem aLX (l:List Int) (n:Int):aOd l n:=by
 unfold aOd;refine BH λc=>BH λc2 => ?_;obtain ⟨h1,h2,h3⟩:=Ng (nb c);have hl:(jW l n).length=l.length:=by unfold jW;rw [eJ]
 have hc:∀ x∈jW l n,x<=32:=λx hx=>by
  unfold jW at hx;obtain ⟨a,ha,rfl⟩:=eE.1 hx;have:Ft a n l<=l.length:=by unfold Ft;exact List.length_filter_le _ _
  omega
 have hm:u3 (jW l n)∈jW l n:=by
  unfold u3;cases he:jW l n with
  | nil=>rw [he] at hl;simp at hl;omega
  | cons a r =>
   rcases aLW r a with h | h
   ·show r.foldl _ a∈_;rw [h];exact aQ ..
   ·exact aM _ h
 have h0:∀ x∈jW l n,0<=x:=λx hx=>by
  unfold jW at hx;obtain ⟨a,ha,rfl⟩:=eE.1 hx;omega
 have b1:=hc _ hm;have b2:=h0 _ hm;refine ⟨⟨by omega,λx hx=>h3 x hx⟩,show 1<=(jW l n).length by omega,by rw [aK];omega,BH λ_ => ?_⟩;unfold Fu;have hi:∃ k,(jW l n).findIdx? (N7 (u3 (jW l n)))=some k/\k<l.length:=by
  cases hf:(jW l n).findIdx? (N7 (u3 (jW l n))) with
  | none =>
   rw [List.findIdx?_eq_none_iff] at hf;have:=hf _ hm;unfold N7 at this;simp at this
  | some k =>
   rw [List.findIdx?_eq_some_iff_getElem] at hf;obtain ⟨q,_⟩:=hf;exact ⟨k,rfl,by omega⟩
 obtain ⟨k,hk,hk2⟩:=hi;rw [hk];show (0:Int)<=(k:Int)/\(k:Int)<_/\True;exact ⟨by omega,by omega,trivial⟩
def Dat (y m d:Int):Prop:=(2000<=y/\y<=2099)/\(1<=m/\m<=12)/\(1<=d/\d<=pS y m)
def J0 (y:Int):Int:=(y - 2000)*365+(y - 1997) / 4
theorem Rf {y m d:Int} (hy:2000<=y):gK y m d=J0 y+mP y (m - 1).toNat+d - 1:=by
 have e:bM (y - 1997) 4=(y - 1997) / 4:=gF (by omega);unfold gK UD J0;rw [e];omega
theorem win {x a b:Int}:cD x a b=true↔a<=x/\x<=b:=by
 unfold cD;by_cases c1:x>=a
 ·by_cases c2:x<=b
  ·simp [c1,c2]
  ·simp [c1,c2]
 ·have:¬ a<=x:=c1;simp [c1,this]
theorem bFl {y m d:Int} (h:Dat y m d):Ib y m d=gK y m d/\F9 y m d=0:=by
 obtain ⟨h0,h1,h2⟩:=h;unfold Ib F9;rw [win.2 h0,win.2 h1,win.2 h2];exact ⟨rfl,rfl⟩
theorem bMB {y m d:Int} (h:F9 y m d=0):Dat y m d:=by
 unfold F9 at h;cases h0:cD y 2000 2099 with
 | false=>rw [h0] at h;simp at h
 | true =>
  cases h1:cD m 1 12 with
  | false=>rw [h0,h1] at h;simp at h
  | true =>
   cases h2:cD d 1 (pS y m) with
   | false=>rw [h0,h1,h2] at h;simp at h
   | true=>exact ⟨win.1 h0,win.1 h1,win.1 h2⟩
theorem WX {y:Int} (hy:2000<=y/\y<=2099) (i:Nat):∀ j,mP y i<=mP y (i+j)
 | 0=>gA _
 | j+1=>by
  have:=WX hy i j;have:=(QX hy (m:=((i+j:Nat):Int)+1)).2.1;rw [<- Nat.add_assoc];simp only [mP];omega
theorem aFw {y:Int} (hy:2000<=y/\y<=2099):J0 y+mP y 12=J0 (y+1):=by
 have et:c8 y 4=y % 4:=Int.tmod_eq_emod_of_nonneg (by omega);have e:mP y 12=if y % 4=0 then 366 else 365:=by
  by_cases hz:y % 4=0 <;> simp [mP,pS,et,hz]
 rw [e];unfold J0;split <;> omega
theorem aGT {y day : Int} (hy : 2000 <= y /\ y <= 2099) (h1 : J0 y <= day) (h2 : day < J0 (y + 1)) : ∀ (k : Nat) (z : Int), z + k = 2099 -> 2000 <= z -> z <= y -> KG day k z = y := by
  have e1 : ∀ z : Int, 2000 <= z -> gK z 1 1 = J0 z := λz hz => by
    rw [Rf hz];show J0 z + 0 + 1 - 1 = J0 z;omega
  intro k
  induction k with
  | zero => intro z hz _ hle; show z = y; omega
  | succ k ih =>
    intro z hz h0 hle;unfold KG;rw [e1 (z + 1) (by omega)];by_cases hlt : z < y
    · rw [if_pos (by have : J0 (z + 1) <= J0 y := by unfold J0; omega
                     omega)]
      exact ih (z + 1) (by omega) (by omega) (by omega)
    · have : z = y := by omega
      subst this;rw [if_neg (by omega)]
theorem aEg {y m day:Int} (hy:2000<=y/\y<=2099) (hm:1<=m/\m<=12) (h1:J0 y+mP y (m - 1).toNat<=day) (h2:day<J0 y+mP y m.toNat):∀ (k:Nat) (z:Int),z+k=12->1<=z->z<=m->KH day y k z=m:=by
 intro k
 induction k with
 | zero=>intro z hz _ hle;show z=m;omega
 | succ k ih =>
  intro z hz h0 hle;unfold KH;rw [Rf hy.1,show z+1 - 1=z by omega];by_cases hlt:z<m
  ·rw [if_pos (by
    have:=WX hy z.toNat ((m - 1).toNat - z.toNat);rw [show z.toNat+((m - 1).toNat - z.toNat)=(m - 1).toNat by omega] at this;omega)]
   exact ih (z+1) (by omega) (by omega) (by omega)
  ·have:z=m:=by omega
   subst this;rw [if_neg (by omega)]
theorem U7 {y m d:Int} (h:Dat y m d):(0<=gK y m d/\gK y m d<=36524)/\yK (gK y m d)=y/\AY (gK y m d)=m/\Ie (gK y m d)=d:=by
 obtain ⟨h0,h1,h2⟩:=h;have ed:=Rf (m:=m) (d:=d) h0.1;have hb:=V6 h0 (m - 1).toNat;have hms:mP y m.toNat=mP y (m - 1).toNat+pS y m:=by
  obtain ⟨k,hk⟩:∃ k:Nat,m=(k:Int)+1:=⟨(m - 1).toNat,by omega⟩;subst hk;rw [show ((k:Int)+1).toNat=k+1 by omega,show ((k:Int)+1 - 1).toNat=k by omega];rfl
 have hy12:=aFw h0;have hmono:=WX h0 m.toNat (12 - m.toNat);rw [show m.toNat+(12 - m.toNat)=12 by omega] at hmono;have hbas:0<=J0 y/\J0 (y+1)<=36525:=by unfold J0;omega
 have a0:yK (gK y m d)=y:=aGT h0 (by omega) (by omega) 99 2000 (by omega) (by omega) (by omega);have a1:AY (gK y m d)=m:=by
  unfold AY;rw [a0];exact aEg h0 h1 (by omega) (by omega) 11 1 (by omega) (by omega) (by omega)
 refine ⟨by omega,a0,a1,?_⟩;unfold Ie;rw [a0,a1,Rf (m:=m) (d:=1) h0.1];omega
def isD (b:UInt8):Prop:=48<=b.toNat/\b.toNat<=57
def aLY:List UInt8->Nat->Nat
 | [],n=>n
 | b :: r,n=>aLY r (10*n+(b.toNat - 48))
theorem Nh:∀ (l:List UInt8) (b:UInt8) (n:Nat),aLY (l++[b]) n=10*aLY l n+(b.toNat - 48)
 | [],_,_=>rfl
 | c :: r,b,n=>Nh r b _
theorem U8 {a:Nat} (h:a<10):(kP (48+a)).toNat=48+a:=by rw [tX];omega
theorem aGU (n:Nat):(∀ b∈dQ n,isD b)/\aLY (dQ n) 0=n/\0<(dQ n).length/\(1<=n->((dQ n).getD 0 0).toNat≠48):=by
 induction n using Nat.strongRecOn with
 | _ n ih =>
  by_cases h:n<10
  ·rw [dQ,dif_pos h];have e:=U8 h;refine ⟨λb hb => ?_,?_,by simp,λh1 => ?_⟩
   ·rw [bI.1 hb];unfold isD;omega
   ·show 10*0+((kP (48+n)).toNat - 48)=n;omega
   ·show (kP (48+n)).toNat≠48;omega
  ·rw [dQ,dif_neg h];obtain ⟨i1,i2,i3,i4⟩:=ih (n / 10) (by omega);have e:=U8 (a:=n % 10) (by omega);refine ⟨λb hb => ?_,?_,by simp,λh1 => ?_⟩
   ·rcases bU.1 hb with hb | hb
    ·exact i1 b hb
    ·rw [bI.1 hb];unfold isD;omega
   ·rw [Nh,i2,e];omega
   ·have i4:=i4 (by omega);cases hd:dQ (n / 10) with
    | nil=>rw [hd] at i3;simp at i3
    | cons c r=>rw [hd] at i4;exact i4
theorem aFx:∀ (k n:Nat),n<10 ^ (k+1)->(dQ n).length<=k+1
 | 0,n,h=>by rw [dQ,dif_pos (by simpa using h)];simp
 | k+1,n,h=>by
  rw [dQ];split
  ·simp
  ·have:=aFx k (n / 10) (by rw [EC] at h;omega);simp;omega
theorem aEh {n:Nat} (h:n<1000000000000):eX ⟨⟨dQ n⟩⟩=(n:Int):=by
 have key:∀ (l:List UInt8) (m:Nat),(∀ b∈l,isD b)->AW l (m:Int)=(aLY l m:Nat):=by
  intro l
  induction l with
  | nil=>intro m _;rfl
  | cons b r ih =>
   intro m hd;have hb:isD b:=hd b (aQ ..);unfold isD at hb;unfold AW;rw [if_pos (by simpa using hb)];have e1:10*(m:Int)+((b.toNat:Int) - 48)=((10*m+(b.toNat - 48):Nat):Int):=by omega
   rw [e1];exact ih _ (λc hc=>hd c (aM _ hc))
 obtain ⟨d1,d2,d3,_⟩:=aGU n;have hl:=aFx 11 n (by omega);have hs:(aA ⟨dQ n⟩).size=(dQ n).length:=rfl;unfold eX;rw [if_neg (by omega)];have:=key (dQ n) 0 d1;rw [d2] at this;exact this
def y4 (y:Nat):List UInt8:=[50,48,sF (y % 100 / 10),sF (y % 10)]
def dT (y m d:Nat):ByteArray:=⟨⟨y4 y++45 :: ([sF (m / 10),sF (m % 10)]++45 :: [sF (d / 10),sF (d % 10)])⟩⟩
theorem aLZ {y:Nat} (h:2000<=y/\y<=2099):dQ y=y4 y:=by
 have e1:y / 10 / 10=20:=by omega
 have e2:y / 10 % 10=y % 100 / 10:=by omega
 rw [dQ,dif_neg (by omega),dQ,dif_neg (by omega),e1,e2,dQ,dif_neg (by decide),dQ,dif_pos (by decide)];rfl
theorem aFy {y:Nat} (h:2000<=y/\y<=2099):dU (y:Int)=⟨⟨y4 y⟩⟩:=by
 rw [<- aLZ h];show C0 _=_;unfold C0 Ck;rw [if_neg (by omega),aF]
theorem WY {a:Nat} (h:a<10):sF a≠45:=λe=>by
 have:=congrArg uK e;have e45:(45:UInt8).toNat=45:=rfl;rw [Od h] at this;omega
theorem aAr {a b:Nat} (ha:a<10) (hb:b<10):(45:UInt8) ∉ [sF a,sF b]:=λhm=>by
 simp only [aR,bZ,or_false] at hm;rcases hm with e | e
 ·exact WY ha e.symm
 ·exact WY hb e.symm
theorem aPf (y:Nat):(45:UInt8) ∉ y4 y:=λhm=>by
 unfold y4 at hm;simp only [aR,bZ,or_false] at hm;rcases hm with e | e | e | e
 ·cases e
 ·cases e
 ·exact WY (by omega) e.symm
 ·exact WY (by omega) e.symm
theorem aMa {y m d:Nat} (hm:m<100) (hd:d<100):bY (dT y m d) (aA #[45])=[⟨⟨y4 y⟩⟩,⟨⟨[sF (m / 10),sF (m % 10)]⟩⟩,⟨⟨[sF (d / 10),sF (d % 10)]⟩⟩]:=by
 have e:bY (dT y m d) (aA #[45])=bss (nL 45 (dT y m d).data.toList):=Pr 45 (dT y m d);rw [e];show bss (nL 45 (y4 y++45 :: ([sF (m / 10),sF (m % 10)]++45 :: [sF (d / 10),sF (d % 10)])))=_;rw [AI 45 _ (aPf y),AI 45 _ (aAr (by omega) (by omega)),xS 45 (aAr (by omega) (by omega))];rfl
theorem aMb {y m d:Int} (h:Dat y m d):∃ a b c:Nat,y=(a:Int)/\m=(b:Int)/\d=(c:Int)/\(2000<=a/\a<=2099)/\(1<=b/\b<=12)/\(1<=c/\c<=31):=by
 obtain ⟨h0,h1,h2⟩:=h;have:=(QX h0 (m:=m)).2.2;exact ⟨y.toNat,m.toNat,d.toNat,by omega,by omega,by omega,by omega,by omega,by omega⟩
theorem U9 {a b c:Nat} (h:Dat (a:Int) (b:Int) (c:Int)) (ha:2000<=a/\a<=2099) (hb:b<=12) (hc:c<=31):u0 (gK (a:Int) (b:Int) (c:Int))=dT a b c:=by
 obtain ⟨hd,e0,e1,e2⟩:=U7 h;have hi:rV (gK (a:Int) (b:Int) (c:Int))=true:=win.2 hd;unfold u0;rw [hi,e0,e1,e2,aFy ha,(B6 (n:=b) (by omega)).2,(B6 (n:=c) (by omega)).2];apply Sn;apply Array.ext';simp [pV,dT]
theorem aAs {y m d:Int} (h:Dat y m d):OI (gK y m d):=by
 obtain ⟨a,b,c,rfl,rfl,rfl,ha,hb,hc⟩:=aMb h;obtain ⟨hd,e0,e1,e2⟩:=U7 h;unfold OI;rw [e0,e1,e2,aFy ha];obtain ⟨p1,q1⟩:=B6 (n:=b) (by omega);obtain ⟨p2,q2⟩:=B6 (n:=c) (by omega);rw [q1,q2];have s4:(aA ⟨y4 a⟩).size=4:=rfl;have s1:(aA #[45]).size=1:=rfl;have s2:∀ u v:UInt8,(aA ⟨[u,v]⟩).size=2:=λ_ _=>rfl;by_cases hc:(!rV (gK (a:Int) (b:Int) (c:Int)))=true
 ·rw [if_pos hc];trivial
 ·rw [if_neg hc];simp only [aS,s4,s1,s2];exact ⟨⟨by omega,by omega⟩,⟨rfl,trivial⟩,by omega,p1,by omega,by omega,p2,by omega,trivial⟩
theorem aGV {y:Nat} (h:2000<=y/\y<=2099):eX ⟨⟨y4 y⟩⟩=(y:Int):=by
 rw [<- aLZ h];exact aEh (by omega)
theorem aPg {a b c:Nat} (h:Dat (a:Int) (b:Int) (c:Int)) (ha:2000<=a/\a<=2099) (hb:b<=12) (hc:c<=31):DY (dT a b c)=gK (a:Int) (b:Int) (c:Int)/\Fa (dT a b c)=true:=by
 have n1:=aGV ha;have n2:eX ⟨⟨[sF (b / 10),sF (b % 10)]⟩⟩=(b:Int):=by rw [Rc (by omega) (by omega)];omega
 have n3:eX ⟨⟨[sF (c / 10),sF (c % 10)]⟩⟩=(c:Int):=by rw [Rc (by omega) (by omega)];omega
 obtain ⟨i0,i1⟩:=bFl h;unfold DY Fa;rw [aMa (by omega) (by omega)];have g0:aD [(⟨⟨y4 a⟩⟩:ByteArray),⟨⟨[sF (b / 10),sF (b % 10)]⟩⟩,⟨⟨[sF (c / 10),sF (c % 10)]⟩⟩] 0 aC=⟨⟨y4 a⟩⟩:=rfl;have g1:aD [(⟨⟨y4 a⟩⟩:ByteArray),⟨⟨[sF (b / 10),sF (b % 10)]⟩⟩,⟨⟨[sF (c / 10),sF (c % 10)]⟩⟩] 1 aC=⟨⟨[sF (b / 10),sF (b % 10)]⟩⟩:=rfl;have g2:aD [(⟨⟨y4 a⟩⟩:ByteArray),⟨⟨[sF (b / 10),sF (b % 10)]⟩⟩,⟨⟨[sF (c / 10),sF (c % 10)]⟩⟩] 2 aC=⟨⟨[sF (c / 10),sF (c % 10)]⟩⟩:=rfl;have gl:(([(⟨⟨y4 a⟩⟩:ByteArray),⟨⟨[sF (b / 10),sF (b % 10)]⟩⟩,⟨⟨[sF (c / 10),sF (c % 10)]⟩⟩].length:Nat):Int)=3:=rfl;simp only [g0,g1,g2,gl,n1,n2,n3,i0,i1,U9 h ha hb hc,bne_self_eq_false,beq_self_eq_true,xF,dJ,if_false,and_self]
theorem aFz (x:ByteArray) (h:x.size<=1048576):aG5 x:=by
 have ifT3:∀ {c:Prop} [Decidable c] {Q:Prop},(¬ c->Q)->if c then True else Q:=by
  intro c _ Q h;by_cases hc:c
  ·rw [if_pos hc];trivial
  ·rw [if_neg hc];exact h hc
 unfold aG5;refine ⟨⟨by omega,aT 1⟩,ifT3 λh0 => ?_⟩;have hl:(((bY x (aA #[45])).length:Nat):Int)=3:=by simpa using h0
 generalize eX (aD (bY x (aA #[45])) 0 aC)=y;generalize eX (aD (bY x (aA #[45])) 1 aC)=m;generalize eX (aD (bY x (aA #[45])) 2 aC)=d;refine ⟨by omega,by omega,by omega,?_,ifT3 λh1 => ?_⟩
 ·unfold aSL;refine ifT3 λa1=>ifT3 λa2 => ?_;have a1':=win.1 (show cD y 2000 2099=true by simpa using a1);have a2':=win.1 (show cD m 1 12=true by simpa using a2);obtain ⟨l0,l1,l2⟩:=QX a1' (m:=m);refine ⟨l0,ifT3 λa3 => ?_⟩;have a3':=win.1 (show cD d 1 (pS y m)=true by simpa using a3);exact ⟨⟨a1',a2',by omega⟩,trivial⟩
 ·have hD:Dat y m d:=bMB (by simpa using h1);rw [(bFl hD).1];exact ⟨aAs hD,trivial⟩
theorem aGW:J0 2000=0:=by decide
theorem aMc {day : Int} (h : 0 <= day /\ day <= 36524) : ∃ y m d : Int, Dat y m d /\ gK y m d = day := by
  have hy : ∀ k : Nat, day < J0 (2000 + (k : Int)) -> ∃ y : Int, (2000 <= y /\ y < 2000 + (k : Int)) /\ J0 y <= day /\ day < J0 (y + 1) := by
    intro k
    induction k with
    | zero => intro hk; have : J0 (2000 + ((0 : Nat) : Int)) = 0 := aGW; omega
    | succ k ih =>
      intro hk;by_cases hc : day < J0 (2000 + (k : Int))
      · obtain ⟨y, h1, h2⟩ := ih hc
        exact ⟨y, by omega, h2⟩
      · exact ⟨2000 + (k : Int), by omega, by omega, by rw [Int.add_assoc]; simpa using hk⟩
  obtain ⟨y, hy1, hy2, hy3⟩ := hy 100 (by have : J0 (2000 + ((100 : Nat) : Int)) = 36525 := by decide
                                          omega)
  have hyr : 2000 <= y /\ y <= 2099 := by omega
  have hm : ∀ k : Nat, day < J0 y + mP y k -> ∃ j : Nat, j < k /\ J0 y + mP y j <= day /\ day < J0 y + mP y (j + 1) := by
    intro k
    induction k with
    | zero => intro hk; simp only [mP] at hk; omega
    | succ k ih =>
      intro hk;by_cases hc : day < J0 y + mP y k
      · obtain ⟨j, h1, h2⟩ := ih hc
        exact ⟨j, by omega, h2⟩
      · exact ⟨k, by omega, by omega, hk⟩
  obtain ⟨j, hj, hj1, hj2⟩ := hm 12 (by rw [aFw hyr]; exact hy3);simp only [mP] at hj2;refine ⟨y, (j : Int) + 1, day - (J0 y + mP y j) + 1, ⟨hyr, by omega, by omega, by omega⟩, ?_⟩;rw [Rf hyr.1];have e : ((j : Int) + 1 - 1).toNat = j := by omega
  rw [e]; omega
def N18 (n:Int):Prop := -1000000000000000000<n/\n<1000000000000000000
end Go.Proofs.YtmhpnodnljbnjaaGreatDoor
