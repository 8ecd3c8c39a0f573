/- The functions that this law reaches, and their laws. -/
import Derived.Test.YtgfpjekjhnkbfaaGreatDoorZ3B
import Derived.Deep.AppendSrc
import Derived.Lib.JoinLaws
import Derived.Lib.AppendZeros
import Derived.Lib.AppendZerosOnto
import Derived.Lib.Overlaps
import Derived.Laws.Externs
import Derived.Deep.RegionLaw
set_option linter.unusedVariables false
set_option linter.unusedSimpArgs false
set_option linter.defProp false
open Array renaming getElem?_toList->eF,length_toList->eN,size_append->rS,toList->cE
open BitVec renaming ofInt->gD,toNat->yB
open Bool renaming eq_false_iff->cG,false_eq_true->fU
open ByteArray renaming data->bO,empty->aC,mk->aA,size->aG,toList->aB
open False renaming elim->aH
open Go.Act renaming eval->Y2,put->Kn
open Go.Addr renaming add_lit->gB
open Go.Am.AT renaming own->qV,v->nM
open Go.Am.iJ renaming mk->fJ
open Go.Am.dE renaming optr->Kq,osl->pT,ptr->rD,st->nD
open Go.Am.aS renaming mk->aJ
open Go.Am.cQ renaming of_below->iO,refl->dD
open Go.Am.gJ renaming val->KG
open Go.Am.PV renaming fn->o9,tup->gI
open Go.Am.Ty renaming cons->lX,fn->La,int->mJ,sl->rX,str->kM,unit->Kp
open Go.Builtin renaming append_->gN,copy_->j7,firstCells->eA,zeroCells->gT
open Go.Extern.SlicesOverlaps renaming overlaps->z7
open Go.IntKind renaming i64->eY,wrap->mZ,wrap_i64->tR
open Go.Lib renaming countB->hY,countB_le->uZ,cut->lF,join->tA,join_length->Td,lens->Cl,parseIntB->iP,repeatL->wN,splitB_all->x9,wpList_append_run->yP
open Go.Op renaming bytesLess->bK
open Go.Proofs.Tryz renaming func10->aHa,func149->aCW,func152->aCX,func157->aCY,func159->aCZ,func19->aHi,func20->aHl,func238->aCT,func240->aCU,func241->aCV,func252->HF,func260->aDo,func261->aDn,func263->BZ,func266->aDq,func267->aDp,func268->B0,func270->aDs,func271->aDr,func272->B3,func274->aDu,func275->aDt,func276->B4,func277->aDw,func278->aDv,func279->B6,func286->aDx,func300->aDm,func335->qY,func346->aDk,func352->aDi,func383->aDl,func408->aDj,func412->HJ,func426->Pd,func50->aHb,func56->aHc,func58->aHd,func60->aHe,func61->aHf,func66->A4,func67->aHg,func68->aHh,func69->TK,func70->TL,func71->TM,func72->TN,func73->TO,func74->TP,func75->TQ,func76->TR,func9->aJZ,ntmps263->Ea,ntmps268->Eb,ntmps272->Ec,ntmps276->Ed,ntmps279->Ee,ntmps426->ZN,ntmps66->BW,ntmps69->aDa,ntmps70->aDb,ntmps71->aDc,ntmps72->aDd,ntmps73->aDe,ntmps74->aDf,ntmps75->aDg,ntmps76->aDh,prog->aL,underlying3->eZ
open Go.RowKit.Below renaming refl->N4
open Go.Value renaming slice->Jz,string->hJ
open Go.World renaming cell?->gW,cell?_setCells_out->E9,frozen?->E2,frozen?_setCells->HI,shape?->BU
open Int renaming fdiv->cT,le_refl->dO,tdiv->aP,tdiv_eq_ediv_of_nonneg->eJ,tmod->cP,toNat->aE,toNat_natCast->aI
open List renaming flatten_cons->gF,getD->aD,getD_eq_getElem?_getD->bC,getElem?_append_left->b7,getElem?_append_right->cO,getElem?_eq_getElem->aX,getElem?_eq_none->iG,getElem?_map->jH,intercalate->FP,length->aF,length_append->aU,length_cons->cL,length_drop->gQ,length_map->cM,length_take->bW,map->A5,map_append->iQ,map_cons->dG,map_map->oM,mem_cons->aW,mem_cons_of_mem->aM,mem_cons_self->aR,mem_nil_iff->dH,mem_of_mem_drop->iN,mem_singleton->dU,size_toArray->eH,sum_cons->ZM,take_add_one->eG,take_of_length_le->cW,toArray->qT
open Min renaming min->yA
open Nat renaming add_assoc->fY,add_mul->gE,le_of_ble_eq_true->oB,le_refl->aT,le_trans->dV,min->Gw,min_def->KH,mul_comm->HH,mul_le_mul_right->cV,mul_pos->aHk,succ_mul->xX,zero_add->bX,zero_le->bG
set_option maxRecDepth 100000
namespace Go.Proofs.YtgfpjekjhnkbfaaGreatDoor
open Go Go.Am Go.Proofs
open Go.RowKit
def aSP(B b:Nat)(l:Γ UInt8)(w:World)(h:Lib.IsBuilderF 54 5 B b (Lib.byteCells l) w)(hBw:B<=w.heap.size) :
  Calls aL 13 #[.pointer (some ⟨b,0,none⟩)] w λe w'=>e = .returned (.string ⟨l.toArray⟩)/\Below B w w':=by
 refine(Tryz.Builder_String_any_k B b l w h hBw).mono ?_;rintro e w' ⟨rfl,_,h2,_⟩;exact⟨rfl,h2⟩
def bDO:Γ AT:=[nM kM,nM kM]
def bJ(x0 x1:Δ):Γ Δ:=Lib.splitB x1 0 (hY x0 x1) x0
def P17(x0 x1:Δ):Prop:=x0.size<4294967281/\1<=x1.size
def S17:Am.Spec:={ sig:=bDO,pre:=λ⟨x0,x1,_⟩=>P17 x0 x1,res:=λ⟨x0,x1,_⟩=>[⟨rX kM,bJ x0 x1⟩] }
def bDP:S0 17 S17:=AJ Tryz.func17<|by
 refine Bb.up rfl rfl ?_;rintro w ⟨x0,x1,u⟩ vs bss hgo hp ⟨v0,s0,b0,bs0,rfl,rfl,⟨rfl,rfl,_⟩,v1,s1,b1,bs1,rfl,rfl,⟨rfl,rfl,_⟩,rfl,rfl⟩ hn;obtain⟨hs,h1⟩:x0.size<4294967281/\1<=x1.size:=hp;obtain⟨m,hm⟩:=aK1 hgo.inv;refine(Tryz.strings_Split x0 x1 m w hs hm h1).mono ?_;rintro e w' ⟨rfl,rfl⟩;have hlen:(bJ x0 x1).length=hY x0 x1+1:=x9 x1 h1 0 _ _ rfl;have hle:=uZ x1 h1 x0.size x0 (aT _);have hparts:∀y∈bJ x0 x1,y.size<=maxLen:=λy hy=>by
  have:=sG x1 0 _ _ y hy;unfold maxLen;omega
 have e1:∀xs:Γ Δ,rA .str xs=xs.map hJ:=by
  intro xs
  induction xs with
  | nil=>rfl
  | cons a r ih=>unfold rA at ih ⊢;rw[dG,gF,ih];rfl
 have ho:iA (w.alloc (.cells ((bJ x0 x1).map hJ).toArray 9)) (.sl .str) (bJ x0 x1) [.slice (some ⟨w.heap.size,0,none⟩) (hY x0 x1+1) (hY x0 x1+1)] [w.heap.size] :=
  SY rfl hparts hlen.symm (Nat.le_of_eq hlen) (by unfold maxLen;omega) (by rw[eH,cM,hlen];simp[Ty.size]) (Eo w _) (Bo _ _) (λj u hj=>by
   rw[e1]at hj;rw[bX, <- eF];exact hj)
 refine⟨[_],[],[[w.heap.size]],rfl,(dD _ _).alloc _,⟨_,_,_,_,_,rfl,rfl,ho,rfl,rfl,rfl⟩,⟨rfl,rfl⟩,by simp,λb hb hg=>?_⟩;simp at hb;have:=hg.1;omega
def aIs:KK:=⟨17,S17,bDP⟩
noncomputable section
def d9:jB:=D0 aJZ [.v (.str)] [.sl .str,.str] [aIs]
def P9(x0:Δ):Prop:=((P17 x0 (aA #[10]))/\((bA .i64 ((↑(aF (bJ x0 (aA #[10]))):Int)-1))/\((0<=(↑(aF (bJ x0 (aA #[10]))):Int)-1)/\((↑(aF (bJ x0 (aA #[10]))):Int)-1<=(↑(aF (bJ x0 (aA #[10]))-0):Int))/\((0<=(↑(aF (bJ x0 (aA #[10]))):Int)-1)/\((↑(aF (bJ x0 (aA #[10]))):Int)-1<(↑(aF (bJ x0 (aA #[10]))):Int))/\True))))
def Yk(x0:Δ):Γ Δ:=List.drop 0 (List.take (0+aE ((↑(aF (bJ x0 (aA #[10]))):Int)-1)) (bJ x0 (aA #[10])))
def QX(x0:Δ):Δ:=aD (bJ x0 (aA #[10])) (aE ((↑(aF (bJ x0 (aA #[10]))):Int)-1)) aC
def kx9:KK:=mA d9 (DO aJZ) P9 (Yk,QX,()) λ_=>aO<|aO<|eE<|eE pr
def VI:bV:=([],(1000000,2000,120,300000,()),[],[],(50000,20000,100,()),(0,0,0,()),[],(3000,20,60000,100,()),[],[],[],[],())
def bLg:KK:=mA (D aHa [] [.cons (.sl fQ) YA1] [.frz] [] false []) (DO aHa) nP (VI,()) λ_=>pr
def aXC:jB:=D0 aCT [.v (.str)] [.bool] []
mutual
def aXD:Nat->Δ->Γ aS->Prop
 | 0,_,_=>False
 | n+1,x0,ds=>if decide ((↑(aG x0):Int)<1)then ds=[aJ .bool false] else if decide ((↑(aG x0):Int)>10)then ds=[aJ .bool false] else A9 n 0 x0 ds
def A9:Nat->Int->Δ->Γ aS->Prop
 | 0,_,_,_=>False
 | n+1,Hq,x0,ds=>if decide (Hq<(↑(aF (b9 x0)):Int))then 0<=Hq/\Hq<(↑(aF (b9 x0)):Int)/\if decide (aD (b9 x0) (aE Hq) 0>=97)then(if decide (aD (b9 x0) (aE Hq) 0>=48)then(if !decide (aD (b9 x0) (aE Hq) 0<=122)then(if Hq==0 then ds=[aJ .bool false] else if !decide (aD (b9 x0) (aE Hq) 0<=57)then ds=[aJ .bool false] else bA .i64 (Hq+1)/\A9 n (Hq+1) x0 ds)else bA .i64 (Hq+1)/\A9 n (Hq+1) x0 ds)else if !decide (aD (b9 x0) (aE Hq) 0<=122)then(if Hq==0 then ds=[aJ .bool false] else ds=[aJ .bool false])else bA .i64 (Hq+1)/\A9 n (Hq+1) x0 ds)else if decide (aD (b9 x0) (aE Hq) 0>=48)then(if Hq==0 then ds=[aJ .bool false] else if !decide (aD (b9 x0) (aE Hq) 0<=57)then ds=[aJ .bool false] else bA .i64 (Hq+1)/\A9 n (Hq+1) x0 ds)else if Hq==0 then ds=[aJ .bool false] else ds=[aJ .bool false] else ds=[aJ .bool true]
end
def aXE(ds:Γ aS)(K:gU)(q:Nat->Value):∀n,(∀ {x0},aXD n x0 ds->St aXC (x0,()) ds [] K q)/\(∀ {Hq x0},A9 n Hq x0 ds->Cu aXC 4 ([eW 16 0,eI 17 (↑(aF (b9 x0)):Int),eI 18 Hq],[cN (.int .u8) (b9 x0)]) ds [] K q):=nI ⟨aH,aH⟩ λn ⟨i,i4⟩=>⟨bU (j0 dR)<|bU dR<|cX i4,
  bU (eE<|bU (bU (bU (bU (j0 dR)<|bU dR<|aO<|cX i4)<|dN<|aO<|cX i4)<|bU (bU (j0 dR)<|j0 dR)<|dN<|aO<|cX i4)<|bU (j0<|bU (j0 dR)<|bU dR<|aO<|cX i4)<|j0<|bU (j0 dR)<|j0 dR) dR⟩
def LK(i:Nat)(b:Int):Bool:=(decide (97<=b)&&decide (b<=122))||(!(i==0)&&(decide (48<=b)&&decide (b<=57)))
def sI(x0:Δ):Bool:=decide (1<=x0.size)&&decide (x0.size<=10)&&nL LK 0 (b9 x0)
def aK2(n i:Nat)(x0:Δ)(hw:Wf .str x0)(hi:i<(b9 x0).length)(ds:Γ aS) :
  A9 (n+1) (i:Int) x0 ds↔(if LK i ((b9 x0).getD i 0)=true then A9 n ((i:Int)+1) x0 ds else ds=[⟨.bool,false⟩]):=by
 have hu:=jZ (xs:=b9 x0) (by rw[sF];exact hw) hi;rw[A9,π (by simp;omega)];simp only[aI];have hb:(0:Int)<=(i:Int)/\(i:Int)<((b9 x0).length:Int):=by omega
 have hz:((i:Int)==0)=(i==0):=by
  cases i with
  | zero=>rfl
  | succ k=>simp;omega
 simp only[hz,LK,hu,true_and,hb.1,hb.2,ge_iff_le];by_cases h1:(97:Int)<=(b9 x0).getD i 0 <;> by_cases h2:(b9 x0).getD i 0<=122 <;> by_cases h3:(48:Int)<=(b9 x0).getD i 0 <;> by_cases h4:(b9 x0).getD i 0<=57 <;> rcases Bool.eq_false_or_eq_true (i==0)with e0 | e0 <;> first | (exfalso;omega) | simp only[h1,h2,h3,h4,e0,decide_true,decide_false,Bool.not_true,Bool.not_false,Bool.true_and,Bool.false_and,Bool.and_true,Bool.and_false,Bool.true_or,Bool.or_true,Bool.or_false,Bool.false_or,if_true,if_false,fU]
def aXF(x0:Δ)(hw:Wf .str x0):aXD (x0.size+1+1) x0 [⟨.bool,sI x0⟩]:=by
 have hl:=sF x0;rw[aXD];by_cases h0:(x0.size:Int)<1
 ·rw[π (by simpa using h0)];have:¬1<=x0.size:=by omega
  simp[sI,this]
 ·rw[ν (by simpa using h0)];by_cases h1:(x0.size:Int)>10
  ·rw[π (by simpa using h1)];have:¬x0.size<=10:=by omega
   simp[sI,this]
  ·rw[ν (by simpa using h1)];have key:=y8 (b9 x0) 0 LK [(⟨.bool,false⟩:aS)] [⟨.bool,true⟩] (λn i ds=>A9 n i x0 ds) (λn=>?_) (λn i hi hok ds hr=>?_) (λn i hi hok=>?_)
   ·rw[hl]at key;have e:sI x0=nL LK 0 (b9 x0):=by
     have a:1<=x0.size:=by omega
     have b:x0.size<=10:=by omega
     simp[sI,a,b]
    rw[e];cases h:nL LK 0 (b9 x0)with
    | true=>rw[π h]at key;exact key
    | false=>rw[ν (by rw[h];simp)]at key;exact key
   ·show A9 (n+1) ((b9 x0).length:Int) x0 _;rw[A9,ν (by simp)]
   ·exact(aK2 n i x0 hw hi ds).2 (by rw[π hok];exact hr)
   ·exact(aK2 n i x0 hw hi _).2 (by rw[ν (by rw[hok];simp)])
def aFt:KK:=mL aXC (DO aCT) nP (sI,()) (λ⟨x0,_⟩ h hwf K q =>
 (aXE _ K q _).1 (aXF x0 hwf.1))
def bH(x0:Int)(x1:Int)(x2:Int):Bool:=if decide (x0>=x1)then decide (x0<=x2)else false
def lH:KK:=mB Tryz.func138 [.v (.int .i64),.v (.int .i64),.v (.int .i64)] [.bool] [] nP (bH,()) λ_=>fP pr pr
def aOV(x0:Int):Bool:=bH x0 0 200
def bDQ:KK:=mB Tryz.func239 [.v (.int .i64)] [.bool] [lH] nP (aOV,()) λ_=>bS pr
def oV(x0:eR):Bool:=if sI x0.1 then(if bH x0.2.1 10000 10000000 then(if bH x0.2.2.1 1000 1000000 then aOV x0.2.2.2.1 else false)else false)else false
def aVE:KK:=mB Tryz.func137 [.v fQ] [.bool] [aFt,lH,bDQ] nP (oV,()) λ_=>bS<|fP (bS<|fP (bS<|fP (bS pr) pr)<|dN pr)<|dN<|dN pr
variable {α:Type}
def bI(x y:Δ×α):Bool:=bK (aB x.1) (aB y.1)||aB x.1==aB y.1
def RV{α:Type}(e:α)(g:α->Bool)(b:α->α->Bool)(k:Nat):Nat->Int->Γ α->Γ aS->Prop
 | 0,_,_,_=>False
 | n+1,v,x0,ds=>if decide (v<(x0.length:Int))then 0<=v/\v<(x0.length:Int)/\if !g (aD x0 (aE v) e)then ds=[aJ .bool false] else if decide (v>0)then bA .i64 (v-1)/\0<=v-1/\v-1<(x0.length:Int)/\if b (aD x0 (aE v) e) (aD x0 (aE (v-1)) e)then ds=[aJ .bool false] else bA .i64 (v+1)/\RV e g b k n (v+1) x0 ds else bA .i64 (v+1)/\RV e g b k n (v+1) x0 ds else ds=[aJ .bool (decide ((x0.length:Int)<=k))]
def RV0(e:α)(g:α->Bool)(b:α->α->Bool)(k:Nat):Nat->Γ α->Γ aS->Prop
 | 0,_,_=>False
 | n+1,x0,ds=>RV e g b k n 0 x0 ds
def aOW{e:α}{g:α->Bool}{b:α->α->Bool}{k:Nat}{x0:Γ α}(hw:x0.length<=maxLen):RV0 e g b k (x0.length+1+1) x0 [⟨.bool,nL (λi x=>g x&&(i==0||!b x (x0.getD (i-1) e))) 0 x0&&decide (x0.length<=k)⟩]:=by
 rw[RV0]
 have st:∀n i,i<x0.length->∀ds,(if(g (x0.getD i e)&&(i==0||!b (x0.getD i e) (x0.getD (i-1) e)))=true then RV e g b k n ((i:Int)+1) x0 ds else ds=[⟨.bool,false⟩])->RV e g b k (n+1) (i:Int) x0 ds:=by
  intro n i hi ds h;have hu:=jZ hw hi
  rw[RV,π (by simp;omega)];refine⟨by omega,by omega,?_⟩;simp only[aI]
  cases h1:g (x0.getD i e) <;> rw[h1]at h
  ·simpa using h
  ·rw[ν (by simp)];by_cases h0:(i:Int)>0
   ·have hi0:(i==0)=false:=by simp;omega
    have e:((i:Int)-1).toNat=i-1:=by omega
    rw[π (by simpa using h0)];refine⟨by rw[aK];unfold maxLen at hw;omega,by omega,by omega,?_⟩
    rw[e];rw[hi0]at h;split <;> simp_all
   ·have hi0:(i==0)=true:=by simp;omega
    rw[ν (by simpa using h0)];rw[hi0]at h;exact⟨hu,by simpa using h⟩
 have key:=y8 x0 e (λi x=>g x&&(i==0||!b x (x0.getD (i-1) e))) [(⟨.bool,false⟩:aS)] [⟨.bool,decide (x0.length<=k)⟩] (λn i ds=>RV e g b k n i x0 ds) (λn=>?_) (λn i hi hok ds hr=>?_) (λn i hi hok=>?_)
 ·cases h:nL (λi x=>g x&&(i==0||!b x (x0.getD (i-1) e))) 0 x0 <;> rw[h]at key <;> simpa using key
 ·rw[RV,ν (by simp)];congr 3;simp
 ·exact st n i hi ds (by rw[π hok];exact hr)
 ·exact st n i hi _ (by rw[ν (by rw[hok];simp)])
def d50:jB:=D0 aHb [.v (.sl fQ)] [.bool] [aVE]
def bDR(ds:Γ aS)(K:gU)(q:Nat->Value):∀n,(∀ {x0},RV0 (aC,0,0,0,()) oV bI 12 n x0 ds->St d50 (x0,()) ds [] K q)/\(∀ {v7 x0},RV (aC,0,0,0,()) oV bI 12 n v7 x0 ds->Cu d50 2 ([eL 0 fQ x0,eL 5 fQ x0,eI 6 (x0.length:Int),eI 7 v7],[]) ds [] K q):=nI ⟨aH,aH⟩ λn ⟨i,i2⟩=>⟨cX i2,
  bU (eE<|bS<|bU (j0 dR)<|bU (aO<|eE<|bU dR<|aO<|cX i2)<|dN<|aO<|cX i2) dR⟩
def aXH(x0:Γ eR)(i:Nat)(x:eR):Bool :=
 oV x&&(i==0 || !(bK (aB x.1) (aB (x0.getD (i-1) (aC,(0:Int),(0:Int),(0:Int),())).1)||aB x.1==aB (x0.getD (i-1) (aC,(0:Int),(0:Int),(0:Int),())).1))
def uP(x0:Γ eR):Bool:=nL (aXH x0) 0 x0&&decide (x0.length<=12)
def bDS:KK:=mL d50 (DO aHb) nP (uP,()) (λ⟨x0,_⟩ h hwf K q =>
 (bDR _ K q _).1 (aOW hwf.1.1))
def Bw(x0:Int×Int×Int×Int×Unit):Bool:=if bH x0.1 1000 4000000 then(if bH x0.2.1 100 20000 then(if bH x0.2.2.1 6 400 then bH x0.2.2.2.1 1000 10000000 else false)else false)else false
def aXI:KK:=mB Tryz.func51 [.v YA3] [.bool] [lH] nP (Bw,()) λ_=>bS<|fP (bS<|fP (bS<|fP (bS pr) pr)<|dN pr)<|dN<|dN pr
def xF(x0:c7):Bool:=if bH x0.1 0 1000 then(if bH x0.2.1 (-400) 500 then bH x0.2.2.1 0 1000 else false)else false
def aVF:KK:=mB Tryz.func141 [.v dX] [.bool] [lH] nP (xF,()) λ_=>bS<|fP (bS<|fP (bS pr) pr)<|dN pr
def I7(x0:c7):Bool := !xF x0
def aVG:KK:=mB Tryz.func140 [.v dX] [.bool] [aVF] nP (I7,()) λ_=>bS pr
def RI{α:Type}(g:α->Bool)(e:α):Nat->Int->Γ α->Γ aS->Prop
 | 0,_,_,_=>False
 | n+1,v,x0,ds=>if decide (v<(x0.length:Int))then 0<=v/\v<(x0.length:Int)/\if g (aD x0 (aE v) e)then ds=[aJ (.int .i64) v] else bA .i64 (v+1)/\RI g e n (v+1) x0 ds else ds=[aJ (.int .i64) (-1)]
def RI0(g:α->Bool)(e:α):Nat->Γ α->Γ aS->Prop
 | 0,_,_=>False
 | n+1,x0,ds=>RI g e n 0 x0 ds
def VJ{g:α->Bool}{e:α}{x0:Γ α}(hm:x0.length<=maxLen):RI0 g e (x0.length+1+1) x0 [⟨.int .i64,idx (x0.findIdx? g)⟩]:=by
 rw[RI0];have key:=Er x0 e g [(⟨.int .i64, -1⟩:aS)] (λk=>[⟨.int .i64,k⟩]) (λn i ds=>RI g e n i x0 ds) (λn=>?_) (λn i hi hok ds hr=>?_) (λn i hi hok=>?_)
 ·cases h:x0.findIdx? g <;> rw[h]at key <;> exact key
 ·rw[RI,ν (by simp)]
 ·rw[RI,π (by simp;omega)];simp only[aI];refine⟨by omega,by omega,?_⟩;rw[ν (by rw[hok];simp)];exact⟨jZ hm hi,hr⟩
 ·rw[RI,π (by simp;omega)];simp only[aI];refine⟨by omega,by omega,?_⟩;rw[π hok] <;> trivial
def VK{g:α->Bool}{x0:Γ α}:decide (idx (x0.findIdx? g)>=0)=x0.any g:=by
 have:=DG g x0;cases h:x0.any g <;> rw[h]at this <;> simpa using this
def VL:jB:=D0 aCU [.v (.sl dX),.fn 140 []] [.int .i64] [aVG]
def aIt(ds:Γ aS)(K:gU)(q:Nat->Value):∀n,(∀ {x0},RI0 I7 (0,0,0,()) n x0 ds->St VL (x0,(),()) ds [] K q)/\(∀ {v8 x0},RI I7 (0,0,0,()) n v8 x0 ds->Cu VL 2 ([eL 0 dX x0,(1,o9 140 []),eI 7 (x0.length:Int),eI 8 v8],[]) ds [] K q):=nI ⟨aH,aH⟩ λn ⟨i,i2⟩=>⟨cX i2,
  bU (eE<|bS<|bU dR<|aO<|cX i2) dR⟩
def MF(x0:Γ c7):Int:=idx (x0.findIdx? I7)
def aMq:KK:=mL VL (DO aCU) nP (MF,()) (λ⟨x0,_⟩ h hwf K q =>
 (aIt _ K q _).1 (VJ hwf.1.1))
theorem MG(x0:Γ c7):decide (MF x0>=0)=x0.any I7:=VK
def Bx(x0:Γ c7):Bool:=decide (MF x0>=0)
def aMr:KK:=mB Tryz.func139 [.v (.sl dX),.fn 140 []] [.bool] [aMq,aVG] nP (Bx,()) λ_=>bS pr
def BA(x0:Γ c7):Bool:=if decide ((x0.length:Int)<=48)then !Bx x0 else false
def bDT:KK:=mB Tryz.func52 [.v (.sl dX)] [.bool] [aMr] nP (BA,()) λ_=>fP (bS pr) pr
def aIu(x0:Int):Bool:=bH x0 1 4
def bDU:KK:=mB Tryz.func242 [.v (.int .i64)] [.bool] [lH] nP (aIu,()) λ_=>bS pr
def Fp(x0:Int):Bool:=bH x0 0 20000
def aVH:KK:=mB Tryz.func243 [.v (.int .i64)] [.bool] [lH] nP (Fp,()) λ_=>bS pr
def qK(x0:c7):Bool:=if aIu x0.1 then(if bH x0.2.1 0 1000 then Fp x0.2.2.1 else false)else false
def aVI:KK:=mB Tryz.func144 [.v dX] [.bool] [bDU,lH,aVH] nP (qK,()) λ_=>bS<|fP (bS<|fP (bS pr) pr)<|dN pr
def I8(x0:c7):Bool := !qK x0
def aVJ:KK:=mB Tryz.func143 [.v dX] [.bool] [aVI] nP (I8,()) λ_=>bS pr
def VM:jB:=D0 aCV [.v (.sl dX),.fn 143 []] [.int .i64] [aVJ]
def aIv(ds:Γ aS)(K:gU)(q:Nat->Value):∀n,(∀ {x0},RI0 I8 (0,0,0,()) n x0 ds->St VM (x0,(),()) ds [] K q)/\(∀ {v8 x0},RI I8 (0,0,0,()) n v8 x0 ds->Cu VM 2 ([eL 0 dX x0,(1,o9 143 []),eI 7 (x0.length:Int),eI 8 v8],[]) ds [] K q):=nI ⟨aH,aH⟩ λn ⟨i,i2⟩=>⟨cX i2,
  bU (eE<|bS<|bU dR<|aO<|cX i2) dR⟩
def MH(x0:Γ c7):Int:=idx (x0.findIdx? I8)
def aMs:KK:=mL VM (DO aCV) nP (MH,()) (λ⟨x0,_⟩ h hwf K q =>
 (aIv _ K q _).1 (VJ hwf.1.1))
theorem MI(x0:Γ c7):decide (MH x0>=0)=x0.any I8:=VK
def By(x0:Γ c7):Bool:=decide (MH x0>=0)
def aMt:KK:=mB Tryz.func142 [.v (.sl dX),.fn 143 []] [.bool] [aMs,aVJ] nP (By,()) λ_=>bS pr
def xG(x0:Γ c7):Bool:=if decide ((x0.length:Int)<=8)then !By x0 else false
def bDV:KK:=mB Tryz.func53 [.v (.sl dX)] [.bool] [aMt] nP (xG,()) λ_=>fP (bS pr) pr
def yK(x0:c7):Bool:=if bH x0.1 1000 10000000 then(if bH x0.2.1 100 1000000 then bH x0.2.2.1 0 500 else false)else false
def aXJ:KK:=mB Tryz.func54 [.v dX] [.bool] [lH] nP (yK,()) λ_=>bS<|fP (bS<|fP (bS pr) pr)<|dN pr
def I9(x0:c7):Bool:=if x0.1==1 then true else x0.1==3
def aVK:KK:=mB Tryz.func145 [.v dX] [.bool] [] nP (I9,()) λ_=>fP pr pr
def lA(x0:c7):Bool:=if !bH x0.1 0 3 then false else if !I9 x0 then(if x0.2.1==0 then x0.2.2.1==0 else false)else if bH x0.2.1 0 2 then bH x0.2.2.1 0 3 else false
def aXK:KK:=mB Tryz.func55 [.v dX] [.bool] [lH,aVK] nP (lA,()) λ_=>bS<|fP pr<|bS<|fP (fP pr pr)<|bS<|fP (bS pr) pr
def Aa(x0:Int):Bool:=bH x0 0 1440
def aVL:KK:=mB Tryz.func244 [.v (.int .i64)] [.bool] [lH] nP (Aa,()) λ_=>bS pr
def qL(x0:b6):Bool:=if sI x0.1 then(if Aa x0.2.1 then(if Aa x0.2.2.1 then decide (x0.2.1<x0.2.2.1)else false)else false)else false
def aVM:KK:=mB Tryz.func146 [.v eC] [.bool] [aFt,aVL] nP (qL,()) λ_=>bS<|fP (bS<|fP (bS<|fP pr pr)<|dN pr)<|dN<|dN pr
def d56:jB:=D0 aHc [.v (.sl eC)] [.bool] [aVM]
def bDW(ds:Γ aS)(K:gU)(q:Nat->Value):∀n,(∀ {x0},RV0 (aC,0,0,()) qL bI 12 n x0 ds->St d56 (x0,()) ds [] K q)/\(∀ {v7 x0},RV (aC,0,0,()) qL bI 12 n v7 x0 ds->Cu d56 2 ([eL 0 eC x0,eL 5 eC x0,eI 6 (x0.length:Int),eI 7 v7],[]) ds [] K q):=nI ⟨aH,aH⟩ λn ⟨i,i2⟩=>⟨cX i2,
  bU (eE<|bS<|bU (j0 dR)<|bU (aO<|eE<|bU dR<|aO<|cX i2)<|dN<|aO<|cX i2) dR⟩
def bDX(x0:Γ b6)(i:Nat)(x:b6):Bool :=
 qL x&&(i==0 || !(bK (aB x.1) (aB (x0.getD (i-1) (aC,(0:Int),(0:Int),())).1)||aB x.1==aB (x0.getD (i-1) (aC,(0:Int),(0:Int),())).1))
def uQ(x0:Γ b6):Bool:=nL (bDX x0) 0 x0&&decide (x0.length<=12)
def bDY:KK:=mL d56 (DO aHc) nP (uQ,()) (λ⟨x0,_⟩ h hwf K q =>
 (bDW _ K q _).1 (aOW hwf.1.1))
def aOX(x0:Int):Bool:=bH x0 0 10000000
def bDZ:KK:=mB Tryz.func147 [.v (.int .i64)] [.bool] [lH] nP (aOX,()) λ_=>bS pr
def xH(x0:Int×Int×Int×Int×Unit):Bool:=if bH x0.1 1 20000 then(if bH x0.2.1 1 1000 then(if aOX x0.2.2.1 then bH x0.2.2.2.1 0 1000 else false)else false)else false
def aXL:KK:=mB Tryz.func57 [.v YA3] [.bool] [lH,bDZ] nP (xH,()) λ_=>bS<|fP (bS<|fP (bS<|fP (bS pr) pr)<|dN pr)<|dN<|dN pr
def sJ(x0:eR):Bool:=if sI x0.1 then(if bH x0.2.1 0 100000 then(if bH x0.2.2.1 1 1000 then bH x0.2.2.2.1 1 400 else false)else false)else false
def aVN:KK:=mB Tryz.func148 [.v fQ] [.bool] [aFt,lH] nP (sJ,()) λ_=>bS<|fP (bS<|fP (bS<|fP (bS pr) pr)<|dN pr)<|dN<|dN pr
def d58:jB:=D0 aHd [.v (.sl fQ)] [.bool] [aVN]
def bEa(ds:Γ aS)(K:gU)(q:Nat->Value):∀n,(∀ {x0},RV0 (aC,0,0,0,()) sJ bI 8 n x0 ds->St d58 (x0,()) ds [] K q)/\(∀ {v7 x0},RV (aC,0,0,0,()) sJ bI 8 n v7 x0 ds->Cu d58 2 ([eL 0 fQ x0,eL 5 fQ x0,eI 6 (x0.length:Int),eI 7 v7],[]) ds [] K q):=nI ⟨aH,aH⟩ λn ⟨i,i2⟩=>⟨cX i2,
  bU (eE<|bS<|bU (j0 dR)<|bU (aO<|eE<|bU dR<|aO<|cX i2)<|dN<|aO<|cX i2) dR⟩
def aXM(x0:Γ eR)(i:Nat)(x:eR):Bool :=
 sJ x&&(i==0 || !(bK (aB x.1) (aB (x0.getD (i-1) (aC,(0:Int),(0:Int),(0:Int),())).1)||aB x.1==aB (x0.getD (i-1) (aC,(0:Int),(0:Int),(0:Int),())).1))
def rB(x0:Γ eR):Bool:=nL (aXM x0) 0 x0&&decide (x0.length<=8)
def bEb:KK:=mL d58 (DO aHd) nP (rB,()) (λ⟨x0,_⟩ h hwf K q =>
 (bEa _ K q _).1 (aOW hwf.1.1))
def pK(x0:Int):Bool:=bH x0 0 36524
def aK3:KK:=mB Tryz.func299 [.v (.int .i64)] [.bool] [lH] nP (pK,()) λ_=>bS pr
def aBl(x0:Int):Bool:=bH x0 0 1000
def aOY:KK:=mB Tryz.func247 [.v (.int .i64)] [.bool] [lH] nP (aBl,()) λ_=>bS pr
def sK(x0:c7):Bool:=if pK x0.1 then(if bH x0.2.1 0 24000 then aBl x0.2.2.1 else false)else false
def aOZ:KK:=mB Tryz.func245 [.v dX] [.bool] [aK3,lH,aOY] nP (sK,()) λ_=>bS<|fP (bS<|fP (bS pr) pr)<|dN pr
def aXN:jB:=D0 aCW [.v (.sl dX)] [.bool] [aOZ]
mutual
def aXO:Nat->Γ c7->Γ aS->Prop
 | 0,_,_=>False
 | n+1,x0,ds=>Fq n 0 x0 ds
def Fq:Nat->Int->Γ c7->Γ aS->Prop
 | 0,_,_,_=>False
 | n+1,v7,x0,ds=>if decide (v7<(x0.length:Int))then 0<=v7/\v7<(x0.length:Int)/\if !sK (aD x0 (aE v7) (0,0,0,()))then ds=[aJ .bool false] else if decide (v7>0)then bA .i64 (v7-1)/\0<=v7-1/\v7-1<(x0.length:Int)/\if decide ((aD x0 (aE v7) (0,0,0,())).1<=(aD x0 (aE (v7-1)) (0,0,0,())).1)then ds=[aJ .bool false] else bA .i64 (v7-1)/\0<=v7-1/\v7-1<(x0.length:Int)/\if decide ((aD x0 (aE v7) (0,0,0,())).2.1<(aD x0 (aE (v7-1)) (0,0,0,())).2.1)then ds=[aJ .bool false] else bA .i64 (v7-1)/\0<=v7-1/\v7-1<(x0.length:Int)/\if decide ((aD x0 (aE v7) (0,0,0,())).2.2.1<(aD x0 (aE (v7-1)) (0,0,0,())).2.2.1)then ds=[aJ .bool false] else bA .i64 (v7+1)/\Fq n (v7+1) x0 ds else bA .i64 (v7+1)/\Fq n (v7+1) x0 ds else ds=[aJ .bool true]
end
def aXP(ds:Γ aS)(K:gU)(q:Nat->Value):∀n,(∀ {x0},aXO n x0 ds->St aXN (x0,()) ds [] K q)/\(∀ {v7 x0},Fq n v7 x0 ds->Cu aXN 2 ([eL 0 dX x0,eL 5 dX x0,eI 6 (x0.length:Int),eI 7 v7],[]) ds [] K q):=nI ⟨aH,aH⟩ λn ⟨i,i2⟩=>⟨cX i2,
  bU (eE<|bS<|bU dR<|bU (aO<|eE<|bU (j0<|j0 dR)<|aO<|eE<|bU (j0 dR)<|aO<|eE<|bU dR<|aO<|cX i2)<|dN<|aO<|cX i2) dR⟩
def aIw(y x:c7):Bool:=decide (y.1<x.1)&&decide (y.2.1<=x.2.1)&&decide (y.2.2.1<=x.2.2.1)
def VN(x0:Γ c7)(i:Nat)(x:c7):Bool:=sK x&&(i==0||aIw (x0.getD (i-1) ((0:Int),(0:Int),(0:Int),())) x)
def Dn(x0:Γ c7):Bool:=nL (VN x0) 0 x0
theorem aK4(n i:Nat)(x0:Γ c7)(hm:x0.length<=maxLen)(hi:i<x0.length)(ds:Γ aS)
  (h:if VN x0 i (x0.getD i ((0:Int),(0:Int),(0:Int),()))=true then Fq n ((i:Int)+1) x0 ds else ds=[⟨.bool,false⟩]):Fq (n+1) (i:Int) x0 ds:=by
 have hu:=jZ hm hi;have hmx:maxLen<=9223372036854775807:=by decide
 rw[Fq,π (by simp;omega)];refine⟨by omega,by omega,?_⟩;simp only[aI];unfold VN aIw at h;by_cases hv:sK (x0.getD i ((0:Int),(0:Int),(0:Int),()))=true
 case neg=>rw[Dm hv]at h;rw[π (by rw[Dm hv]<;>rfl)];simpa using h
 rw[ν (by rw[hv];simp)];rw[hv]at h;by_cases h0:(i:Int)>0
 case neg =>
  rw[ν (by simpa using h0)];have hi0:(i==0)=true:=by simp;omega
  rw[hi0]at h;exact⟨hu,by simpa using h⟩
 rw[π (by simpa using h0)];have hi0:(i==0)=false:=by simp;omega
 have e:((i:Int)-1).toNat=i-1:=by omega
 have hd:bA .i64 ((i:Int)-1):=by rw[aK];omega
 rw[hi0]at h;simp only[e];refine⟨hd,by omega,by omega,?_⟩;by_cases c0:(x0.getD i ((0:Int),(0:Int),(0:Int),())).1<=(x0.getD (i-1) ((0:Int),(0:Int),(0:Int),())).1
 case pos =>
  rw[π (decide_eq_true c0)];have:decide ((x0.getD (i-1) ((0:Int),(0:Int),(0:Int),())).1<(x0.getD i ((0:Int),(0:Int),(0:Int),())).1)=false:=decide_eq_false (by omega);rw[this]at h;simpa using h
 rw[ν (by simpa using c0)];refine⟨hd,by omega,by omega,?_⟩;by_cases c1:(x0.getD i ((0:Int),(0:Int),(0:Int),())).2.1<(x0.getD (i-1) ((0:Int),(0:Int),(0:Int),())).2.1
 case pos =>
  rw[π (decide_eq_true c1)];have:decide ((x0.getD (i-1) ((0:Int),(0:Int),(0:Int),())).2.1<=(x0.getD i ((0:Int),(0:Int),(0:Int),())).2.1)=false:=decide_eq_false (by omega);rw[this]at h;simpa using h
 rw[ν (by simpa using c1)];refine⟨hd,by omega,by omega,?_⟩;by_cases c2:(x0.getD i ((0:Int),(0:Int),(0:Int),())).2.2.1<(x0.getD (i-1) ((0:Int),(0:Int),(0:Int),())).2.2.1
 case pos =>
  rw[π (decide_eq_true c2)];have:decide ((x0.getD (i-1) ((0:Int),(0:Int),(0:Int),())).2.2.1<=(x0.getD i ((0:Int),(0:Int),(0:Int),())).2.2.1)=false:=decide_eq_false (by omega);rw[this]at h;simpa using h
 rw[ν (by simpa using c2)];have d0:decide ((x0.getD (i-1) ((0:Int),(0:Int),(0:Int),())).1<(x0.getD i ((0:Int),(0:Int),(0:Int),())).1)=true:=decide_eq_true (by omega);have d1:decide ((x0.getD (i-1) ((0:Int),(0:Int),(0:Int),())).2.1<=(x0.getD i ((0:Int),(0:Int),(0:Int),())).2.1)=true:=decide_eq_true (by omega);have d2:decide ((x0.getD (i-1) ((0:Int),(0:Int),(0:Int),())).2.2.1<=(x0.getD i ((0:Int),(0:Int),(0:Int),())).2.2.1)=true:=decide_eq_true (by omega);rw[d0,d1,d2]at h;exact⟨hu,by simpa using h⟩
theorem aXQ(x0:Γ c7)(hw:x0.length<=maxLen):aXO (x0.length+1+1) x0 [⟨.bool,Dn x0⟩]:=by
 rw[aXO];have key:=y8 x0 ((0:Int),(0:Int),(0:Int),()) (VN x0) [(⟨.bool,false⟩:aS)] [⟨.bool,true⟩] (λn i ds=>Fq n i x0 ds) (λn=>?_) (λn i hi hok ds hr=>?_) (λn i hi hok=>?_)
 ·unfold Dn;cases h:nL (VN x0) 0 x0 with
  | true=>rw[π h]at key;simpa using key
  | false=>rw[ν (by rw[h];simp)]at key;simpa using key
 ·rw[Fq,ν (by simp)]
 ·exact aK4 n i x0 hw hi ds (by rw[π hok];exact hr)
 ·exact aK4 n i x0 hw hi _ (by rw[ν (by rw[hok];simp)])
def aVO:KK:=mL aXN (DO aCW) nP (Dn,()) (λ⟨x0,_⟩ h hwf K q =>
 (aXP _ K q _).1 (aXQ x0 hwf.1.1))
def jG(x0:Γ c7):Bool:=if Dn x0 then decide ((x0.length:Int)<=24)else false
def aMu:KK:=mB Tryz.func59 [.v (.sl dX)] [.bool] [aVO] nP (jG,()) λ_=>bS<|fP pr pr
def Ia(x0:Int):Bool:=bH x0 0 7
def aPa:KK:=mB Tryz.func246 [.v (.int .i64)] [.bool] [lH] nP (Ia,()) λ_=>bS pr
def xI(x0:b6):Bool:=if sI x0.1 then(if Ia x0.2.1 then aBl x0.2.2.1 else false)else false
def aVP:KK:=mB Tryz.func150 [.v eC] [.bool] [aFt,aPa,aOY] nP (xI,()) λ_=>bS<|fP (bS<|fP (bS pr) pr)<|dN pr
def d60:jB:=D0 aHe [.v (.sl eC)] [.bool] [aVP]
def bEc(ds:Γ aS)(K:gU)(q:Nat->Value):∀n,(∀ {x0},RV0 (aC,0,0,()) xI bI 10 n x0 ds->St d60 (x0,()) ds [] K q)/\(∀ {v7 x0},RV (aC,0,0,()) xI bI 10 n v7 x0 ds->Cu d60 2 ([eL 0 eC x0,eL 5 eC x0,eI 6 (x0.length:Int),eI 7 v7],[]) ds [] K q):=nI ⟨aH,aH⟩ λn ⟨i,i2⟩=>⟨cX i2,
  bU (eE<|bS<|bU (j0 dR)<|bU (aO<|eE<|bU dR<|aO<|cX i2)<|dN<|aO<|cX i2) dR⟩
def aXR(x0:Γ b6)(i:Nat)(x:b6):Bool :=
 xI x&&(i==0 || !(bK (aB x.1) (aB (x0.getD (i-1) (aC,(0:Int),(0:Int),())).1)||aB x.1==aB (x0.getD (i-1) (aC,(0:Int),(0:Int),())).1))
def xJ(x0:Γ b6):Bool:=nL (aXR x0) 0 x0&&decide (x0.length<=10)
def bEd:KK:=mL d60 (DO aHe) nP (xJ,()) (λ⟨x0,_⟩ h hwf K q =>
 (bEc _ K q _).1 (aOW hwf.1.1))
def aVQ:KK:=mB Tryz.func151 [.v eC] [.bool] [aFt,aPa,aOY] nP (xI,()) λ_=>bS<|fP (bS<|fP (bS pr) pr)<|dN pr
def d61:jB:=D0 aHf [.v (.sl eC)] [.bool] [aVQ]
def bEe(ds:Γ aS)(K:gU)(q:Nat->Value):∀n,(∀ {x0},RV0 (aC,0,0,()) xI bI 8 n x0 ds->St d61 (x0,()) ds [] K q)/\(∀ {v7 x0},RV (aC,0,0,()) xI bI 8 n v7 x0 ds->Cu d61 2 ([eL 0 eC x0,eL 5 eC x0,eI 6 (x0.length:Int),eI 7 v7],[]) ds [] K q):=nI ⟨aH,aH⟩ λn ⟨i,i2⟩=>⟨cX i2,
  bU (eE<|bS<|bU (j0 dR)<|bU (aO<|eE<|bU dR<|aO<|cX i2)<|dN<|aO<|cX i2) dR⟩
def aXS(x0:Γ b6)(i:Nat)(x:b6):Bool :=
 xI x&&(i==0 || !(bK (aB x.1) (aB (x0.getD (i-1) (aC,(0:Int),(0:Int),())).1)||aB x.1==aB (x0.getD (i-1) (aC,(0:Int),(0:Int),())).1))
def xL(x0:Γ b6):Bool:=nL (aXS x0) 0 x0&&decide (x0.length<=8)
def bEf:KK:=mL d61 (DO aHf) nP (xL,()) (λ⟨x0,_⟩ h hwf K q =>
 (bEe _ K q _).1 (aOW hwf.1.1))
def Bz(x0:bV):Bool:=if uP x0.1 then(if Bw x0.2.1 then(if BA x0.2.2.1 then(if xG x0.2.2.2.1 then(if lA x0.2.2.2.2.2.1 then(if uQ x0.2.2.2.2.2.2.1 then(if xH x0.2.2.2.2.2.2.2.1 then(if yK x0.2.2.2.2.1 then(if rB x0.2.2.2.2.2.2.2.2.1 then(if jG x0.2.2.2.2.2.2.2.2.2.1 then(if xJ x0.2.2.2.2.2.2.2.2.2.2.1 then xL x0.2.2.2.2.2.2.2.2.2.2.2.1 else false)else false)else false)else false)else if yK x0.2.2.2.2.1 then false else false)else if yK x0.2.2.2.2.1 then false else false)else if yK x0.2.2.2.2.1 then false else false)else if lA x0.2.2.2.2.2.1 then(if uQ x0.2.2.2.2.2.2.1 then(if xH x0.2.2.2.2.2.2.2.1 then false else false)else false)else false)else if lA x0.2.2.2.2.2.1 then(if uQ x0.2.2.2.2.2.2.1 then(if xH x0.2.2.2.2.2.2.2.1 then false else false)else false)else false)else if lA x0.2.2.2.2.2.1 then(if uQ x0.2.2.2.2.2.2.1 then(if xH x0.2.2.2.2.2.2.2.1 then false else false)else false)else false)else if lA x0.2.2.2.2.2.1 then(if uQ x0.2.2.2.2.2.2.1 then(if xH x0.2.2.2.2.2.2.2.1 then false else false)else false)else false
def bEg:KK:=mB Tryz.func18 [.v iU] [.bool] [bDS,aXI,bDT,bDV,aXJ,aXK,bDY,aXL,bEb,aMu,bEd,bEf] nP (Bz,()) λ_=>bS<|fP (bS<|fP (bS<|fP (bS<|fP (bS<|bS<|fP (bS<|fP (bS<|fP (bS<|fP (fP (bS<|fP (bS<|fP (bS pr) pr)<|dN pr)<|dN<|dN pr)<|dN<|dN<|dN pr)<|fP (dN<|dN<|dN pr)<|dN<|dN<|dN pr)<|dN<|fP (dN<|dN<|dN pr)<|dN<|dN<|dN pr)<|dN<|dN<|fP (dN<|dN<|dN pr)<|dN<|dN<|dN pr)<|bS<|fP (bS<|fP (bS<|fP (bS<|dN<|dN<|dN<|dN pr)<|dN<|dN<|dN<|dN pr)<|dN<|dN<|dN<|dN<|dN pr)<|dN<|dN<|dN<|dN<|dN<|dN pr)<|dN<|bS<|fP (bS<|fP (bS<|fP (bS<|dN<|dN<|dN<|dN pr)<|dN<|dN<|dN<|dN pr)<|dN<|dN<|dN<|dN<|dN pr)<|dN<|dN<|dN<|dN<|dN<|dN pr)<|dN<|dN<|bS<|fP (bS<|fP (bS<|fP (bS<|dN<|dN<|dN<|dN pr)<|dN<|dN<|dN<|dN pr)<|dN<|dN<|dN<|dN<|dN pr)<|dN<|dN<|dN<|dN<|dN<|dN pr)<|dN<|dN<|dN<|bS<|fP (bS<|fP (bS<|fP (bS<|dN<|dN<|dN<|dN pr)<|dN<|dN<|dN<|dN pr)<|dN<|dN<|dN<|dN<|dN pr)<|dN<|dN<|dN<|dN<|dN<|dN pr
def dZ(x0:Δ):Δ:=if aB x0==aB (aA #[98,97,115,105,110])then aA #[116] else if aB x0==aB (aA #[98,101,110,100])then aA #[116] else if aB x0==aB (aA #[102,97,114,101])then aA #[116] else if aB x0==aB (aA #[104,101,108,112,101,114])then aA #[116] else if aB x0==aB (aA #[104,111,117,114])then aA #[116] else if aB x0==aB (aA #[109,111,116,111,114])then aA #[116] else if aB x0==aB (aA #[114,111,112,101])then aA #[116] else if aB x0==aB (aA #[116,97,115,107])then aA #[116] else if aB x0==aB (aA #[116,101,115,116])then aA #[116] else if aB x0==aB (aA #[119,111,114,107,101,114])then aA #[116] else if aB x0==aB (aA #[101,118,101,110,116])then aA #[110] else if aB x0==aB (aA #[114,101,115,101,114,118,101])then aA #[110] else if aB x0==aB (aA #[115,108,111,119,101,115,116])then aA #[110] else if aB x0==aB (aA #[99,111,118,101,114])then aA #[110,110] else if aB x0==aB (aA #[100,117,101])then aA #[110,110] else if aB x0==aB (aA #[112,111,119,101,114])then aA #[110,110] else if aB x0==aB (aA #[108,105,109,105,116])then aA #[110,110,110] else if aB x0==aB (aA #[119,97,116,101,114])then aA #[110,110,110,110,110] else if aB x0==aB (aA #[116,114,105,112,115])then aA #[108] else if aB x0==aB (aA #[118,111,116,101])then aA #[108,110] else if aB x0==aB (aA #[113,117,101,117,101])then aA #[97,110,110] else aA #[]
def bEh:KK:=mB Tryz.func62 [.v (.str)] [.str] [] nP (dZ,()) λ_=>fP pr<|fP pr<|fP pr<|fP pr<|fP pr<|fP pr<|fP pr<|fP pr<|fP pr<|fP pr<|fP pr<|fP pr<|fP pr<|fP pr<|fP pr<|fP pr<|fP pr<|fP pr<|fP pr<|fP pr<|fP pr pr
def Es:Γ Δ:=[aA #[98,97,115,105,110],aA #[98,101,110,100],aA #[99,111,118,101,114],aA #[100,117,101],aA #[101,118,101,110,116],aA #[102,97,114,101],aA #[102,105,108,108],aA #[104,101,108,112],aA #[104,101,108,112,101,114],aA #[104,111,117,114],aA #[108,105,109,105,116],aA #[109,111,116,111,114],aA #[112,111,119,101,114],aA #[113,117,101,117,101],aA #[114,101,112,111,114,116],aA #[114,101,115,101,114,118,101],aA #[114,111,112,101],aA #[114,117,110,110,105,110,103],aA #[115,104,111,119],aA #[115,108,111,119,101,115,116],aA #[116,97,115,107],aA #[116,101,115,116],aA #[116,114,105,112,115],aA #[118,111,116,101],aA #[119,97,116,101,114],aA #[119,111,114,107,101,114]]
def bEi:KK:=mB Tryz.func64 [] [.sl .str] [] nP (Es,()) λ_=>pr
def aXT:jB:=D0 aCX [.v (.sl .str),.v (.str)] [.int .i64] []
mutual
def aXU:Nat->Γ Δ->Δ->Γ aS->Prop
 | 0,_,_,_=>False
 | n+1,x0,x1,ds=>MJ n 0 x0 x1 ds
def MJ:Nat->Int->Γ Δ->Δ->Γ aS->Prop
 | 0,_,_,_,_=>False
 | n+1,v8,x0,x1,ds=>if decide (v8<(x0.length:Int))then 0<=v8/\v8<(x0.length:Int)/\if aB x1==aB (aD x0 (aE v8) aC)then ds=[aJ (.int .i64) v8] else bA .i64 (v8+1)/\MJ n (v8+1) x0 x1 ds else ds=[aJ (.int .i64) (-1)]
end
def aXV(ds:Γ aS)(K:gU)(q:Nat->Value):∀n,(∀ {x0 x1},aXU n x0 x1 ds->St aXT (x0,x1,()) ds [] K q)/\(∀ {v8 x0 x1},MJ n v8 x0 x1 ds->Cu aXT 2 ([eL 0 .str x0,eS 1 x1,eI 7 (x0.length:Int),eI 8 v8],[]) ds [] K q):=nI ⟨aH,aH⟩ λn ⟨i,i2⟩=>⟨cX i2,
  bU (eE<|bU dR<|aO<|cX i2) dR⟩
def S3(x1:Δ)(y:Δ):Bool:=aB x1==aB y
def MK(x0:Γ Δ)(x1:Δ):Int:=idx (x0.findIdx? (S3 x1))
theorem aXW(x0:Γ Δ)(x1:Δ)(hm:x0.length<=maxLen):aXU (x0.length+1+1) x0 x1 [⟨.int .i64,MK x0 x1⟩]:=by
 rw[aXU];have key:=Er x0 aC (S3 x1) [(⟨.int .i64, -1⟩:aS)] (λk=>[⟨.int .i64,k⟩]) (λn i ds=>MJ n i x0 x1 ds) (λn=>?_) (λn i hi hok ds hr=>?_) (λn i hi hok=>?_)
 ·unfold MK;cases h:x0.findIdx? (S3 x1) <;> rw[h]at key <;> exact key
 ·rw[MJ,ν (by simp)]
 ·rw[MJ,π (by simp;omega)];simp only[aI];refine⟨by omega,by omega,?_⟩;unfold S3 at hok;rw[ν (by rw[hok];simp)];exact⟨jZ hm hi,hr⟩
 ·rw[MJ,π (by simp;omega)];simp only[aI];refine⟨by omega,by omega,?_⟩;unfold S3 at hok;rw[π hok] <;> trivial
theorem aXX(x0:Γ Δ)(x1:Δ):decide (MK x0 x1>=0)=x0.any (S3 x1):=by
 have:=DG (S3 x1) x0;unfold MK;cases h:x0.any (S3 x1)with
 | true=>rw[h]at this;simpa using this
 | false=>rw[h]at this;simpa using this
def bEj:KK:=mL aXT (DO aCX) nP (MK,()) (λ⟨x0,x1,_⟩ h hwf K q =>
 (aXV _ K q _).1 (aXW x0 x1 hwf.1.1))
def S4(x0:Γ Δ)(x1:Δ):Bool:=decide (MK x0 x1>=0)
def bLm:KK:=mB Tryz.func63 [.v (.sl .str),.v (.str)] [.bool] [bEj] nP (S4,()) λ_=>bS pr
end
def lQ(x0 x1:Δ):Δ:=⟨(lF x0.data.toList x1.data.toList).1.toArray⟩
def gG(x0 x1:Δ):Δ:=⟨(lF x0.data.toList x1.data.toList).2.1.toArray⟩
def LL(x0 x1:Δ):Bool:=(lF x0.data.toList x1.data.toList).2.2
def P65(x0 x1:Δ):Prop:=x0.size<4294967281
def S65:Am.Spec:={ sig:=bDO,pre:=λ⟨x0,x1,_⟩=>P65 x0 x1,res:=λ⟨x0,x1,_⟩=>[⟨kM,lQ x0 x1⟩,⟨kM,gG x0 x1⟩,⟨Ty.bool,LL x0 x1⟩] }
def aFu(s sep:Γ UInt8):(lF s sep).1.length<=s.length/\(lF s sep).2.1.length<=s.length:=by
 unfold lF;split
 ·exact⟨by simp;omega,by simp⟩
 ·exact⟨aT _,bG _⟩
def bEl:S0 65 S65:=AJ Tryz.func65<|nH rfl λw ⟨x0,x1,_⟩ vs bss hg hp hw ha=>by
 obtain⟨v0,s0,_,_,rfl,_,⟨_,rfl,_⟩,v1,s1,_,_,rfl,_,⟨_,rfl,_⟩,rfl,_⟩:=ha;have hp:x0.size<4294967281:=hp;obtain⟨l1,l2⟩:=aFu x0.data.toList x1.data.toList;have e:x0.data.toList.length=x0.size:=rfl;refine⟨λd hd=>?_,?_⟩
 ·simp only[S65,aW,dH,or_false]at hd;rcases hd with rfl | rfl | rfl
  ·refine⟨rfl,?_⟩;show (qT _).size<=maxLen;rw[eH];unfold maxLen;omega
  ·refine⟨rfl,?_⟩;show (qT _).size<=maxLen;rw[eH];unfold maxLen;omega
  ·exact⟨rfl,trivial⟩
 ·obtain⟨m,hm⟩:=aK1 hg;refine(Tryz.strings_Cut x0 x1 m w hp hm).mono ?_;rintro e w' ⟨rfl,n,rfl⟩;exact⟨rfl,⟨rfl,rfl,rfl,aT _,λ_ _ _=>rfl⟩⟩
def aSR:KK:=⟨65,S65,bEl⟩
def VO(s:Δ)(hs:s.size<=281474976710656)(v:Int)(h:iP 64 s.data.toList = .ok v)(W:World) :
  Calls aL 155 #[.string s,.int .i64 10,.int .i64 64] W λe w'=>e = .returned (.tuple #[.int .i64 v,.nilIface])/\Go.RowKit.Below W.heap.size W w':=by
 refine(Tryz.strconv_ParseInt_10_at64_ok s (by omega) v h W).mono ?_;rintro e w' ⟨rfl,hw⟩;refine⟨rfl,?_⟩;rcases hw with rfl | ⟨t,rfl⟩
 ·exact N4 _ _
 ·exact Lib.bytesWorld_below _ _ _
def aIx(s:Δ)(hs:s.size<=281474976710656)(h:∀v,iP 64 s.data.toList ≠ .ok v)(W:World)(hg:Eg W) :
  Calls aL 155 #[.string s,.int .i64 10,.int .i64 64] W λe w'=>∃n t N,e = .returned (.tuple #[.int .i64 n,.iface t (.pointer (some ⟨N,0,none⟩))])/\Go.RowKit.Below W.heap.size W w':=by
 obtain⟨es,hes,hes2⟩:=aIr hg;obtain⟨er,her,her2⟩:=aMm hg;rcases hp:iP 64 s.data.toList with v | _ | _
 ·exact absurd hp (h v)
 ·refine(Tryz.strconv_ParseInt_10_at64_syntax s hs hp es W hes hes2).mono ?_;rintro e w' ⟨N,rfl,_,_,hb⟩;exact⟨_,_,_,rfl,hb⟩
 ·refine(Tryz.strconv_ParseInt_10_at64_range s hs hp er W her her2).mono ?_;rintro e w' ⟨N,rfl,_,_,hb⟩;exact⟨_,_,_,rfl,hb⟩
def y9(x0 x1:Δ):Δ:=⟨(Lib.trimPrefix x0.data.toList x1.data.toList).toArray⟩
def aXY:Γ AT:=[nM (mJ .i64),nM (mJ .i64)]
def aPb(x0 x1:Int):Δ:=l5 x0
def bEm(x0 x1:Int):Prop:=x1=10
def bEn:Am.Spec:={ sig:=aXY,pre:=λ⟨x0,x1,_⟩=>bEm x0 x1,res:=λ⟨x0,x1,_⟩=>[⟨kM,aPb x0 x1⟩] }
def aXZ:S0 251 bEn:=AJ Tryz.func251<|nH rfl λw ⟨x0,x1,_⟩ vs bss hg hp hw ha=>by
 obtain⟨v0,s0,_,_,rfl,_,⟨_,rfl,hi⟩,v1,s1,_,_,rfl,_,⟨_,rfl,_⟩,rfl,_⟩:=ha;obtain rfl:x1=10:=hp;have hi:bA .i64 x0:=hi;rw[aK]at hi;refine⟨λd hd=>?_,?_⟩
 ·rw[dU.1 hd];refine⟨rfl,?_⟩;show (l5 x0).size<=maxLen;have:=wC x0 hi.1 hi.2;unfold maxLen;omega
 ·refine(Tryz.strconv_FormatInt_10 x0 hi.1 hi.2 w (aXB hg)).mono ?_;rintro e w' ⟨rfl,n,os,rfl⟩;exact⟨rfl,aMk _ _ _⟩
def bEo:KK:=⟨251,bEn,aXZ⟩
noncomputable section
def Cr(x0:Int):Prop:=((bEm x0 10)/\True)
def dF(x0:Int):Δ:=aPb x0 10
def OS:KK:=mB Tryz.func156 [.v (.int .i64)] [.str] [bEo] Cr (dF,()) λ_=>aO pr
end
end Go.Proofs.YtgfpjekjhnkbfaaGreatDoor
set_option maxRecDepth 100000
namespace Go.Proofs.YtgfpjekjhnkbfaaGreatDoor
open Go Go.Am Go.Proofs Go.RowKit
def aVR(W:World)(n:Int)(hi:bA .i64 n)(hgo:No W []) :
  Calls aL 156 #[.int .i64 n] W λe w'=>e = .returned (.string (l5 n))/\Below W.heap.size W w':=by
 have h:=OS.h.2.down rfl W (n,()) [.int .i64 n] [[]] hgo ⟨rfl,trivial⟩ ⟨_,[],[],[],rfl,rfl,⟨rfl,rfl,hi⟩,rfl,rfl⟩ (by simp);refine h.mono ?_;rintro e w' ⟨rs,ubs,rbs,rfl,hk,⟨u,s,b1,bs1,cs,rfl,rfl,ho,hv,rfl,rfl⟩,_⟩;obtain⟨ho,_⟩:=ho;have hv:cs=[u]:=hv;rw[ho]at hv;cases hv;exact⟨rfl,hk.below⟩
def VP(W:World)(s d:Δ)(h:y9 s ⟨#[45]⟩=d):Calls aL 154 #[.string s,.string ⟨#[45]⟩] W λe w'=>e = .returned (.string d)/\w'=W:=by
 rw[<- h];exact Tryz.strings_TrimPrefix s ⟨#[45]⟩ W
def aVS{w W:World}(h:No w [])(hb:Below w.heap.size w W):No W [] where
 inv:=h.inv.keep λb _ hs=>hb.5 b hs
 size:=dV h.size hb.4
 out:=h.out
def aBm{l:Γ UInt8}{v:Int}(h:iP 64 l = .ok v):bA .i64 v:=by
 unfold iP at h;split at h
 ·lia
 ·simp at h;split at h
  ·lia
  ·lia
  ·split at h
   ·lia
   ·split at h
    ·lia
    ·grind [aK]
def aBn(s:Δ):Bool:=decide ((y9 s ⟨#[45]⟩).size<1)||decide (18<(y9 s ⟨#[45]⟩).size)
def VQ(s:Δ):Option Int:=if aBn s=true then none else match iP 64 s.data.toList with
 | .ok v=>if l5 v=s then some v else none
 | _=>none
set_option maxHeartbeats 4000000 in
def aFv(w:World)(s d:Δ)(HD:Aside (y9 s ⟨#[45]⟩=d))(h1:(d.size:Int)<1) :
  Calls aL 66 #[.string s] w λe w'=>e = .returned (.tuple #[.int .i64 0,.bool false])/\Below w.heap.size w w':=by
 have mixed:=mixed
 go_enter A4,BW
 go_wp2_with (go_at_call 154;refine(VP _ s d HD.out).mono ?_;rintro e w1 ⟨rfl,rfl⟩)
 go_ret2
 exact⟨rfl,N4 _ _⟩
set_option maxHeartbeats 4000000 in
def aIy(w:World)(s d:Δ)(HD:Aside (y9 s ⟨#[45]⟩=d))(h1:¬(d.size:Int)<1)(h2:(d.size:Int)>18) :
  Calls aL 66 #[.string s] w λe w'=>e = .returned (.tuple #[.int .i64 0,.bool false])/\Below w.heap.size w w':=by
 have mixed:=mixed
 go_enter A4,BW
 go_wp2_with (go_at_call 154;refine(VP _ s d HD.out).mono ?_;rintro e w1 ⟨rfl,rfl⟩)
 go_ret2
 exact⟨rfl,N4 _ _⟩
set_option maxHeartbeats 4000000 in
def aPc(w:World)(s d:Δ)(hs:s.size<=281474976710656)(hgo:No w [])(HD:Aside (y9 s ⟨#[45]⟩=d))(h1:¬(d.size:Int)<1)(h2:¬(d.size:Int)>18)(v:Int)(HP:Aside (iP 64 s.data.toList = .ok v))(HE:Aside (l5 v=s)) :
  Calls aL 66 #[.string s] w λe w'=>e = .returned (.tuple #[.int .i64 v,.bool true])/\Below w.heap.size w w':=by
 have mixed:=mixed
 go_enter A4,BW
 go_wp2_with (go_at_call 154;refine(VP _ s d HD.out).mono ?_;rintro e w1 ⟨rfl,rfl⟩)
 have HR:Aside (bA .i64 v):=aBm HP.out
 go_wp2_with (go_at_call 155;refine(VO s hs v HP.out _).mono ?_)
 rintro e w2 ⟨rfl,b2⟩
 go_wp2_with (go_at_call 156;refine(aVR _ v HR.out (aVS hgo b2)).mono ?_)
 rintro e w3 ⟨rfl,b3⟩;rw[HE.out]
 go_wp2
 go_ret2
 exact⟨rfl,b2.trans (b3.mono b2.size)⟩
set_option maxHeartbeats 4000000 in
def aPd(w:World)(s d:Δ)(hs:s.size<=281474976710656)(hgo:No w [])(HD:Aside (y9 s ⟨#[45]⟩=d))(h1:¬(d.size:Int)<1)(h2:¬(d.size:Int)>18)(v:Int)(HP:Aside (iP 64 s.data.toList = .ok v))(HE:Aside (¬l5 v=s)) :
  Calls aL 66 #[.string s] w λe w'=>e = .returned (.tuple #[.int .i64 0,.bool false])/\Below w.heap.size w w':=by
 have mixed:=mixed
 go_enter A4,BW
 go_wp2_with (go_at_call 154;refine(VP _ s d HD.out).mono ?_;rintro e w1 ⟨rfl,rfl⟩)
 have HR:Aside (bA .i64 v):=aBm HP.out
 go_wp2_with (go_at_call 155;refine(VO s hs v HP.out _).mono ?_)
 rintro e w2 ⟨rfl,b2⟩
 go_wp2_with (go_at_call 156;refine(aVR _ v HR.out (aVS hgo b2)).mono ?_)
 rintro e w3 ⟨rfl,b3⟩;have he':((l5 v).toList==s.toList)=false:=by
  rw[cG];exact λhh=>HE.out ((bE _ _).1 hh)
 go_wp2
 go_ret2
 exact⟨rfl,b2.trans (b3.mono b2.size)⟩
set_option maxHeartbeats 4000000 in
def aPe(w:World)(s d:Δ)(hs:s.size<=281474976710656)(hgo:No w [])(HD:Aside (y9 s ⟨#[45]⟩=d))(h1:¬(d.size:Int)<1)(h2:¬(d.size:Int)>18)(HP:Aside (∀v,iP 64 s.data.toList ≠ .ok v)) :
  Calls aL 66 #[.string s] w λe w'=>e = .returned (.tuple #[.int .i64 0,.bool false])/\Below w.heap.size w w':=by
 have mixed:=mixed
 go_enter A4,BW
 go_wp2_with (go_at_call 154;refine(VP _ s d HD.out).mono ?_;rintro e w1 ⟨rfl,rfl⟩)
 go_wp2_with (go_at_call 155;refine(aIx s hs HP.out _ hgo.inv).mono ?_)
 rintro e w2 ⟨n,t,N,rfl,b2⟩
 go_wp2
 go_ret2
 exact⟨rfl,b2⟩
def bEp:Γ AT:=[nM .str]
def jR(x0:Δ):Int:=(VQ x0).getD 0
def jS(x0:Δ):Bool:=(VQ x0).isSome
def P66(x0:Δ):Prop:=x0.size<=281474976710656
def S66:Am.Spec:={ sig:=bEp,pre:=λ⟨x0,_⟩=>P66 x0,res:=λ⟨x0,_⟩=>[⟨.int .i64,jR x0⟩,⟨.bool,jS x0⟩] }
def bEr:S0 66 S66:=AJ A4<|nH rfl λw ⟨x0,_⟩ vs bss hg hp hw ha=>by
 obtain⟨v0,s0,_,_,rfl,_,⟨_,rfl,_⟩,rfl,_⟩:=ha;have hs:x0.size<=281474976710656:=hp;have hgo:No w []:=⟨hg,hg.size,λb hb=>by cases hb⟩;refine⟨λd hd=>?_,?_⟩
 ·simp only[aW,dH,or_false]at hd;rcases hd with rfl | rfl
  ·refine⟨rfl,?_⟩;show bA .i64 ((VQ x0).getD 0);have z:bA .i64 0:=by rw[aK];omega
   unfold VQ;split
   ·exact z
   ·split
    ·rename_i v h;split
     ·exact aBm h
     ·exact z
    ·exact z
  ·exact⟨rfl,trivial⟩
 ·show Calls aL 66 #[.string x0] w λe w'=>e = .returned (.tuple #[.int .i64 ((VQ x0).getD 0),.bool (VQ x0).isSome])/\cQ [] w w';have hd:Aside (y9 x0 ⟨#[45]⟩=y9 x0 ⟨#[45]⟩):=rfl;unfold VQ aBn;by_cases h1:(y9 x0 ⟨#[45]⟩).size<1
  ·rw[π (by simp[h1])];refine(aFv w x0 _ hd (by omega)).mono ?_;rintro e w' ⟨rfl,hb⟩;exact⟨rfl,iO hb⟩
  ·by_cases h2:18<(y9 x0 ⟨#[45]⟩).size
   ·rw[π (by simp[h2])];refine(aIy w x0 _ hd (by omega) (by omega)).mono ?_;rintro e w' ⟨rfl,hb⟩;exact⟨rfl,iO hb⟩
   ·rw[ν (by simp[h1,h2])];by_cases hok:∃v,iP 64 x0.data.toList = .ok v
    ·obtain⟨v,hv⟩:=hok;rw[hv];by_cases he:l5 v=x0
     ·simp only[π he];refine(aPc w x0 _ hs hgo hd (by omega) (by omega) v hv he).mono ?_;rintro e w' ⟨rfl,hb⟩;exact⟨rfl,iO hb⟩
     ·simp only[ν he];refine(aPd w x0 _ hs hgo hd (by omega) (by omega) v hv he).mono ?_;rintro e w' ⟨rfl,hb⟩;exact⟨rfl,iO hb⟩
    ·have hno:∀v,iP 64 x0.data.toList ≠ .ok v:=λv hv=>hok ⟨v,hv⟩;have e:(match iP 64 x0.data.toList with
      | .ok v=>if l5 v=x0 then some v else none
      | _=>none:Option Int)=none:=by
      split
      ·rename_i v hv;exact absurd hv (hno v)
      ·rfl
     rw[e];refine(aPe w x0 _ hs hgo hd (by omega) (by omega) hno).mono ?_;rintro e w' ⟨rfl,hb⟩;exact⟨rfl,iO hb⟩
def aSS:KK:=⟨66,S66,bEr⟩
def aYa:Γ AT:=[nM (rX kM),nM kM]
def qM(x0:Γ Δ)(x1:Δ):Δ:=⟨(tA (x0.map λx=>x.data.toList) x1.data.toList).toArray⟩
def Yl(x0:Γ Δ)(x1:Δ):Prop:=x0.length<=1048576/\(tA (x0.map λx=>x.data.toList) x1.data.toList).length<=140737488355328
def bEs:Am.Spec:={ sig:=aYa,pre:=λ⟨x0,x1,_⟩=>Yl x0 x1,res:=λ⟨x0,x1,_⟩=>[⟨kM,qM x0 x1⟩] }
def aYb:S0 255 bEs:=AJ Tryz.func255<|nH rfl λw ⟨x0,x1,_⟩ vs bss hg hp hw ha=>by
 obtain⟨v0,s0,_,_,rfl,_,⟨_,ho⟩,v1,s1,_,_,rfl,_,⟨_,rfl,_⟩,rfl,_⟩:=ha;obtain⟨h0,h1⟩:x0.length<=1048576/\(tA (x0.map λx=>x.data.toList) x1.data.toList).length<=140737488355328:=hp;refine⟨λd hd=>?_,?_⟩
 ·rw[dU.1 hd];refine⟨rfl,?_⟩;show (qT _).size<=maxLen;rw[eH];exact dV h1 (by decide)
 ·obtain⟨_,_,hcase⟩:=QV (t := .str) rfl ho;rcases hcase with ⟨ad,rfl,rfl⟩ | ⟨b',off,cap,rfl,h2,h3,hG,hcells⟩
  ·refine(Tryz.strings_Join_none ad 0 x1 w).mono ?_;rintro e w' ⟨rfl,rfl⟩;exact⟨rfl,dD _ _⟩
  ·refine(Tryz.strings_Join b' off cap x0 x1 w (λj x hx=>?_) hG.1 (by omega) h2 h1).mono ?_
   ·refine hcells j _ ?_;have e:rA .str x0=x0.map hJ:=by
     have:∀xs:Γ Δ,rA .str xs=xs.map hJ:=by
      intro xs
      induction xs with
      | nil=>rfl
      | cons a r ih=>unfold rA at ih ⊢;rw[dG,gF,ih];rfl
     exact this x0
    rw[e,jH,hx];rfl
   ·rintro e w' ⟨rfl,hb⟩;exact⟨rfl,iO hb⟩
def aK5:KK:=⟨255,bEs,aYb⟩
noncomputable section
def QY(x0:Int):Bool:=bH x0 (-1000000000000) 1000000000000
def bEt:KK:=mB Tryz.func254 [.v (.int .i64)] [.bool] [lH] nP (QY,()) λ_=>bS pr
def QZ(x0:Int):Bool := !QY x0
def aVT:KK:=mB Tryz.func253 [.v (.int .i64)] [.bool] [bEt] nP (QZ,()) λ_=>bS pr
def VR:jB:=D0 qY [.v (.sl Jy),.fn 253 []] [.int .i64] [aVT]
def aIz(ds:Γ aS)(K:gU)(q:Nat->Value):∀n,(∀ {x0},RI0 QZ 0 n x0 ds->St VR (x0,(),()) ds [] K q)/\(∀ {v8 x0},RI QZ 0 n v8 x0 ds->Cu VR 2 ([eL 0 (.int .i64) x0,(1,o9 253 []),eI 7 (x0.length:Int),eI 8 v8],[]) ds [] K q):=nI ⟨aH,aH⟩ λn ⟨i,i2⟩=>⟨cX i2,
  bU (eE<|bS<|bU dR<|aO<|cX i2) dR⟩
def ML(x0:Γ (Int)):Int:=idx (x0.findIdx? QZ)
def aMv:KK:=mL VR (DO qY) nP (ML,()) (λ⟨x0,_⟩ h hwf K q =>
 (aIz _ K q _).1 (VJ hwf.1.1))
theorem VS(x0:Γ (Int)):decide (ML x0>=0)=x0.any QZ:=VK
def vE(x0:Γ Int):Bool:=decide (ML x0>=0)
def aMw:KK:=mB HF [.v (.sl Jy),.fn 253 []] [.bool] [aMv,aVT] nP (vE,()) λ_=>bS pr
def aYc:jB:=D0 aCY [.v (.sl Jy)] [.str] [OS,aK5,aMw]
mutual
def aYd:Nat->Γ Int->Γ aS->Prop
 | 0,_,_=>False
 | n+1,x0,ds=>if decide ((x0.length:Int)>64)then ds=[aJ .str (aA #[])] else if vE x0 then ds=[aJ .str (aA #[])] else if(x0.length:Int)==0 then ds=[aJ .str (aA #[45])] else MM n 0 ([]) x0 ds
def MM:Nat->Int->Γ Δ->Γ Int->Γ aS->Prop
 | 0,_,_,_,_=>False
 | n+1,Hq,h0,x0,ds=>if decide (Hq<(x0.length:Int))then 0<=Hq/\Hq<(x0.length:Int)/\Cr (aD x0 (aE Hq) 0)/\(aF h0+1)*16<=140737488355328/\bA .i64 (Hq+1)/\MM n (Hq+1) (h0++[dF (aD x0 (aE Hq) 0)]) x0 ds else Yl h0 (aA #[44])/\ds=[aJ .str (qM h0 (aA #[44]))]
end
def aYe(ds:Γ aS)(K:gU)(q:Nat->Value):∀n,(∀ {x0},aYd n x0 ds->St aYc (x0,()) ds [] K q)/\(∀ {Hq h0 x0},MM n Hq h0 x0 ds->Cu aYc 7 ([eW 3 0,eL 16 (.int .i64) x0,eI 17 (x0.length:Int),eI 18 Hq],[cN .str h0]) ds [] K q):=nI ⟨aH,aH⟩ λn ⟨i,i7⟩=>⟨bU (j0 dR)<|bS<|bU dR<|bU dR<|Dl [(3,.str)] i7,
  bU (eE<|aO<|aO<|aO<|Dl [(3,.str)] i7)<|aO dR⟩
def iF(x0:Γ Int):Δ:=if x0.length>64 then aA #[] else if vE x0 then aA #[] else if x0.length=0 then aA #[45] else qM (x0.map dF) (aA #[44])
def aYf(x:Int)(h:bA .i64 x):(dF x).size<=21:=by
 rw[aK]at h;exact wC x (by omega) (by omega)
def aST(x:Int):Cr x:=⟨rfl,trivial⟩
theorem aK6:∀(xs:Γ Int),(∀x∈xs,bA .i64 x)->Cl (xs.map λx=>(dF x).data.toList)<=21*xs.length
 | [],_=>by simp[Cl]
 | x::r,h=>by
  have ih:=aK6 r λy hy=>h y (aM _ hy);have hx:=aYf x (h x (aR ..));have e:(dF x).data.toList.length=(dF x).size:=rfl;unfold Cl at ih ⊢;simp only[dG,ZM,cL,e]at ih ⊢;omega
def aSU(xs:Γ Int)(hx:∀x∈xs,bA .i64 x)(hl:xs.length<=64):Yl (xs.map dF) (aA #[44]):=by
 refine⟨by simp;omega,?_⟩;rw[oM];cases xs with
 | nil=>simp[tA,FP]
 | cons x r =>
  have h:=aK6 (x::r) hx;rw[dG]at h ⊢;rw[Td];have e:(aA #[44]).data.toList.length=1:=rfl;rw[e];simp only[cM,cL]at *;have h':Cl (((λx:Δ=>x.data.toList) ∘ dF) x::A5 ((λx:Δ=>x.data.toList) ∘ dF) r)<=21*(r.length+1):=h;omega
def aYg(x0:Γ Int)(hx:∀x∈x0,bA .i64 x):aYd (x0.length+1+1) x0 [⟨.str,iF x0⟩]:=by
 rw[aYd];unfold iF;by_cases h1:x0.length>64
 ·rw[π (by simp;omega),π h1]
 ·rw[ν (by simp;omega),ν h1];by_cases h2:vE x0=true
  ·rw[π h2,π h2]
  ·rw[ν h2,ν h2];by_cases h0:x0.length=0
   ·rw[π (by simp[h0]),π h0]
   ·rw[ν (by simp only[beq_iff_eq];omega),ν h0];have hm:x0.length<=maxLen:=by unfold maxLen;omega
    have key:=Zr (b:=[]) x0 0 (λ(h:Γ Δ) b=>h++[dF b]) (λh=>[(⟨.str,qM h (aA #[44])⟩:aS)]) (λi h=>h.length<=i/\h=(x0.take i).map dF) (λn i h ds=>MM n i h x0 ds) (by simp) (λn h hb=>?_) (λn i h hi hl=>⟨⟨aOK hl.1,?_⟩,λds hr=>?_⟩)
    ·rw[MB]at key;simpa using key
    ·show MM (n+1) x0.length h x0 _;rw[MM,ν (by simp)];refine⟨?_,rfl⟩;rw[hb.2,List.take_length];exact aSU x0 hx (by omega)
    ·rw[hl.2,eG,qD x0 i 0 hi];simp
    ·obtain⟨hl,_⟩:=hl;rw[MM,π (by simp;omega)];simp only[aI];exact⟨by omega,by omega,aST _,by omega,jZ hm hi,hr⟩
def aFw:KK:=mL aYc (DO aCY) nP (iF,()) (λ⟨x0,_⟩ h hwf K q =>
 (aYe _ K q _).1 (aYg x0 hwf.1.2))
def d67:jB:=D0 aHg [.v (.str)] [.sl Jy,.bool] [aIs,aSS,aFw]
mutual
def R67:Nat->Δ->Γ aS->Prop
 | 0,_,_=>False
 | n+1,x0,ds=>if aB x0==aB (aA #[45])then ds=[aJ (.sl Jy) [],aJ .bool true] else P17 x0 (aA #[44])/\S6 n 0 ([]) x0 ds
def S6:Nat->Int->Γ Int->Δ->Γ aS->Prop
 | 0,_,_,_,_=>False
 | n+1,v14,h0,x0,ds=>if decide (v14<(↑(aF (bJ x0 (aA #[44]))):Int))then 0<=v14/\v14<(↑(aF (bJ x0 (aA #[44]))):Int)/\P66 (aD (bJ x0 (aA #[44])) (aE v14) aC)/\(aF h0+1)*8<=140737488355328/\bA .i64 (v14+1)/\S6 n (v14+1) (h0++[jR (aD (bJ x0 (aA #[44])) (aE v14) aC)]) x0 ds else if !aB (iF h0)==aB x0 then ds=[aJ (.sl Jy) [],aJ .bool false] else ds=[aJ (.sl Jy) h0,aJ .bool true]
end
def bEu(ds:Γ aS)(K:gU)(q:Nat->Value):∀n,(∀ {x0},R67 n x0 ds->St d67 (x0,()) ds [] K q)/\(∀ {v14 h0 x0},S6 n v14 h0 x0 ds->Cu d67 5 ([eS 0 x0,eW 4 0,eW 12 1,eI 13 (↑(aF (bJ x0 (aA #[44]))):Int),eI 14 v14],[cN (.int .i64) h0,cN .str (bJ x0 (aA #[44]))]) ds [] K q):=nI ⟨aH,aH⟩ λn ⟨i,i5⟩=>⟨bU dR<|aO<|Dl [(4,.int .i64)] i5,
  bU (eE<|aO<|aO<|aO<|Dl [(4,.int .i64)] i5)<|bS<|bU dR dR⟩
def AK(x0:Δ):Γ Δ:=bJ x0 (aA #[44])
def oW(x0:Δ):Γ Int:=(AK x0).map jR
def LM(x0:Δ):Option (Γ Int):=if x0=aA #[45] then some [] else if iF (oW x0)=x0 then some (oW x0)else none
def iK(x0:Δ):Γ Int:=(LM x0).getD []
def uR(x0:Δ):Bool:=(LM x0).isSome
def P67(x0:Δ):Prop:=x0.size<=1048576
def bLq(x0:Δ)(hp:P67 x0):(AK x0).length<=1048577:=by
 have hl:=x9 (aA #[44]) (aT 1) 0 (hY x0 (aA #[44])) x0 rfl;have hc:=uZ (aA #[44]) (aT 1) x0.size x0 (aT _);have hp:x0.size<=1048576:=hp;have:(AK x0).length=hY x0 (aA #[44])+1:=hl
 lia
def bLr(x0:Δ)(hp:P67 x0):∀w∈AK x0,w.size<=1048576:=λw hw=>by
 have hp:x0.size<=1048576:=hp;have:=sG (aA #[44]) 0 _ _ w hw
 lia
def bEv(x0:Δ)(hp:P67 x0):∃n,R67 n x0 [⟨.sl Jy,iK x0⟩,⟨.bool,uR x0⟩]:=by
 have ew:bJ x0 (aA #[44])=AK x0:=rfl;have hp':x0.size<=1048576:=hp;have hl:=bLq x0 hp;have hz:=bLr x0 hp;refine⟨((AK x0).length+1)+1,?_⟩;rw[R67];unfold iK uR LM;by_cases h0:x0=aA #[45]
 ·rw[π ((bE _ _).2 h0),π h0]<;>rfl
 ·rw[ν (λh=>h0 ((bE _ _).1 h)),ν h0];refine⟨⟨by omega,aT 1⟩,?_⟩;have hm:(AK x0).length<=maxLen:=by unfold maxLen;omega
  have key:=Zr (b:=[]) (AK x0) aC (λ(h:Γ Int) b=>h++[jR b]) (λh=>if iF h=x0 then [(⟨.sl Jy,h⟩:aS),⟨.bool,true⟩] else [⟨.sl Jy,[]⟩,⟨.bool,false⟩]) (λi h=>h.length<=i) (λn i h ds=>S6 n i h x0 ds) (by simp) (λn h hb=>?_) (λn i h hi hl=>⟨aOK hl,λds hr=>?_⟩)
  ·rw[MB]at key;have e:[]++(AK x0).map jR=oW x0:=by simp[oW]
   simp only[e]at key;by_cases ht:iF (oW x0)=x0
   ·rw[π ht]at key ⊢;exact key
   ·rw[ν ht]at key ⊢;exact key
  ·show S6 (n+1) (AK x0).length h x0 _;rw[S6,ew,ν (by simp)];by_cases ht:iF h=x0
   ·rw[ν (by rw[(bE _ _).2 ht];simp),π ht]
   ·rw[π (by rw[Bool.not_eq_true',cG];exact λhh=>ht ((bE _ _).1 hh)),ν ht]
  ·show S6 (n+1) (i:Int) h x0 ds;rw[S6,ew,π (by simp only[ε];omega)];simp only[aI];have hw:=hz _ (bY (AK x0) i aC hi);exact⟨by omega,by omega,(show ((AK x0).getD i aC).size<=281474976710656 from by omega),by omega,jZ hm hi,hr⟩
def aYh:KK:=mL d67 (DO aHg) P67 (iK,uR,()) (λ⟨x0,_⟩ h hwf K q=>by
 obtain⟨n,hn⟩:=bEv x0 h;exact(bEu _ K q n).1 hn)
def bEw:KK:=mB Tryz.func257 [.v (.int .i64)] [.bool] [lH] nP (aBl,()) λ_=>bS pr
def Q0(x0:Int):Bool := !aBl x0
def aVU:KK:=mB Tryz.func256 [.v (.int .i64)] [.bool] [bEw] nP (Q0,()) λ_=>bS pr
def VT:jB:=D0 qY [.v (.sl Jy),.fn 256 []] [.int .i64] [aVU]
def aI1(ds:Γ aS)(K:gU)(q:Nat->Value):∀n,(∀ {x0},RI0 Q0 0 n x0 ds->St VT (x0,(),()) ds [] K q)/\(∀ {v8 x0},RI Q0 0 n v8 x0 ds->Cu VT 2 ([eL 0 (.int .i64) x0,(1,o9 256 []),eI 7 (x0.length:Int),eI 8 v8],[]) ds [] K q):=nI ⟨aH,aH⟩ λn ⟨i,i2⟩=>⟨cX i2,
  bU (eE<|bS<|bU dR<|aO<|cX i2) dR⟩
def MN(x0:Γ (Int)):Int:=idx (x0.findIdx? Q0)
def aMx:KK:=mL VT (DO qY) nP (MN,()) (λ⟨x0,_⟩ h hwf K q =>
 (aI1 _ K q _).1 (VJ hwf.1.1))
theorem VU(x0:Γ (Int)):decide (MN x0>=0)=x0.any Q0:=VK
def Fs(x0:Γ Int):Bool:=decide (MN x0>=0)
def aMy:KK:=mB HF [.v (.sl Jy),.fn 256 []] [.bool] [aMx,aVU] nP (Fs,()) λ_=>bS pr
def pM(x0:Γ Int):Bool:=if decide ((x0.length:Int)>=1)then(if decide ((x0.length:Int)<=60)then !Fs x0 else false)else false
def aPf:KK:=mB Tryz.func158 [.v (.sl Jy)] [.bool] [aMy] nP (pM,()) λ_=>fP (fP (bS pr) pr)<|dN pr
def aYi:jB:=D0 aCZ [.v (.sl Jy)] [.str] [aPf,OS,aK5]
mutual
def aSW:Nat->Γ Int->Γ aS->Prop
 | 0,_,_=>False
 | n+1,x0,ds=>if !pM x0 then ds=[aJ .str (aA #[])] else Q1 n 0 ([]) x0 ds
def Q1:Nat->Int->Γ Δ->Γ Int->Γ aS->Prop
 | 0,_,_,_,_=>False
 | n+1,v11,h0,x0,ds=>if decide (v11<(x0.length:Int))then 0<=v11/\v11<(x0.length:Int)/\Cr (aD x0 (aE v11) 0)/\(aF h0+1)*16<=140737488355328/\bA .i64 (v11+1)/\Q1 n (v11+1) (h0++[dF (aD x0 (aE v11) 0)]) x0 ds else Yl h0 (aA #[43])/\ds=[aJ .str (qM h0 (aA #[43]))]
end
def aYj(ds:Γ aS)(K:gU)(q:Nat->Value):∀n,(∀ {x0},aSW n x0 ds->St aYi (x0,()) ds [] K q)/\(∀ {v11 h0 x0},Q1 n v11 h0 x0 ds->Cu aYi 5 ([eW 3 0,eL 9 (.int .i64) x0,eI 10 (x0.length:Int),eI 11 v11],[cN .str h0]) ds [] K q):=nI ⟨aH,aH⟩ λn ⟨i,i5⟩=>⟨bS<|bU dR<|Dl [(3,.str)] i5,
  bU (eE<|aO<|aO<|aO<|Dl [(3,.str)] i5)<|aO dR⟩
def Ib(x0:Γ Int):Δ:=if !pM x0 then aA #[] else qM (x0.map dF) (aA #[43])
def aSX(x0:Γ Int):Prop:=pM x0=true->x0.length<=64
def aSZ(xs:Γ Int)(hx:∀x∈xs,bA .i64 x)(hl:xs.length<=64):Yl (xs.map dF) (aA #[43]):=by
 refine⟨by simp;omega,?_⟩;rw[oM];cases xs with
 | nil=>simp[tA,FP]
 | cons x r =>
  have h:=aK6 (x::r) hx;rw[dG]at h ⊢;rw[Td];have e:(aA #[43]).data.toList.length=1:=rfl;rw[e];simp only[cM,cL]at *;have h':Cl (((λx:Δ=>x.data.toList) ∘ dF) x::A5 ((λx:Δ=>x.data.toList) ∘ dF) r)<=21*(r.length+1):=h;omega
def aYl(x0:Γ Int)(hx:∀x∈x0,bA .i64 x)(hl:x0.length<=64):∀(k i:Nat) (h0:Γ Δ),i+k=x0.length->h0=(x0.take i).map dF->Q1 (k+1) (i:Int) h0 x0 [⟨.str,qM (x0.map dF) (aA #[43])⟩]:=by
 intro k
 induction k with
 | zero =>
  intro i h0 hi hh;rw[cW (by omega)]at hh;subst hh;rw[Q1,ν (by simp only[ε];omega)];exact⟨aSZ x0 hx hl,rfl⟩
 | succ k ih =>
  intro i h0 hi hh;have hlt:i<x0.length:=by omega
  have e3:(i:Int)+1=((i+1:Nat):Int):=by omega
  have hle:h0.length<=64:=by rw[hh,cM,bW];omega
  rw[Q1,π (by simp only[ε];omega),e3,aI];refine⟨by omega,by omega,aST _,by omega,by rw[aK];omega,ih (i+1) _ (by omega) ?_⟩;rw[hh,eG,aX hlt,jX x0 i 0 hlt,iQ]<;>rfl
def aYm(x0:Γ Int)(hx:∀x∈x0,bA .i64 x)(h:aSX x0):∃n,aSW n x0 [⟨.str,Ib x0⟩]:=by
 unfold Ib;by_cases c:(!pM x0)=true
 ·exact⟨1,by rw[aSW,π c,π c]⟩
 ·have hl:=h (by simpa using c);refine⟨x0.length+1+1,?_⟩;rw[aSW,ν c,ν c];exact aYl x0 hx hl x0.length 0 [] (by omega) rfl
def bEx:KK:=mL aYi (DO aCZ) aSX (Ib,()) (λ⟨x0,_⟩ h hwf K q =>
 let ⟨n,hn⟩:=aYm x0 hwf.1.2 h
 (aYj _ K q n).1 hn)
def d68:jB:=D0 aHh [.v (.str)] [.sl Jy,.bool] [aIs,aSS,aPf,bEx]
mutual
def R68:Nat->Δ->Γ aS->Prop
 | 0,_,_=>False
 | n+1,x0,ds=>P17 x0 (aA #[43])/\Zu n 0 ([]) x0 ds
def Zu:Nat->Int->Γ Int->Δ->Γ aS->Prop
 | 0,_,_,_,_=>False
 | n+1,v12,h0,x0,ds=>if decide (v12<(↑(aF (bJ x0 (aA #[43]))):Int))then 0<=v12/\v12<(↑(aF (bJ x0 (aA #[43]))):Int)/\P66 (aD (bJ x0 (aA #[43])) (aE v12) aC)/\(aF h0+1)*8<=140737488355328/\bA .i64 (v12+1)/\Zu n (v12+1) (h0++[jR (aD (bJ x0 (aA #[43])) (aE v12) aC)]) x0 ds else if !pM h0 then ds=[aJ (.sl Jy) [],aJ .bool false] else aSX h0/\if !aB (Ib h0)==aB x0 then ds=[aJ (.sl Jy) [],aJ .bool false] else ds=[aJ (.sl Jy) h0,aJ .bool true]
end
def bEy(ds:Γ aS)(K:gU)(q:Nat->Value):∀n,(∀ {x0},R68 n x0 ds->St d68 (x0,()) ds [] K q)/\(∀ {v12 h0 x0},Zu n v12 h0 x0 ds->Cu d68 3 ([eS 0 x0,eW 4 0,eW 10 1,eI 11 (↑(aF (bJ x0 (aA #[43]))):Int),eI 12 v12],[cN (.int .i64) h0,cN .str (bJ x0 (aA #[43]))]) ds [] K q):=nI ⟨aH,aH⟩ λn ⟨i,i3⟩=>⟨aO<|Dl [(4,.int .i64)] i3,
  bU (eE<|aO<|aO<|aO<|Dl [(4,.int .i64)] i3)<|bS<|bU (j0 dR)<|aO<|bU dR dR⟩
def Q2(x0:Δ):Γ Δ:=bJ x0 (aA #[43])
def Ab(x0:Δ):Γ Int:=(Q2 x0).map jR
def OT(x0:Δ):Option (Γ Int):=if pM (Ab x0)=true/\Ib (Ab x0)=x0 then some (Ab x0)else none
def yL(x0:Δ):Γ Int:=(OT x0).getD []
def xM(x0:Δ):Bool:=(OT x0).isSome
theorem bLv{l:Γ Int}(h:pM l=true):l.length<=60:=by
 unfold pM at h
 lia
def bLw(x0:Δ)(hp:P67 x0):(Q2 x0).length<=1048577:=by
 have hl:=x9 (aA #[43]) (aT 1) 0 (hY x0 (aA #[43])) x0 rfl;have hc:=uZ (aA #[43]) (aT 1) x0.size x0 (aT _);have hp:x0.size<=1048576:=hp;have:(Q2 x0).length=hY x0 (aA #[43])+1:=hl
 lia
def bLx(x0:Δ)(hp:P67 x0):∀w∈Q2 x0,w.size<=1048576:=λw hw=>by
 have hp:x0.size<=1048576:=hp;have:=sG (aA #[43]) 0 _ _ w hw
 lia
def bEz(x0:Δ)(hp:P67 x0):∀(k i:Nat) (h0:Γ Int),i+k=(Q2 x0).length->h0=((Q2 x0).take i).map jR->Zu (k+1) (i:Int) h0 x0 [⟨.sl Jy,yL x0⟩,⟨.bool,xM x0⟩]:=by
 have ew:bJ x0 (aA #[43])=Q2 x0:=rfl;have hl:=bLw x0 hp;have hz:=bLx x0 hp;intro k
 induction k with
 | zero =>
  intro i h0 hi hh;rw[cW (by lia)]at hh;have hh:h0=Ab x0:=hh;subst hh;rw[Zu,ν (by lia)];by_cases c:pM (Ab x0)=true
  ·rw[ν (show ¬(!pM (Ab x0))=true by lia)];refine⟨(λ_=>by grind [bLv]:aSX (Ab x0)),?_⟩;by_cases d:Ib (Ab x0)=x0
   ·have e:OT x0=some (Ab x0):=π ⟨c,d⟩;have e0:yL x0=Ab x0:=by grind [yL]
    have e1:xM x0=true:=by grind [xM]
    lia
   ·have e:OT x0=none:=ν (λh=>d h.2);have e0:yL x0=[]:=by grind [yL]
    have e1:xM x0=false:=by grind [xM]
    rw[e0,e1,π (by grind [bE])]
  ·have e:OT x0=none:=ν (λh=>c h.1);have e0:yL x0=[]:=by grind [yL]
   have e1:xM x0=false:=by grind [xM]
   lia
 | succ k ih =>
  intro i h0 hi hh;have hlt:i<(Q2 x0).length:=by lia
  have e3:(i:Int)+1=((i+1:Nat):Int):=by lia
  have hle:h0.length<=1048577:=by grind
  have hw:=hz _ (bY (Q2 x0) i aC hlt);rw[Zu,ew,π (by lia),aI];refine⟨by lia,by lia,(show ((Q2 x0).getD i aC).size<=281474976710656 from by lia),by lia,by grind [aK],ih (i+1) _ (by lia) ?_⟩;rw[hh,eG,aX hlt,jX (Q2 x0) i aC hlt,iQ]<;>rfl
def bE0(x0:Δ)(hp:P67 x0):∃n,R68 n x0 [⟨.sl Jy,yL x0⟩,⟨.bool,xM x0⟩]:=by
 have hp':x0.size<=1048576:=hp;refine⟨(Q2 x0).length+1+1,?_⟩;rw[R68];exact⟨⟨by omega,aT 1⟩,bEz x0 hp _ 0 [] (by rw[bX]) rfl⟩
def bLy:KK:=mL d68 (DO aHh) P67 (yL,xM,()) (λ⟨x0,_⟩ h hwf K q =>
 let ⟨n,hn⟩:=bE0 x0 h
 (bEy _ K q n).1 hn)
def d19:jB:=D aHi [.v (.str)] [.cons .str (.cons .str (.cons (.sl Jy) (.cons (.sl Jy) .unit))),.bool] [.frz,.own] [aIs,bEh,bEi,bLm,aSR,aSS,aYh,bLy] false []
mutual
def R19:Nat->Δ->Γ aS->Prop
 | 0,_,_=>False
 | n+1,x0,ds=>P17 x0 (aA #[32])/\0<(↑(aF (bJ x0 (aA #[32]))):Int)/\if decide ((↑(aG x0):Int)>400)then ds=[aJ K4 (aC,aC,[],[],()),aJ .bool false] else if !S4 Es (aD (bJ x0 (aA #[32])) 0 aC)then ds=[aJ K4 (aC,aC,[],[],()),aJ .bool false] else if aB (dZ (aD (bJ x0 (aA #[32])) 0 aC))==aB (aA #[116])then P65 x0 (aA #[32])/\ds=[aJ K4 (aD (bJ x0 (aA #[32])) 0 aC,gG x0 (aA #[32]),[],[],()),aJ .bool (LL x0 (aA #[32]))] else bA .i64 ((↑(aG (dZ (aD (bJ x0 (aA #[32])) 0 aC))):Int)+1)/\if(↑(aF (bJ x0 (aA #[32]))):Int) != (↑(aG (dZ (aD (bJ x0 (aA #[32])) 0 aC))):Int)+1 then ds=[aJ K4 (aC,aC,[],[],()),aJ .bool false] else 1<=(↑(aF (bJ x0 (aA #[32]))-0):Int)/\Ic n 0 ([]) ([]) x0 ds
def Ic:Nat->Int->Γ Int->Γ Int->Δ->Γ aS->Prop
 | 0,_,_,_,_,_=>False
 | n+1,v56,h3,h4,x0,ds=>if decide (v56<(↑(0+aE (↑(aF (bJ x0 (aA #[32]))-0):Int)-1):Int))then 0<=v56/\v56<(↑(0+aE (↑(aF (bJ x0 (aA #[32]))-0):Int)-1):Int)/\0<=v56/\v56<(↑(aG (dZ (aD (bJ x0 (aA #[32])) 0 aC))):Int)/\if(↑(UInt8.toNat (aD (cE (bO (dZ (aD (bJ x0 (aA #[32])) 0 aC)))) (aE v56) 0)):Int)==110 then P66 (aD (bJ x0 (aA #[32])) (1+aE v56) aC)/\(aF h3+1)*8<=140737488355328/\if !jS (aD (bJ x0 (aA #[32])) (1+aE v56) aC)then ds=[aJ K4 (aC,aC,[],[],()),aJ .bool false] else bA .i64 (v56+1)/\Ic n (v56+1) (h3++[jR (aD (bJ x0 (aA #[32])) (1+aE v56) aC)]) h4 x0 ds else if(↑(UInt8.toNat (aD (cE (bO (dZ (aD (bJ x0 (aA #[32])) 0 aC)))) (aE v56) 0)):Int)==108 then P67 (aD (bJ x0 (aA #[32])) (1+aE v56) aC)/\if !uR (aD (bJ x0 (aA #[32])) (1+aE v56) aC)then ds=[aJ K4 (aC,aC,[],[],()),aJ .bool false] else bA .i64 (v56+1)/\Ic n (v56+1) h3 (iK (aD (bJ x0 (aA #[32])) (1+aE v56) aC)) x0 ds else P67 (aD (bJ x0 (aA #[32])) (1+aE v56) aC)/\if !xM (aD (bJ x0 (aA #[32])) (1+aE v56) aC)then ds=[aJ K4 (aC,aC,[],[],()),aJ .bool false] else bA .i64 (v56+1)/\Ic n (v56+1) h3 (yL (aD (bJ x0 (aA #[32])) (1+aE v56) aC)) x0 ds else ds=[aJ K4 (aD (bJ x0 (aA #[32])) 0 aC,aC,h3,h4,()),aJ .bool true]
end
def bE1(ds:Γ aS)(K:gU)(q:Nat->Value):∀n,(∀ {x0},R19 n x0 ds->St d19 (x0,()) ds [] K q)/\(∀ {v56 h3 h4 x0},Ic n v56 h3 h4 x0 ds->Cu d19 13 ([eP 2 0 0 K4,eP 5 1 0 K4,eS 6 (dZ (aD (bJ x0 (aA #[32])) 0 aC)),(54,.a (.osl 2 (some (1,0+aE (↑(aF (bJ x0 (aA #[32]))-0):Int))))),eI 55 (↑(0+aE (↑(aF (bJ x0 (aA #[32]))-0):Int)-1):Int),eI 56 v56],[hB_ K4 [KG (hJ aC),KG (hJ aC),KG (Jz none 0 0),KG (Jz none 0 0)],hB_ K4 [KG (hJ (aD (bJ x0 (aA #[32])) 0 aC)),KG (hJ aC),lO_ 3,lO_ 4],cN .str (bJ x0 (aA #[32])),cN (.int .i64) h3,cN (.int .i64) h4]) ds [] K q):=nI ⟨aH,aH⟩ λn ⟨i,i13⟩=>⟨aO<|pq 0<|aO<|bS<|bU (j0 dR)<|bS<|bS<|bU dR<|bU (aO dR)<|aO<|bU dR<|pq 1<|aO<|Dl [(3000005,.int .i64),(4000005,.int .i64)] i13,
  bU (eE<|eE<|bU (aO<|aO<|bU dR<|aO<|Dl [(3000005,.int .i64),(4000005,.int .i64)] i13)<|bU (aO<|bU dR<|aO<|Dl [(3000005,.int .i64),(4000005,.int .i64)] i13)<|aO<|bU dR<|aO<|Dl [(3000005,.int .i64),(4000005,.int .i64)] i13) dR⟩
abbrev C19:=Δ×Δ×Γ Int×Γ Int×Unit
def gH(x0:Δ):Γ Δ:=bJ x0 (aA #[32])
def AM(x0:Δ):Δ:=dZ ((gH x0).getD 0 aC)
def CA(x0:Δ)(i:Nat):Int:=(((AM x0).data.toList.getD i 0).toNat:Int)
def Kw(x0:Δ):Nat->Nat->Γ Int->Γ Int->Option (Γ Int×Γ Int)
 | 0,_,n,l=>some (n,l)
 | k+1,i,n,l =>
  if(CA x0 i==110)=true then
   if jS ((gH x0).getD (1+i) aC)=true then Kw x0 k (i+1) (n++[jR ((gH x0).getD (1+i) aC)]) l else none
  else if(CA x0 i==108)=true then
   if uR ((gH x0).getD (1+i) aC)=true then Kw x0 k (i+1) n (iK ((gH x0).getD (1+i) aC))else none
  else
   if xM ((gH x0).getD (1+i) aC)=true then Kw x0 k (i+1) n (yL ((gH x0).getD (1+i) aC))else none
def aTa:C19×Bool:=((ByteArray.empty,ByteArray.empty,[],[],()),false)
def aFx(x0:Δ):Option (Γ Int×Γ Int)->C19×Bool
 | some (n,l)=>(((gH x0).getD 0 aC,aC,n,l,()),true)
 | none=>aTa
def OU(x0:Δ):C19×Bool :=
 if 400<x0.size then aTa
 else if S4 Es ((gH x0).getD 0 aC)=false then aTa
 else if AM x0=aA #[116] then(((gH x0).getD 0 aC,gG x0 (aA #[32]),[],[],()),LL x0 (aA #[32]))
 else if(gH x0).length=(AM x0).size+1 then aFx x0 (Kw x0 (AM x0).size 0 [] [])
 else aTa
def iE(x0:Δ):C19:=(OU x0).1
def CB(x0:Δ):Bool:=(OU x0).2
def aVV(c:C19×Bool):Γ aS:=[aJ K4 c.1,aJ .bool c.2]
def bE3(w:Δ):(dZ w).size<=5:=by
 have h:∀ {c:Prop} [Decidable c] {a b:Δ},a.size<=5->b.size<=5->(if c then a else b).size<=5:=λha hb=>by split <;> assumption
 unfold dZ
 repeat refine h (oB rfl) ?_
 exact oB rfl
def bL1(x0:Δ)(i:Nat):((gH x0).getD i aC).size<=x0.size:=by
 by_cases c:i<(gH x0).length
 ·exact sG (aA #[32]) 0 _ _ _ (bY (gH x0) i aC c)
 ·rw[bC,iG (by omega)];exact bG _
def bE4(x0:Δ)(hp:P67 x0)(hl:(gH x0).length=(AM x0).size+1):∀(k i:Nat) (n l:Γ Int),i+k=(AM x0).size->n.length<=i->Ic (k+1) (i:Int) n l x0 (aVV (aFx x0 (Kw x0 k i n l))):=by
 have hp:x0.size<=1048576:=hp;have ew:bJ x0 (aA #[32])=gH x0:=rfl;have ek:dZ ((gH x0).getD 0 aC)=AM x0:=rfl;have h5:(AM x0).size<=5:=bE3 _;intro k
 induction k with
 | zero =>
  intro i n l hi hn;rw[Ic,ew,ek,ν (by simp only[ε];omega)]<;>rfl
 | succ k ih =>
  intro i n l hi hn;have e3:(i:Int)+1=((i+1:Nat):Int):=by omega
  have hz:=bL1 x0 (1+i);have e0:(i:Int).toNat=i:=aI i;have ek2:((((AM x0).data.toList.getD i 0).toNat:Nat):Int)=CA x0 i:=rfl;rw[Ic,ew,ek,π (by simp only[ε];omega),e3,e0,ek2,Kw];generalize (gH x0).getD (1+i) aC=w at *;refine⟨by omega,by omega,by omega,by omega,?_⟩;have hr:bA .i64 ((i+1:Nat):Int):=by rw[aK];omega
  by_cases c:(CA x0 i==110)=true
  ·rw[π c,π c];refine⟨show w.size<=281474976710656 by omega,by omega,?_⟩;by_cases d:jS w=true
   ·rw[π d,ν (by rw[d];decide)];exact⟨hr,ih (i+1) _ _ (by omega) (by rw[aU,List.length_singleton];omega)⟩
   ·rw[ν d,π (by rw[Dm d];rfl)]<;>rfl
  ·rw[ν c,ν c];by_cases c2:(CA x0 i==108)=true
   ·rw[π c2,π c2];refine⟨show w.size<=1048576 by omega,?_⟩;by_cases d:uR w=true
    ·rw[π d,ν (by rw[d];decide)];exact⟨hr,ih (i+1) _ _ (by omega) (by omega)⟩
    ·rw[ν d,π (by rw[Dm d];rfl)]<;>rfl
   ·rw[ν c2,ν c2];refine⟨show w.size<=1048576 by omega,?_⟩;by_cases d:xM w=true
    ·rw[π d,ν (by rw[d];decide)];exact⟨hr,ih (i+1) _ _ (by omega) (by omega)⟩
    ·rw[ν d,π (by rw[Dm d];rfl)]<;>rfl
def bE5(x0:Δ)(hp:P67 x0):∃n,R19 n x0 (aVV (OU x0)):=by
 have hp':x0.size<=1048576:=hp;have ew:bJ x0 (aA #[32])=gH x0:=rfl;have ek:dZ ((gH x0).getD 0 aC)=AM x0:=rfl;have h5:(AM x0).size<=5:=bE3 _;have hl:(gH x0).length=hY x0 (aA #[32])+1:=x9 (aA #[32]) (aT 1) 0 (hY x0 (aA #[32])) x0 rfl;have hc:=uZ (aA #[32]) (aT 1) x0.size x0 (aT _);refine⟨(AM x0).size+1+1,?_⟩;unfold OU;rw[R19,ew,ek];refine⟨⟨by omega,aT 1⟩,by omega,?_⟩;by_cases c:400<x0.size
 ·rw[π c,π (by simp only[ε];omega)]<;>rfl
 rw[ν c,ν (by simp only[ε];omega)];by_cases d:S4 Es ((gH x0).getD 0 aC)=false
 ·rw[π d,π (by rw[d];rfl)]<;>rfl
 rw[ν d,ν (by intro h;exact d (by cases hh:S4 Es ((gH x0).getD 0 aC)with | false=>rfl | true=>rw[hh]at h;cases h))];by_cases e:AM x0=aA #[116]
 ·rw[π e,π ((bE _ _).2 e)];exact⟨show x0.size<4294967281 by omega,rfl⟩
 rw[ν e,ν (λh=>e ((bE _ _).1 h))];refine⟨by rw[aK];omega,?_⟩;by_cases f:(gH x0).length=(AM x0).size+1
 ·rw[π f,ν (by rw[f];simp)];exact⟨by omega,bE4 x0 hp f _ 0 [] [] (bX _) (aT _)⟩
 ·rw[ν f,π (by rw[bne_iff_ne];omega)]<;>rfl
def bL2:KK:=mM d19 (DO aHi) (λ⟨x0,_⟩=>P67 x0) (λ_=>[]) (λ⟨x0,_⟩=>[aJ K4 (iE x0),aJ .bool (CB x0)]) (λ⟨x0,_⟩ h hwf K q =>
 let ⟨n,hn⟩:=bE5 x0 h
 (bE1 _ K q n).1 hn)
end
end Go.Proofs.YtgfpjekjhnkbfaaGreatDoor
namespace Go.Am
open Go.RowKit
variable {P:Program} {Q:Exit->Act->World->Prop}
def bE6(w:World){o:Oper}{a:Act}{K:Act->World->Prop}(d s:Operand)(t t':TypeId)
  (ho:o.op = .call { callee := .builtin .copy,args := #[d,s],argTypes := #[t,t'] }) (v u:Value) (hd:a.eval d=v) (hs:a.eval s=u) {v':Value} {w':World}
  (hr:(j7 #[t,t'] o.type #[v,u]).run P w = .ok v' w') (h:K (a.put o.dst v') w'):o.wp P a w K Q:=by
 unfold Oper.wp execOp;simp only[ho,resolve,invoke,builtin,Sem.run_bind,Sem.run_pure,Result.andThen_ok,List.map_toArray,dG,List.map_nil,hd,hs,hr];exact h
def lcp(w:World){ops:Array Oper}{rest:Γ Oper}{o:Oper}{a:Act}(hgd:o.guard=none)(d s:Operand)(t t':TypeId)
  (ho:o.op = .call { callee := .builtin .copy,args := #[d,s],argTypes := #[t,t'] }) (v u:Value) (hd:a.eval d=v) (hs:a.eval s=u) {v':Value} {w':World}
  (hr:(j7 #[t,t'] o.type #[v,u]).run P w = .ok v' w') (h:wpList P ops Q rest (a.put o.dst v') w'):wpList P ops Q (o::rest) a w :=
 wpList_plain hgd λ_ hK=>bE6 w d s t t' ho v u hd hs hr (hK _ _ h)
def scp{ops:Array Oper}{o:Oper}{a:Act}{w:World}{K:Act->World->Prop}{E:Prop}
  (hg:o.guard=none) (d x:Operand) (dT sT:TypeId) (hop:o.op=Op.call { callee:=Callee.builtin Builtin.copy,args := #[d,x],argTypes := #[dT,sT] })
  (v u:Value) (hd:a.eval d=v) (hx:a.eval x=u) {v':Value} {w':World} (hr:(j7 #[dT,sT] o.type #[v,u]).run P w = .ok v' w') (hK:K (a.put o.dst v') w') :
  if Region.wanted o (yielded ops a.tmps)=true then Oper.wp P o a w K Q else E:=by
 have hw:Region.wanted o (yielded ops a.tmps)=true:=by simp[Region.wanted,hg]
 rw[π hw];exact bE6 w d x dT sT hop v u hd hx hr hK
structure OV (P:Program) (t:Ty) (s e ov:Nat) (k:Nat):Prop where
 flat:t.flat=true
 sz:t.size=k
 pos:0<k
 one:k≠1
 und:P.underlying s=some (.slice e)
 int:P.underlying 3=some (.int .i64)
 info:∃i0 z,P.info? e=some i0/\i0.size=k/\i0.zero=some z/\z.cells=(fD t).toArray/\i0.bytes*1048577<=140737488355328
 ovl : ∃ fn, P.funcs[ov]? = some fn /\ (fn.name == "runtime.NumGoroutine") = false /\ fn.body.isNone = true /\ Extern.findNext fn = none /\ Extern.find fn = some (z7 #[s, s] #[4])
theorem OV.of{t:Ty}{s e ov k:Nat}{bt:Nat}(h:Ho P s (.slice e t bt))(hf:t.flat=true)(hs:t.size=k)(hp:0<k)(h1:k≠1)(hb:bt*1048577<=140737488355328)(h3:P.underlying 3=some (.int .i64))
  {fn : Func} (f1 : P.funcs[ov]? = some fn) (f2 : (fn.name == "runtime.NumGoroutine") = false) (f3 : fn.body.isNone = true) (f4 : Extern.findNext fn = none) (f5 : Extern.find fn = some (z7 #[s, s] #[4])) : OV P t s e ov k := by
 obtain⟨_,hu,⟨_,⟨i0,hi0,hz1,z,hz0,hzs,hzv⟩⟩,hby⟩:=h;rw[hi0]at hby
 simp only[Option.map_some,Option.some.injEq]at hby
 exact⟨hf,hs,hp,h1,hu,h3,⟨i0,z,hi0,by rw[hz1,hs],hz0,Array.toList_inj.1 (by rw[hzs]),by rw[hby];exact hb⟩,⟨fn,f1,f2,f3,f4,f5⟩⟩
def aI2(P:Program)(n:FuncId)(s e k:Nat):Prop:=∀(w:World) (m b off cap vb voff vcap:Nat) (i0:TypeInfo) (vs:Γ Value),P.underlying s=some (.slice e)->P.info? e=some i0->i0.size=k->cap<=maxLen->m+1<=cap->Src P i0.size s (.slice (some ⟨vb,voff,none⟩) 1 vcap) 1 vs w ->
  Aside (∀j,j<vs.length->(w.cell? ⟨b,off+m*i0.size+j,none⟩).isSome=true)->Aside (∀j,j<vs.length->w.frozen? ⟨b,off+m*i0.size+j,none⟩=false) ->
  Calls P n #[.slice (some ⟨b,off,none⟩) m cap,.int .i64 m,.slice (some ⟨vb,voff,none⟩) 1 vcap] w λr w'=>r = .returned (.slice (some ⟨b,off,none⟩) (m+1) cap)/\∃q,w'=(w.drewN q).setCells b (off+m*k) vs
def VV(P:Program)(n:FuncId)(s e:Nat):Prop:=∀(w:World) (m:Nat) (ad:Option Addr) (cap vb voff vcap G:Nat) (ROW:Array Value),(ad=none->m=0)->m<=cap->cap<m+1->m<=1048576->m+1<=G->G<=maxLen ->
  (∀ty,(gN #[s,s] ty #[.slice ad m cap,.slice (some ⟨vb,voff,none⟩) 1 vcap]).run P w = .ok (.slice (some ⟨w.heap.size,0,none⟩) (m+1) G) (w.drew.alloc (.cells ROW e))) ->
  Calls P n #[.slice ad m cap,.int .i64 m,.slice (some ⟨vb,voff,none⟩) 1 vcap] w λr w'=>r = .returned (.slice (some ⟨w.heap.size,0,none⟩) (m+1) G)/\w'=w.drew.alloc (.cells ROW e)
def MO(P:Program)(n:FuncId)(s ov k:Nat):Prop:=∀(w:World) (m b off cap vb voff vcap i:Nat) (vs ds:Γ Value) (W1:World),i<m->m+1<=cap->cap<=maxLen->Aside (W1=w.drew.setCells b (off+(i+1)*k) ds) ->
  (∀lb cb,(callFunc ov #[.slice (some ⟨vb,voff,none⟩) 1 vcap,.slice (some ⟨b,off+(i+1)*k,none⟩) lb cb]).run P w = .ok (.value (.bool false)) w) ->
  (∀ty dc sc,(j7 #[s,s] ty #[.slice (some ⟨b,off+(i+1)*k,none⟩) (m-i) dc,.slice (some ⟨b,off+i*k,none⟩) (m+1-i) sc]).run P w.drew = .ok (goInt (Gw (m+1-i) (m-i))) W1) ->
  (∀(W:World),(∀x,W.cell? x=W1.cell? x)->(∀x,W.frozen? x=W1.frozen? x)->∀ty dc,(j7 #[s,s] ty #[.slice (some ⟨b,off+i*k,none⟩) (m+1-i) dc,.slice (some ⟨vb,voff,none⟩) 1 vcap]).run P W = .ok (goInt (Gw 1 (m+1-i))) (W.setCells b (off+i*k) vs)) ->
  Calls P n #[.slice (some ⟨b,off,none⟩) m cap,.int .i64 i,.slice (some ⟨vb,voff,none⟩) 1 vcap] w λr w'=>r = .returned (.slice (some ⟨b,off,none⟩) (m+1) cap)/\∃q,w'=((w.drewN q).setCells b (off+(i+1)*k) ds).setCells b (off+i*k) vs
def VW(P:Program)(n:FuncId)(s e k:Nat):Prop:=∀(w:World) (m b off cap vb voff vcap i:Nat) (vs ds:Γ Value) (ROW:Array Value) (G:Nat),i<m->cap<m+1->m<=cap->cap<=maxLen->m+1<=G->G<=maxLen ->
  (∀ty,(gN #[s,3] ty #[.slice (some ⟨b,off,none⟩) i cap,.int .i64 ((m:Int)+1-(i:Int))]).run P w = .ok (.slice (some ⟨w.heap.size,0,none⟩) (m+1) G) (w.drew.alloc (.cells ROW e))) ->
  (∀ty dc,(j7 #[s,s] ty #[.slice (some ⟨w.heap.size,i*k,none⟩) (m+1-i) dc,.slice (some ⟨vb,voff,none⟩) 1 vcap]).run P (w.alloc (.cells ROW e)).drew = .ok (goInt (Gw 1 (m+1-i))) ((w.alloc (.cells ROW e)).drew.setCells w.heap.size (i*k) vs)) ->
  (∀ty dc sc,(j7 #[s,s] ty #[.slice (some ⟨w.heap.size,(i+1)*k,none⟩) (m-i) dc,.slice (some ⟨b,off+i*k,none⟩) (m-i) sc]).run P ((w.alloc (.cells ROW e)).drew.setCells w.heap.size (i*k) vs).drew = .ok (goInt (Gw (m-i) (m-i))) (((w.alloc (.cells ROW e)).drew.setCells w.heap.size (i*k) vs).drew.setCells w.heap.size ((i+1)*k) ds)) ->
  Calls P n #[.slice (some ⟨b,off,none⟩) m cap,.int .i64 i,.slice (some ⟨vb,voff,none⟩) 1 vcap] w λr w'=>r = .returned (.slice (some ⟨w.heap.size,0,none⟩) (m+1) G)/\w'=((w.alloc (.cells ROW e)).drew.setCells w.heap.size (i*k) vs).drew.setCells w.heap.size ((i+1)*k) ds
section
variable {P:Program} {t:Ty} {s e ov k:Nat} (I:OV P t s e ov k) {w:World} {xs ys:Γ t.den} {b off cap:Nat} {cur:Array Value} {ty:TypeId} {fz:Nat×Nat} {vb voff vcap:Nat} {vcur:Array Value} {vty:TypeId} {vfz:Nat×Nat}
include I
theorem Tn(hB:yJ w t ys vb voff vcap vcur vty vfz)(h1:ys.length=1):(rA t ys).length=1*t.size/\(∀(j:Nat) (u:Value),(rA t ys)[j]? = some u->w.cell? ⟨vb,voff+j,none⟩=some u)/\(∀u∈rA t ys,u.oneCell'=true) /\
  Src P t.size s (.slice (some ⟨vb,voff,none⟩) 1 vcap) 1 (rA t ys) w:=by
 have hl:(rA t ys).length=1*t.size:=by rw[nT I.flat hB.wf,h1]
 have hc:=hB.cell;have ho:∀u∈rA t ys,u.oneCell'=true:=I6 I.flat _;exact⟨hl,hc,ho,Src.ofSlice w I.und ⟨vb,voff,none⟩ 1 vcap _ hl (λj u hj=>by rw[gB];exact hc j u hj) ho⟩
variable {n:FuncId}
theorem aTb(H:aI2 P n s e k):bDI P n t:=by
 intro w xs ys b off cap cur ty fz vb voff vcap vcur vty vfz hA hB h1 _ hroom;obtain⟨i0,z,hi0,hz1, -⟩:=I.info;have hk:=I.sz;subst hk;obtain⟨hl,hc,ho,hs⟩:=Tn I hB h1;have hle:(xs.length+1)*t.size<=cap*t.size:=cV _ hroom;rw[xX]at hle;refine H w xs.length b off cap vb voff vcap i0 _ I.und hi0 hz1 hA.capm hroom (by rw[hz1];exact hs) (λj hj=>?_) (λj hj=>?_)
 ·rw[hz1,fY];exact hA.some' _ (by omega)
 ·rw[hz1,fY];exact hA.unfrozen _ (by omega)
theorem aPg(H:VV P n s e):aVC P n t e:=by
 intro w xs ys ad cap vb voff vcap vcur vty vfz hw hlen hnil hcs hB h1 hroom hmax;obtain⟨i0,z,hi0,hz1,hz0,hzc,hb⟩:=I.info;have hk:=I.sz;subst hk;obtain⟨hvl,hvc,s2,hsrc⟩:=Tn I hB h1;have hcl:(rA t xs).length=xs.length*t.size:=nT I.flat hw;rw[sH];obtain⟨vs,hvs⟩:∃vs,vs=rA t ys:=⟨_,rfl⟩;obtain⟨cs,hcss⟩:∃cs,cs=rA t xs:=⟨_,rfl⟩;rw[<- hvs]at hvl hsrc;rw[<- hcss]at hcl hcs;rw[<- hvs, <- hcss];have hold:(eA i0.size xs.length (.slice ad xs.length cap)).run P w.drew = .ok cs.toArray w.drew:=by
  rw[hz1];cases ad with
  | none =>
   have h0:=hnil rfl;subst h0;rw[List.length_eq_zero_iff.1 (show cs.length=0 by rw[hcl];simp)];exact run_firstCells_none w.drew t.size 0 0 cap
  | some a=>exact run_firstCells_some w.drew t.size xs.length a xs.length cap cs hcl (λj v hj=>hcs a rfl j v hj)
 have hbig:(xs.length+1)*i0.bytes<=140737488355328:=by
  have:(xs.length+1)*i0.bytes<=1048577*i0.bytes:=cV _ (by omega);rw[HH 1048577]at this;omega
 have hrun:=λty=>run_append_grow_src w s s ty e i0 z I.und hi0 hz0 ad xs.length cap cs hold _ 1 vs (by rw[hz1];exact hsrc) hroom (by omega) (growslice_fits hroom hbig);have hge:=grownCap_ge w (xs.length+1) cap e;have hgm:=grownCap_le_maxLen w (xs.length+1) cap e (by unfold maxLen;omega);refine(H w xs.length ad cap vb voff vcap _ _ (λh=>by rw[hnil h];rfl) hlen hroom hmax hge hgm hrun).mono ?_;rintro _ _ ⟨rfl,rfl⟩;refine⟨_,rfl,?_⟩;generalize grownCap w (xs.length+1) cap e=G at hge hgm;have el:(cs++vs).length=(xs.length+1)*t.size:=by rw[aU,hcl,hvl,gE]
 refine⟨⟨el,.inr ⟨w.heap.size,G,_,rfl,aT _,heap_alloc_new w.drew _,hge,hgm,?_,?_⟩⟩,((N4 w.heap.size w).drew).alloc (aT _) _⟩
 ·have hz:(gT z.cells (G-(xs.length+1))).size=(G-(xs.length+1))*t.size:=by
   rw[<- eN,hzc,SZ];simp[(jD default (Good default []) t).length]
  rw[rS,eH,el,hz, <- gE];congr 1;omega
 ·rw[Array.toList_append];have:((cs++vs).toArray.toList++(gT z.cells (G-(xs.length+1))).toList).take ((cs++vs).length)=cs++vs:=List.take_left;rw[el]at this;exact this
theorem aMz(H:MO P n s ov k):aOP P n t:=by
 intro w xs ys b off cap cur ty fz vb voff vcap vcur vty vfz i hA hB h1 hvb hi hroom;obtain⟨i0,z,hi0,hz1,hz0,hzc,hb⟩:=I.info;have hk:=I.sz;subst hk;have hzm:(P.info? e).map (·.size)=some t.size:=by rw[hi0];exact congrArg some hz1
 obtain⟨hvl,hvc,s2, -⟩:=Tn I hB h1;have hdl:(rA t (xs.drop i)).length=(xs.length-i)*t.size:=by
  rw[nT I.flat (λx hx=>hA.wf x (iN hx)),gQ]
 have hdc:∀(k:Nat) (u:Value),(rA t (xs.drop i))[k]? = some u->w.cell? ⟨b,off+i*t.size+k,none⟩=some u:=λk u hk=>by
  have:=hA.cell _ _ (aFq I.flat hA.wf i (by omega) k u hk)
  rwa [fY]
 have s1:∀u∈rA t (xs.drop i),u.oneCell'=true:=I6 I.flat _;generalize rA t ys=vs at *;generalize rA t (xs.drop i)=ds at *;have A0:∀k,k<cap*t.size->(w.cell? ⟨b,off+k,none⟩).isSome=true/\w.frozen? ⟨b,off+k,none⟩=false:=λk hk=>⟨hA.some' k hk,hA.unfrozen k hk⟩;have hle:(xs.length+1)*t.size<=cap*t.size:=cV _ hroom;rw[xX]at hle;have e2:(i+1)*t.size=i*t.size+t.size:=xX _ _;have e1:i*t.size+(xs.length-i)*t.size=xs.length*t.size:=by rw[<- gE];congr 1;omega
 have e3:t.size<=(xs.length-i)*t.size:=Nat.le_mul_of_pos_left _ (by omega);have hc0:0<cap*t.size:=aHk (by omega) I.pos;have hv0:0<vcap*t.size:=aHk (by have:=hB.len;omega) I.pos;have hov:∀lb cb,(callFunc ov #[.slice (some ⟨vb,voff,none⟩) 1 vcap,.slice (some ⟨b,off+(i+1)*t.size,none⟩) lb cb]).run P w = .ok (.value (.bool false)) w:=λlb cb=>by
  obtain⟨fn,f1,f2,f3,f4,f5⟩:=I.ovl;have hfe:w.frozen? ⟨vb,vcur.size,none⟩=false:=by
   have h2:=(hB.free.2.resolve_left I.one) vcur.size (by omega);simp only[E2, hB.blk];rw[cG];intro hh;simp only[Bool.and_eq_true,ε]at hh;exact h2 hh
  rw[run_callFunc_extern f1 f2 f3 f4 f5,
   Lib.run_overlaps_apart w s 4 e I.und t.size (λw=>by simp[Go.sizeOf,typeInfo,hi0,hz1]) ⟨vb,voff,none⟩ ⟨b,off+(i+1)*t.size,none⟩ 1 vcap lb cb hvb vty ty vcur.size cur.size (by simp only[BU, hB.blk]) (by simp only[BU, hA.blk]) (by have:=hA.fit;omega) (hB.unfrozen 0 hv0) hfe]
  rfl
 refine H w xs.length b off cap vb voff vcap i vs ds _ hi hroom hA.capm rfl hov (λty dc sc=>?_) (λW hWc hWf ty dc=>?_)
 ·exact Fo w.drew _ _ ty e t.size b (off+(i+1)*t.size) (xs.length-i) dc ⟨b,off+i*t.size,none⟩ (xs.length+1-i) sc ds I.und hzm (by rw[hdl];congr 1;simp only[KH];split <;> omega)
   (λj v hj=>by rw[gB];exact hdc j v hj)
   (λj hj=>by rw[fY];exact(A0 _ (by omega)).1) (λj hj=>by rw[fY];exact(A0 _ (by omega)).2) s1
 ·exact Fo W _ _ ty e t.size b (off+i*t.size) (xs.length+1-i) dc ⟨vb,voff,none⟩ 1 vcap vs I.und hzm (by rw[hvl];congr 1;simp only[KH];split <;> omega)
   (λj v hj=>by
    rw[gB,hWc,E9 b _ _ _ _ (λh _=>absurd h hvb)];exact hvc j v hj)
   (λj hj=>by rw[hWc];exact MD _ _ _ _ _ (by rw[fY];exact(A0 _ (by omega)).1)) (λj hj=>by rw[hWf,HI,fY];exact(A0 _ (by omega)).2) s2
theorem aPh(H:VW P n s e k):aVB P n t e:=by
 intro w xs ys b off cap cur ty fz vb voff vcap vcur vty vfz i hA hB h1 hvb hi hroom hmax;obtain⟨i0,z,hi0,hz1,hz0,hzc,hb⟩:=I.info;have hk:=I.sz;subst hk;have hzm:(P.info? e).map (·.size)=some t.size:=by rw[hi0];exact congrArg some hz1
 obtain⟨hvl,hvc,s2, -⟩:=Tn I hB h1;have hdl:(rA t (xs.drop i)).length=(xs.length-i)*t.size:=by
  rw[nT I.flat (λx hx=>hA.wf x (iN hx)),gQ]
 have htl:(rA t (xs.take i)).length=i*t.size:=by
  rw[nT I.flat (λx hx=>hA.wf x (List.mem_of_mem_take hx)),bW,Nat.min_eq_left (by omega)]
 have hdc:∀(k:Nat) (u:Value),(rA t (xs.drop i))[k]? = some u->w.cell? ⟨b,off+i*t.size+k,none⟩=some u:=λk u hk=>by
  have:=hA.cell _ _ (aFq I.flat hA.wf i (by omega) k u hk)
  rwa [fY]
 have htc:∀(k:Nat) (u:Value),(rA t (xs.take i))[k]? = some u->w.cell? ⟨b,off+k,none⟩=some u:=λk u hk=>hA.cell _ _ (aFr I.flat hA.wf i k u hk);have hbw:=hA.lt;have hvw:=hB.lt;have s1:∀u∈rA t (xs.drop i),u.oneCell'=true:=I6 I.flat _;rw[sH,sH];generalize rA t ys=vs at *;generalize rA t (xs.drop i)=ds at *;generalize rA t (xs.take i)=ts at *;have hbig:(xs.length+1)*i0.bytes<=140737488355328:=by
  have:(xs.length+1)*i0.bytes<=1048577*i0.bytes:=cV _ (by omega);rw[HH 1048577]at this;omega
 have hkk:(xs.length:Int)+1-(i:Int)=((xs.length+1-i:Nat):Int):=by omega
 have hik:i+(xs.length+1-i)=xs.length+1:=by omega
 have hold:(eA i0.size i (.slice (some ⟨b,off,none⟩) i cap)).run P w.drew = .ok ts.toArray w.drew:=by
  rw[hz1];exact run_firstCells_some w.drew t.size i ⟨b,off,none⟩ i cap ts htl (λj v hj=>by rw[gB];exact htc j v hj)
 have h48:(xs.length+1-i)*i0.bytes<=281474976710656:=by
  have:(xs.length+1-i)*i0.bytes<=(xs.length+1)*i0.bytes:=cV _ (by omega);omega
 have hrz:∀ty,(gN #[s,3] ty #[.slice (some ⟨b,off,none⟩) i cap,.int .i64 ((xs.length:Int)+1-(i:Int))]).run P w =
   .ok (.slice (some ⟨w.heap.size,0,none⟩) (xs.length+1) (grownCap w (xs.length+1) cap e)) (w.drew.alloc (.cells (ts.toArray++gT z.cells (xs.length+1-i)++gT z.cells (grownCap w (xs.length+1) cap e-(xs.length+1))) e)):=λty=>by
  have h:=Lib.run_append_grow_zeros w s 3 ty e i0 z .i64 .i64 I.und I.int hi0 hz0 (some ⟨b,off,none⟩) i cap ts hold (xs.length+1-i) (by omega) (by rw[hz1];exact I.pos) (by omega) (by omega) h48 (by rw[hik];exact growslice_fits hroom hbig);rw[hik]at h;rw[hkk];exact h
 have hge:=grownCap_ge w (xs.length+1) cap e;have hgm:=grownCap_le_maxLen w (xs.length+1) cap e (by unfold maxLen;omega);obtain⟨G,hG⟩:∃G,G=grownCap w (xs.length+1) cap e:=⟨_,rfl⟩;rw[<- hG]at hrz hge hgm;obtain⟨ROW,hROW⟩:∃ROW:Array Value,ROW=ts.toArray++gT z.cells (xs.length+1-i)++gT z.cells (G-(xs.length+1)):=⟨_,rfl⟩;rw[<- hROW]at hrz;have hzs:∀k,(gT z.cells k).size=k*t.size:=λk=>by
  rw[<- eN,hzc,SZ];simp[(jD default (Good default []) t).length]
 have hRs:ROW.size=G*t.size:=by
  rw[hROW,rS,rS,eH,htl,hzs,hzs, <- gE,hik, <- gE]
  congr 1;omega
 have hRt:∀(k:Nat) (u:Value),ts[k]? = some u->ROW[k]? = some u:=λk u hk=>by
  have hlt:=(List.getElem?_eq_some_iff.1 hk).1;rw[hROW,Array.append_assoc,Array.getElem?_append_left (by simpa using hlt)];simpa using hk
 have hmul:(xs.length+1)*t.size<=G*t.size:=cV _ hge;obtain⟨W1,hW1⟩:∃W1,W1=w.drew.alloc (.cells ROW e):=⟨_,rfl⟩;have hblk:W1.heap[w.heap.size]? = some (.cells ROW e (0,0)):=by rw[hW1];exact heap_alloc_new w.drew _
 have hN:∀j,j<G*t.size->(W1.cell? ⟨w.heap.size,j,none⟩).isSome=true:=λj hj=>by
  simp only[gW, hblk];rw[Array.getElem?_eq_getElem (by omega)];rfl
 have hNf:∀j,W1.frozen? ⟨w.heap.size,j,none⟩=false:=λj=>by
  simp only[E2, hblk];simp
 have hOld:∀k,k<w.heap.size->W1.heap[k]? = w.heap[k]? := λk hk=>by rw[hW1];exact heap_alloc_old w.drew _ hk
 have hO:∀b,b<w.heap.size->∀j v,w.cell? ⟨b,j,none⟩=some v->W1.cell? ⟨b,j,none⟩=some v:=λb hb j v h=>by simp only[gW]at h ⊢;rw[hOld b hb];exact h
 have hbN:b≠w.heap.size:=by omega
 have e2:(i+1)*t.size=i*t.size+t.size:=xX _ _;have e1:(i+1)*t.size+(xs.length-i)*t.size=(xs.length+1)*t.size:=by rw[<- gE];congr 1;omega
 have cA:∀(W:World),(∀x,W.cell? x=W1.cell? x)->(∀x,W.frozen? x=W1.frozen? x)->∀ty dc,(j7 #[s,s] ty #[.slice (some ⟨w.heap.size,i*t.size,none⟩) (xs.length+1-i) dc,.slice (some ⟨vb,voff,none⟩) 1 vcap]).run P W = .ok (goInt (Gw 1 (xs.length+1-i))) (W.setCells w.heap.size (i*t.size) vs):=λW hWc hWf ty dc =>
  Fo W _ _ ty e t.size w.heap.size (i*t.size) (xs.length+1-i) dc ⟨vb,voff,none⟩ 1 vcap vs I.und hzm (by rw[hvl];congr 1;simp only[KH];split <;> omega)
   (λj v hj=>by rw[gB,hWc];exact hO _ hvw _ v (hvc j v hj))
   (λj hj=>by rw[hWc];exact hN _ (by omega)) (λj hj=>by rw[hWf];exact hNf _) s2
 have cB:∀(W:World),(∀x,W.cell? x=(W1.setCells w.heap.size (i*t.size) vs).cell? x)->(∀x,W.frozen? x=(W1.setCells w.heap.size (i*t.size) vs).frozen? x)->∀ty dc sc,(j7 #[s,s] ty #[.slice (some ⟨w.heap.size,(i+1)*t.size,none⟩) (xs.length-i) dc,.slice (some ⟨b,off+i*t.size,none⟩) (xs.length-i) sc]).run P W = .ok (goInt (Gw (xs.length-i) (xs.length-i))) (W.setCells w.heap.size ((i+1)*t.size) ds):=λW hWc hWf ty dc sc =>
  Fo W _ _ ty e t.size w.heap.size ((i+1)*t.size) (xs.length-i) dc ⟨b,off+i*t.size,none⟩ (xs.length-i) sc ds I.und hzm (by rw[hdl];congr 1;simp only[KH];split <;> omega)
   (λj v hj=>by
    rw[gB,hWc,E9 _ _ _ _ _ (λh _=>absurd h hbN)];exact hO _ hbw _ v (hdc j v hj))
   (λj hj=>by rw[hWc];exact MD _ _ _ _ _ (hN _ (by omega)))
   (λj hj=>by rw[hWf,HI];exact hNf _) s1
 have fin:∀q1 q2:Nat,(((W1.drewN q1).setCells w.heap.size (i*t.size) vs).drewN q2 |>.setCells w.heap.size ((i+1)*t.size) ds).ownsRow w.heap.size e t.size (.slice (some ⟨w.heap.size,0,none⟩) (xs.length+1) G) (xs.length+1) (ts++(vs++ds)) /\
   Below w.heap.size w (((W1.drewN q1).setCells w.heap.size (i*t.size) vs).drewN q2 |>.setCells w.heap.size ((i+1)*t.size) ds):=λq1 q2=>by
  have el:(ts++(vs++ds)).length=(xs.length+1)*t.size:=by
   rw[aU,aU,htl,hvl,hdl, <- gE, <- gE];congr 1;omega
  have l1:i*t.size+vs.length<=ROW.size:=by rw[hvl,hRs];omega
  obtain⟨c1,g1,g2,g3,g4,g5,g6⟩:=nU vs (show (W1.drewN q1).heap[w.heap.size]? = some (.cells ROW e (0,0))from hblk) l1;have l2:(i+1)*t.size+ds.length<=c1.size:=by rw[hdl,g2,hRs];omega
  have g1':(((W1.drewN q1).setCells w.heap.size (i*t.size) vs).drewN q2).heap[w.heap.size]? = some (.cells c1 e (0,0)):=g1;obtain⟨c2,k1,k2,k3,k4,k5,k6⟩:=nU ds g1' l2;have kA:=uO vs (show (W1.drewN q1).heap[w.heap.size]? = some (.cells ROW e (0,0))from hblk) l1;have kB:=uO ds g1' l2;have kAll:cQ [w.heap.size] w (((W1.drewN q1).setCells w.heap.size (i*t.size) vs).drewN q2 |>.setCells w.heap.size ((i+1)*t.size) ds):=by
   have k0:cQ [w.heap.size] w W1:=by rw[hW1];exact((dD _ w).drew).alloc _
   have k1:∀(W:World) q,cQ [w.heap.size] W (W.drewN q):=λ_ _=>⟨rfl,rfl,rfl,aT _,λ_ _ _=>rfl⟩;exact((k0.trans (k1 _ _)).trans (kA.trans (k1 _ _))).trans kB
  refine⟨⟨el,.inr ⟨w.heap.size,G,c2,rfl,aT _,k1,hge,hgm,by rw[k2,g2,hRs],?_⟩⟩,⟨kAll.os,kAll.tape,kAll.output,kAll.size,λk hk=>kAll.block k hk (by simp;omega)⟩⟩;apply List.ext_getElem?;intro k;rw[List.getElem?_take];by_cases hk:k<(xs.length+1)*t.size
  ·rw[π hk,eF];have hk':k<(ts++(vs++ds)).length:=by rw[el];exact hk
   obtain⟨u,hu⟩:∃u,(ts++(vs++ds))[k]? = some u:=⟨_,aX hk'⟩;rw[hu];by_cases h1:k<i*t.size
   ·rw[b7 (by omega)]at hu;rw[k4 _ (.inl (by omega)),g4 _ (.inl (by omega))];exact hRt k u hu
   ·rw[cO (by omega),htl]at hu;by_cases h2:k<i*t.size+t.size
    ·rw[b7 (by omega)]at hu;have:=g3 _ u hu;rw[k4 _ (.inl (by omega))]
     rwa [show i*t.size+(k-i*t.size)=k by omega]at this
    ·rw[cO (by omega),hvl]at hu;have:=k3 _ u hu
     rwa [show (i+1)*t.size+(k-i*t.size-1*t.size)=k by omega]at this
  ·rw[ν hk,iG (by rw[el];omega)]
 subst hW1;refine(H w xs.length b off cap vb voff vcap i vs ds ROW G hi hroom hA.len hA.capm hge hgm hrz (cA _ (λ_=>rfl) (λ_=>rfl)) (cB _ (λ_=>rfl) (λ_=>rfl))).mono ?_;rintro _ _ ⟨rfl,rfl⟩;exact⟨_,rfl,fin 0 1⟩
def OV.contract(h1:MO P n s ov k)(h2:VW P n s e k)(h3:aI2 P n s e k)(h4:VV P n s e):j9 P n (VH t) :=
 T0 I.flat (aMz I h1) (aPh I h2) (aTb I h3) (aPg I h4)
end
def Ym(P:Program)(n:FuncId)(s:Nat):Prop:=∀w:World,(∀(w:World) (a:Option Addr) (n c n' c':Nat),(binOp .eql s (.slice a n c) (.slice none n' c')).run P w = .ok (.bool a.isNone) w)->Calls P n #[.slice none 0 0] w λe w'=>e = .returned (.slice none 0 0)/\w'=w
def LN(P:Program)(f:FuncId)(s e k:Nat):Prop:=∀(w:World) (a:Addr) (n c:Nat) (news:Γ Value) (i0:TypeInfo) (z:Value),(∀(w:World) (a:Option Addr) (n c n' c':Nat),(binOp .eql s (.slice a n c) (.slice none n' c')).run P w = .ok (.bool a.isNone) w) ->
  P.underlying s=some (.slice e)->P.info? e=some i0->i0.zero=some z->i0.size=k->z.cells.size=k->0<k->news.length=n*k->Aside (∀(j:Nat) (u:Value),news[j]? = some u->w.cell? (a.add j)=some u)->(∀u∈news,u.oneCell'=true)->0+n<=maxLen->(0+n)*i0.bytes<=140737488355328 ->
  Calls P f #[.slice (some a) n c] w λr w'=>∃v',r = .returned v'/\w'.ownsRow w.heap.size e k v' n news/\Below w.heap.size w w'
theorem qN{P:Program}{f:FuncId}{t:Ty}{s e k bt:Nat}(h:Ho P s (.slice e t bt))(hf:t.flat=true)(hs:t.size=k)(hp:0<k)(hb:1048576*bt<=140737488355328)(h1:Ym P f s)(h2:LN P f s e k):j9 P f (Zs t):=by
 subst hs;obtain⟨_,hu,⟨_,⟨i0,hi0,hz1,z,hz0,hzs,_⟩⟩,hby⟩:=h;rw[hi0]at hby
 simp only[Option.map_some,Option.some.injEq]at hby
 have q:∀(w:World) (a:Option Addr) (n c n' c':Nat),(binOp .eql s (.slice a n c) (.slice none n' c')).run P w = .ok (.bool a.isNone) w:=λw a n c n' c'=>Lib.run_eql_slice_nil w _ _ a n c n' c' hu;refine VG (e:=e) hf (λw=>h1 w q) λw a n c news hl hn hc ho=>h2 w a n c news i0 z q hu hi0 hz0 hz1 (by rw[<- eN,hzs,(jD default (Good default []) t).length]) hp hl hc ho (by unfold maxLen;omega) ?_;rw[hby,bX];exact dV (cV _ hn) hb
end Go.Am
set_option maxRecDepth 100000
namespace Go.Proofs.YtgfpjekjhnkbfaaGreatDoor
open Go Go.Am Go.Proofs
set_option maxHeartbeats 4000000 in
def xN:Ym aL 69 27 /\ Ym aL 70 30 /\ Ym aL 71 31 /\ Ym aL 72 36 /\ Ym aL 73 39 /\ Ym aL 74 40 /\ Ym aL 75 41 /\ Ym aL 76 42 /\ Ym aL 426 66:=by
  refine⟨?_, ?_, ?_, ?_, ?_, ?_, ?_, ?_, ?_⟩ <;>
  (intro w q22
   have mixed:=mixed
   first | go_enter TK, aDa | go_enter TL, aDb | go_enter TM, aDc | go_enter TN, aDd | go_enter TO, aDe | go_enter TP, aDf | go_enter TQ, aDg | go_enter TR, aDh | go_enter Pd, ZN
   go_wp2
   go_ret
   exact⟨rfl, rfl⟩)
set_option maxHeartbeats 4000000 in
def tI:LN aL 69 27 86 4 /\ LN aL 70 30 94 3 /\ LN aL 71 31 137 3 /\ LN aL 72 36 100 3 /\ LN aL 73 39 141 4 /\ LN aL 74 40 144 3 /\ LN aL 75 41 147 3 /\ LN aL 76 42 150 3 /\ LN aL 426 66 2 1:=by
  refine⟨?_, ?_, ?_, ?_, ?_, ?_, ?_, ?_, ?_⟩ <;>
  (intro w a n c news i0 z q22 hu hi0 hz0 hz1 hzs hp hl A h1 hn hb
   have mixed:=mixed
   first | go_enter TK, aDa | go_enter TL, aDb | go_enter TM, aDc | go_enter TN, aDd | go_enter TO, aDe | go_enter TP, aDf | go_enter TQ, aDg | go_enter TR, aDh | go_enter Pd, ZN
   go_wp2_with (at_builtin; refine wpList_append_own _ rfl _ _ _ rfl w.heap.size _ i0 z _ i0.bytes hu hi0 hz0 hz1 rfl hzs hp _ _ _ rfl (World.ownsRow_made w #[] 0 (aT _) (bG _) (by simp)) a n c news rfl hl (λj u hj=>Lib.cell?_alloc_some _ (A j u hj)) h1 hn hb (by simp) ?_)
   intro v' w1 hown hgrow hnil
   go_wp2
   go_ret
   exact⟨v', rfl, by simpa using hown, ((N4 _ w).alloc (aT _) _).grown hgrow (by simp) (by intro k hk; simp[Value.ownBlock]at hk; omega)⟩)
def bE7:Γ AT:=[nM (rX fQ)]
def Zv(x0:Γ eR):Γ eR:=x0
def P69(x0:Γ eR):Prop:=x0.length<=1048576
def S69:Am.Spec:={ sig:=bE7,pre:=λ⟨x0,_⟩=>P69 x0,res:=λ⟨x0,_⟩=>[⟨rX fQ,Zv x0⟩] }
def bE8:S0 69 S69:=AJ TK<|qN (xE 27) rfl rfl (by decide) (by decide) xN.1 tI.1
def bE9:KK:=⟨69,S69,bE8⟩
def bEA:Γ AT:=[nM (rX dX)]
def aFy(x0:Γ c7):Γ c7:=x0
def P70(x0:Γ c7):Prop:=x0.length<=1048576
def S70:Am.Spec:={ sig:=bEA,pre:=λ⟨x0,_⟩=>P70 x0,res:=λ⟨x0,_⟩=>[⟨rX dX,aFy x0⟩] }
def bEB:S0 70 S70:=AJ TL<|qN (xE 30) rfl rfl (by decide) (by decide) xN.2.1 tI.2.1
def bEC:KK:=⟨70,S70,bEB⟩
def bEE:S0 71 S70:=AJ TM<|qN (xE 31) rfl rfl (by decide) (by decide) xN.2.2.1 tI.2.2.1
def bEF:KK:=⟨71,S70,bEE⟩
def bEG:Γ AT:=[nM (rX eC)]
def Zw(x0:Γ b6):Γ b6:=x0
def P72(x0:Γ b6):Prop:=x0.length<=1048576
def S72:Am.Spec:={ sig:=bEG,pre:=λ⟨x0,_⟩=>P72 x0,res:=λ⟨x0,_⟩=>[⟨rX eC,Zw x0⟩] }
def bEH:S0 72 S72:=AJ TN<|qN (xE 36) rfl rfl (by decide) (by decide) xN.2.2.2.1 tI.2.2.2.1
def bEI:KK:=⟨72,S72,bEH⟩
def bEK:S0 73 S69:=AJ TO<|qN (xE 39) rfl rfl (by decide) (by decide) xN.2.2.2.2.1 tI.2.2.2.2.1
def bEL:KK:=⟨73,S69,bEK⟩
def bEN:S0 74 S70:=AJ TP<|qN (xE 40) rfl rfl (by decide) (by decide) xN.2.2.2.2.2.1 tI.2.2.2.2.2.1
def bEO:KK:=⟨74,S70,bEN⟩
def bEQ:S0 75 S72:=AJ TQ<|qN (xE 41) rfl rfl (by decide) (by decide) xN.2.2.2.2.2.2.1 tI.2.2.2.2.2.2.1
def bER:KK:=⟨75,S72,bEQ⟩
def bET:S0 76 S72:=AJ TR<|qN (xE 42) rfl rfl (by decide) (by decide) xN.2.2.2.2.2.2.2.1 tI.2.2.2.2.2.2.2.1
def bEU:KK:=⟨76,S72,bET⟩
noncomputable section
def P20(x0:bV):Prop:=((P69 x0.1)/\((P70 x0.2.2.1)/\((P70 x0.2.2.2.1)/\((P72 x0.2.2.2.2.2.2.1)/\((P69 x0.2.2.2.2.2.2.2.2.1)/\((P70 x0.2.2.2.2.2.2.2.2.2.1)/\((P72 x0.2.2.2.2.2.2.2.2.2.2.1)/\((P72 x0.2.2.2.2.2.2.2.2.2.2.2.1)/\True))))))))
def jO(x0:bV):bV:=(Zv x0.1,(x0.2.1.1,x0.2.1.2.1,x0.2.1.2.2.1,x0.2.1.2.2.2.1,()),aFy x0.2.2.1,aFy x0.2.2.2.1,(x0.2.2.2.2.1.1,x0.2.2.2.2.1.2.1,x0.2.2.2.2.1.2.2.1,()),(x0.2.2.2.2.2.1.1,x0.2.2.2.2.2.1.2.1,x0.2.2.2.2.2.1.2.2.1,()),Zw x0.2.2.2.2.2.2.1,(x0.2.2.2.2.2.2.2.1.1,x0.2.2.2.2.2.2.2.1.2.1,x0.2.2.2.2.2.2.2.1.2.2.1,x0.2.2.2.2.2.2.2.1.2.2.2.1,()),Zv x0.2.2.2.2.2.2.2.2.1,aFy x0.2.2.2.2.2.2.2.2.2.1,Zw x0.2.2.2.2.2.2.2.2.2.2.1,Zw x0.2.2.2.2.2.2.2.2.2.2.2.1,())
def bLB:KK:=mA (D aHl [.v iU] [.cons (.sl fQ) YA1] [] [bE9,bEC,bEF,bEI,bEL,bEO,bER,bEU] true []) (DO aHl) P20 (jO,()) λ_=>aO<|aO<|aO<|aO<|aO<|aO<|aO<|aO pr
def aTc(x0:Δ)(x1:Int):Prop:=((P65 x0 (aA #[32]))/\((P67 (gG x0 (aA #[32])))/\True))
def CC(x0:Δ)(x1:Int):Δ:=lQ x0 (aA #[32])
def gO(x0:Δ)(x1:Int):Γ Int:=iK (gG x0 (aA #[32]))
def CD(x0:Δ)(x1:Int):Bool:=(↑(aF (iK (gG x0 (aA #[32])))):Int)==x1
def aVW:KK:=mB Tryz.func258 [.v (.str),.v (.int .i64)] [.str,.sl Jy,.bool] [aSR,aYh] aTc (CC,gO,CD,()) λ_=>aO<|aO pr
def aTd(x0:eR):Prop:=if !oV x0 then True else aG x0.1+1<=9223372036854775807/\aG (x0.1++aA #[32])+aG (iF [x0.2.1,x0.2.2.1,x0.2.2.2.1])<=9223372036854775807/\True
def MP(x0:eR):Δ:=if !oV x0 then aA #[] else x0.1++aA #[32]++iF [x0.2.1,x0.2.2.1,x0.2.2.2.1]
def bEV:KK:=mB Tryz.func259 [.v fQ] [.str] [aVE,aFw] aTd (MP,()) λ_=>bS<|tH pr<|aO<|bS<|aO pr
def aTe(x0:Δ):Prop:=((aTc x0 3)/\(if(!CD x0 3)=true then True else((0<(↑(aF (gO x0 3)):Int))/\((1<(↑(aF (gO x0 3)):Int))/\((2<(↑(aF (gO x0 3)):Int))/\((aTd (CC x0 3,aD (gO x0 3) 0 0,aD (gO x0 3) 1 0,aD (gO x0 3) 2 0,()))/\True))))))
def mC(x0:Δ):eR:=if !CD x0 3 then(aC,0,0,0,())else if !aB (MP (CC x0 3,aD (gO x0 3) 0 0,aD (gO x0 3) 1 0,aD (gO x0 3) 2 0,()))==aB x0 then(aC,0,0,0,())else(CC x0 3,aD (gO x0 3) 0 0,aD (gO x0 3) 1 0,aD (gO x0 3) 2 0,())
def xO(x0:Δ):Bool:=if !CD x0 3 then false else if !aB (MP (CC x0 3,aD (gO x0 3) 0 0,aD (gO x0 3) 1 0,aD (gO x0 3) 2 0,()))==aB x0 then false else true
def bEW:KK:=mB Tryz.func160 [.v (.str)] [.cons .str dX,.bool] [aVW,bEV] aTe (mC,xO,()) λ_=>aO<|dP pr<|pq 0<|aO<|pq 1<|aO<|pq 2<|aO<|aO<|vD pr pr
def aYn:jB:=D0 aDi [.v (.str)] [.int .i64] []
mutual
def aYo:Nat->Δ->Γ aS->Prop
 | 0,_,_=>False
 | n+1,x0,ds=>if decide ((↑(aG x0):Int)<1)then ds=[aJ (.int .i64) (-1)] else if decide ((↑(aG x0):Int)>12)then ds=[aJ (.int .i64) (-1)] else Q3 n 0 0 x0 ds
def Q3:Nat->Int->Int->Δ->Γ aS->Prop
 | 0,_,_,_,_=>False
 | n+1,v3,v17,x0,ds=>if decide (v17<(↑(aF (b9 x0)):Int))then 0<=v17/\v17<(↑(aF (b9 x0)):Int)/\if decide (aD (b9 x0) (aE v17) 0<48)then ds=[aJ (.int .i64) (-1)] else if decide (aD (b9 x0) (aE v17) 0>57)then ds=[aJ (.int .i64) (-1)] else bA .i64 (10*v3)/\bA .u8 (aD (b9 x0) (aE v17) 0-48)/\bA .i64 (aD (b9 x0) (aE v17) 0-48)/\bA .i64 (10*v3+(aD (b9 x0) (aE v17) 0-48))/\bA .i64 (v17+1)/\Q3 n (10*v3+(aD (b9 x0) (aE v17) 0-48)) (v17+1) x0 ds else ds=[aJ (.int .i64) v3]
end
def aYp(ds:Γ aS)(K:gU)(q:Nat->Value):∀n,(∀ {x0},aYo n x0 ds->St aYn (x0,()) ds [] K q)/\(∀ {v3 v17 x0},Q3 n v3 v17 x0 ds->Cu aYn 5 ([eI 3 v3,eW 15 0,eI 16 (↑(aF (b9 x0)):Int),eI 17 v17],[cN (.int .u8) (b9 x0)]) ds [] K q):=nI ⟨aH,aH⟩ λn ⟨i,i5⟩=>⟨bU (j0 dR)<|bU dR<|cX i5,
  bU (eE<|bU (j0 dR)<|bU dR<|aO<|aO<|aO<|aO<|aO<|cX i5) dR⟩
def CE:Γ UInt8->Int->Int
 | [],n=>n
 | b::r,n=>if decide (48<=b.toNat)&&decide (b.toNat<=57)then CE r (10*n+((b.toNat:Int)-48))else -1
def eV(x0:Δ):Int:=if x0.size<1\/12<x0.size then -1 else CE x0.data.toList 0
def aYq(x0:Δ)(hs:x0.size<=12):∀(k i m:Nat),i+k=x0.size->m<10^i ->
  Q3 (k+1) (m:Int) (i:Int) x0 [⟨.int .i64,CE (x0.data.toList.drop i) (m:Int)⟩]:=by
 intro k;have hll:x0.data.toList.length=x0.size:=rfl;have hbl:(b9 x0).length=x0.size:=by unfold b9;rw[cM];rfl
 induction k with
 | zero =>
  intro i m hi hm;rw[Q3,ν (by rw[hbl];simp;omega),List.drop_of_length_le (by omega)];rfl
 | succ k ih =>
  intro i m hi hm;have hlt:i<x0.data.toList.length:=by rw[hll];omega
  have hcons:x0.data.toList.drop i=x0.data.toList.getD i 0::x0.data.toList.drop (i+1):=eD _ i 0 hlt;have hbyte:(b9 x0).getD i 0=((x0.data.toList.getD i 0).toNat:Int):=by
   unfold b9;rw[bC,bC,jH,aX hlt];rfl
  rw[Q3,π (by rw[hbl];simp;omega),hcons];simp only[aI,hbyte,hbl];generalize x0.data.toList.getD i 0=b at *;refine⟨by omega,by omega,?_⟩;unfold CE;by_cases h1:b.toNat<48
  ·have h1':(b.toNat:Int)<48:=by omega
   have h1'':¬48<=b.toNat:=by omega
   simp[h1',h1'']
  ·have h1':¬(b.toNat:Int)<48:=by omega
   have h1'':48<=b.toNat:=by omega
   by_cases h2:b.toNat>57
   ·have h2':(b.toNat:Int)>57:=by omega
    have h2'':¬b.toNat<=57:=by omega
    simp[h1',h2',h2'']
   ·have h2':¬(b.toNat:Int)>57:=by omega
    have h2'':b.toNat<=57:=by omega
    have hp:10^i<=10^11:=Nat.pow_le_pow_right (by decide) (by omega);have hm2:m<100000000000:=Nat.lt_of_lt_of_le hm hp;simp only[h1',h1'',h2',h2'',decide_true,decide_false,Bool.and_self,fU,if_false,if_true];refine⟨by rw[aK];omega,by rw[QT];omega,by rw[aK];omega,by rw[aK];omega,by rw[aK];omega,?_⟩;have e1:10*(m:Int)+((b.toNat:Int)-48)=((10*m+(b.toNat-48):Nat):Int):=by omega
    have e2:(i:Int)+1=((i+1:Nat):Int):=by omega
    rw[e1,e2];exact ih (i+1) (10*m+(b.toNat-48)) (by omega) (by rw[Nat.pow_succ];omega)
def aYr(x0:Δ):aYo (x0.size+1+1) x0 [⟨.int .i64,eV x0⟩]:=by
 rw[aYo];unfold eV;by_cases h1:x0.size<1
 ·rw[π (by simp;omega),π (.inl h1)]
 ·rw[ν (by simp;omega)];by_cases h2:12<x0.size
  ·rw[π (by simp;omega),π (.inr h2)]
  ·rw[ν (by simp;omega),ν (by omega)];exact aYq x0 (by omega) x0.size 0 0 (by omega) (by decide)
def aVX:KK:=mL aYn (DO aDi) nP (eV,()) (λ⟨x0,_⟩ h hwf K q =>
 (aYp _ K q _).1 (aYr x0))
end
def aYs:Γ AT:=[nM kM,nM (mJ .i64)]
def Ft(x0:Δ)(x1:Int):Δ:=⟨(wN x0.data.toList x1.toNat).toArray⟩
def aYt(x0:Δ)(x1:Int):Prop:=0<=x1/\(x0.size:Int)*x1<=140737488355328
def bEX:Am.Spec:={ sig:=aYs,pre:=λ⟨x0,x1,_⟩=>aYt x0 x1,res:=λ⟨x0,x1,_⟩=>[⟨kM,Ft x0 x1⟩] }
def aYu:S0 384 bEX:=AJ Tryz.func384<|nH rfl λw ⟨x0,x1,_⟩ vs bss hg hp hw ha=>by
 obtain⟨v0,s0,_,_,rfl,_,⟨_,rfl,_⟩,v1,s1,_,_,rfl,_,⟨_,rfl,_⟩,rfl,_⟩:=ha;obtain⟨h0,h1⟩:=hp;obtain⟨c,rfl⟩:∃c:Nat,x1=(c:Int):=Int.eq_ofNat_of_zero_le h0;have hi:bA .i64 (c:Int):=hw.2.1;rw[aK]at hi;have hm:x0.size*c<=140737488355328:=by
  have:((x0.size*c:Nat):Int)=(x0.size:Int)*(c:Int):=Int.natCast_mul _ _;omega
 refine⟨λd hd=>?_,?_⟩
 ·rw[dU.1 hd];refine⟨rfl,?_⟩;show (aA (wN x0.data.toList c).toArray).size<=maxLen;have:(aA (wN x0.data.toList c).toArray).size=c*x0.data.toList.length:=by
   show (wN x0.data.toList c).toArray.size=_;rw[eH,Lib.repeatL_length]
  rw[this,HH];have e:x0.data.toList.length=x0.size:=rfl;rw[e];unfold maxLen;omega
 ·refine(Tryz.strings_Repeat x0 c w (by omega) hm).mono ?_;rintro e w' ⟨rfl,hb⟩;exact⟨rfl,iO hb⟩
def aVY:KK:=⟨384,bEX,aYu⟩
noncomputable section
def aI3(x0:Int)(x1:Int):Prop:=((Cr x0)/\((bA .i64 (x1-(↑(aG (dF x0)):Int)))/\((aYt (aA #[48]) (if 0<x1-(↑(aG (dF x0)):Int)then x1-(↑(aG (dF x0)):Int)else 0))/\((aG (Ft (aA #[48]) (if 0<x1-(↑(aG (dF x0)):Int)then x1-(↑(aG (dF x0)):Int)else 0))+aG (dF x0)<=9223372036854775807)/\True))))
def xP(x0:Int)(x1:Int):Δ:=Ft (aA #[48]) (if 0<x1-(↑(aG (dF x0)):Int)then x1-(↑(aG (dF x0)):Int)else 0)++dF x0
def aVZ:KK:=mB Tryz.func301 [.v (.int .i64),.v (.int .i64)] [.str] [OS,aVY] aI3 (xP,()) λ_=>aO<|aO<|aO<|aO pr
def aPi(x0:Int):Prop:=if !bH x0 0 1439 then True else bA .i64 (aP x0 60)/\aI3 (aP x0 60) 2/\aG (xP (aP x0 60) 2)+1<=9223372036854775807/\bA .i64 (cP x0 60)/\aI3 (cP x0 60) 2/\aG (xP (aP x0 60) 2++aA #[58])+aG (xP (cP x0 60) 2)<=9223372036854775807/\True
def Q4(x0:Int):Δ:=if !bH x0 0 1439 then aA #[] else xP (aP x0 60) 2++aA #[58]++xP (cP x0 60) 2
def aWa:KK:=mB Tryz.func405 [.v (.int .i64)] [.str] [lH,aVZ] aPi (Q4,()) λ_=>bS<|tH pr<|pw 60<|aO<|aO<|aO<|pw 60<|aO<|aO<|aO pr
def aYv(x0:Δ):Prop:=((P65 x0 (aA #[58]))/\((bA .i64 (60*eV (lQ x0 (aA #[58]))))/\((bA .i64 (60*eV (lQ x0 (aA #[58]))+eV (gG x0 (aA #[58]))))/\(if(aB x0==aB (aA #[]))=true then True else((aPi (60*eV (lQ x0 (aA #[58]))+eV (gG x0 (aA #[58]))))/\True)))))
def aBo(x0:Δ):Int:=if aB x0==aB (aA #[])then 0 else if !aB (Q4 (60*eV (lQ x0 (aA #[58]))+eV (gG x0 (aA #[58]))))==aB x0 then 0 else 60*eV (lQ x0 (aA #[58]))+eV (gG x0 (aA #[58]))
def aI4(x0:Δ):Bool:=if aB x0==aB (aA #[])then false else if !aB (Q4 (60*eV (lQ x0 (aA #[58]))+eV (gG x0 (aA #[58]))))==aB x0 then false else true
def bEY:KK:=mB Tryz.func340 [.v (.str)] [.int .i64,.bool] [aSR,aVX,aWa] aYv (aBo,aI4,()) λ_=>aO<|bS<|aO<|bS<|aO<|dP (j0 pr)<|aO<|vD pr pr
def aPj(x0:Δ):Prop:=if aB x0==aB (aA #[50,52,58,48,48])then True else aYv x0/\True
def qO(x0:Δ):Int:=if aB x0==aB (aA #[50,52,58,48,48])then 1440 else aBo x0
def bEZ:KK:=mB Tryz.func264 [.v (.str)] [.int .i64] [bEY] aPj (qO,()) λ_=>tH pr<|aO pr
def aPk(x0:Int):Prop:=if x0==1440 then True else aPi x0/\True
def Do(x0:Int):Δ:=if x0==1440 then aA #[50,52,58,48,48] else Q4 x0
def bFa:KK:=mB Tryz.func341 [.v (.int .i64)] [.str] [aWa] aPk (Do,()) λ_=>tH pr<|aO pr
def aPl(x0:b6):Prop:=if !qL x0 then True else aG x0.1+1<=9223372036854775807/\aPk x0.2.1/\aG (x0.1++aA #[32])+aG (Do x0.2.1)<=9223372036854775807/\aG (x0.1++aA #[32]++Do x0.2.1)+1<=9223372036854775807/\aPk x0.2.2.1/\aG (x0.1++aA #[32]++Do x0.2.1++aA #[32])+aG (Do x0.2.2.1)<=9223372036854775807/\True
def CF(x0:b6):Δ:=if !qL x0 then aA #[] else x0.1++aA #[32]++Do x0.2.1++aA #[32]++Do x0.2.2.1
def bFb:KK:=mB Tryz.func265 [.v eC] [.str] [aVM,bFa] aPl (CF,()) λ_=>bS<|tH pr<|aO<|aO<|aO<|aO<|aO<|aO pr
def aM0(x0:Δ):Prop:=((P17 x0 (aA #[32]))/\(if((↑(aF (bJ x0 (aA #[32]))):Int) != 3)=true then True else((0<(↑(aF (bJ x0 (aA #[32]))):Int))/\((1<(↑(aF (bJ x0 (aA #[32]))):Int))/\((aPj (aD (bJ x0 (aA #[32])) 1 aC))/\((2<(↑(aF (bJ x0 (aA #[32]))):Int))/\((aPj (aD (bJ x0 (aA #[32])) 2 aC))/\((aPl (aD (bJ x0 (aA #[32])) 0 aC,qO (aD (bJ x0 (aA #[32])) 1 aC),qO (aD (bJ x0 (aA #[32])) 2 aC),()))/\True))))))))
def lI(x0:Δ):b6:=if(↑(aF (bJ x0 (aA #[32]))):Int) != 3 then(aC,0,0,())else if !aB (CF (aD (bJ x0 (aA #[32])) 0 aC,qO (aD (bJ x0 (aA #[32])) 1 aC),qO (aD (bJ x0 (aA #[32])) 2 aC),()))==aB x0 then(aC,0,0,())else(aD (bJ x0 (aA #[32])) 0 aC,qO (aD (bJ x0 (aA #[32])) 1 aC),qO (aD (bJ x0 (aA #[32])) 2 aC),())
def vF(x0:Δ):Bool:=if(↑(aF (bJ x0 (aA #[32]))):Int) != 3 then false else if !aB (CF (aD (bJ x0 (aA #[32])) 0 aC,qO (aD (bJ x0 (aA #[32])) 1 aC),qO (aD (bJ x0 (aA #[32])) 2 aC),()))==aB x0 then false else true
def bFc:KK:=mB Tryz.func163 [.v (.str)] [.cons .str YA7,.bool] [aIs,bEZ,bFb] aM0 (lI,vF,()) λ_=>aO<|dP pr<|pq 0<|aO<|pq 1<|aO<|aO<|pq 2<|aO<|aO<|aO<|vD pr pr
def aTf(x0:eR):Prop:=if !sJ x0 then True else aG x0.1+1<=9223372036854775807/\aG (x0.1++aA #[32])+aG (iF [x0.2.1,x0.2.2.1,x0.2.2.2.1])<=9223372036854775807/\True
def MQ(x0:eR):Δ:=if !sJ x0 then aA #[] else x0.1++aA #[32]++iF [x0.2.1,x0.2.2.1,x0.2.2.2.1]
def bFd:KK:=mB Tryz.func269 [.v fQ] [.str] [aVN,aFw] aTf (MQ,()) λ_=>bS<|tH pr<|aO<|bS<|aO pr
def aTg(x0:Δ):Prop:=((aTc x0 3)/\(if(!CD x0 3)=true then True else((0<(↑(aF (gO x0 3)):Int))/\((1<(↑(aF (gO x0 3)):Int))/\((2<(↑(aF (gO x0 3)):Int))/\((aTf (CC x0 3,aD (gO x0 3) 0 0,aD (gO x0 3) 1 0,aD (gO x0 3) 2 0,()))/\True))))))
def mD(x0:Δ):eR:=if !CD x0 3 then(aC,0,0,0,())else if !aB (MQ (CC x0 3,aD (gO x0 3) 0 0,aD (gO x0 3) 1 0,aD (gO x0 3) 2 0,()))==aB x0 then(aC,0,0,0,())else(CC x0 3,aD (gO x0 3) 0 0,aD (gO x0 3) 1 0,aD (gO x0 3) 2 0,())
def xQ(x0:Δ):Bool:=if !CD x0 3 then false else if !aB (MQ (CC x0 3,aD (gO x0 3) 0 0,aD (gO x0 3) 1 0,aD (gO x0 3) 2 0,()))==aB x0 then false else true
def bFe:KK:=mB Tryz.func166 [.v (.str)] [.cons .str dX,.bool] [aVW,bFd] aTg (mD,xQ,()) λ_=>aO<|dP pr<|pq 0<|aO<|pq 1<|aO<|pq 2<|aO<|aO<|vD pr pr
def aYw:jB:=D0 aDj [.v (.int .i64)] [.str] [aPa,aK5]
mutual
def aPm:Nat->Int->Γ aS->Prop
 | 0,_,_=>False
 | n+1,x0,ds=>if !Ia x0 then ds=[aJ .str (aA #[])] else if x0==0 then ds=[aJ .str (aA #[110,111,110,101])] else MR n 0 ([]) x0 ds
def MR:Nat->Int->Γ Δ->Int->Γ aS->Prop
 | 0,_,_,_,_=>False
 | n+1,v13,h0,x0,ds=>if decide (v13<3)then 0<=v13/\v13<3/\0<=v13/\bA .i64 (cT x0 (2^yA (aE v13) 64))/\if mZ eY (↑(yB (gD 64 (cT x0 (2^yA (aE v13) 64)) &&& gD 64 1)):Int)==1 then(aF h0+1)*16<=140737488355328/\bA .i64 (v13+1)/\MR n (v13+1) (h0++[aD [aA #[114,111,112,101],aA #[102,105,114,115,116],aA #[114,97,100,105,111]] (aE v13) aC]) x0 ds else bA .i64 (v13+1)/\MR n (v13+1) h0 x0 ds else Yl h0 (aA #[43])/\ds=[aJ .str (qM h0 (aA #[43]))]
end
def aYx(ds:Γ aS)(K:gU)(q:Nat->Value):∀n,(∀ {x0},aPm n x0 ds->St aYw (x0,()) ds [] K q)/\(∀ {v13 h0 x0},MR n v13 h0 x0 ds->Cu aYw 7 ([eI 0 x0,eW 3 0,eW 11 1,eI 12 3,eI 13 v13],[cN .str h0,cN .str [aA #[114,111,112,101],aA #[102,105,114,115,116],aA #[114,97,100,105,111]]]) ds [] K q):=nI ⟨aH,aH⟩ λn ⟨i,i7⟩=>⟨bS<|bU dR<|bU dR<|Dl [(3,.str)] i7,
  bU (eE<|eE<|bU (aO<|aO<|Dl [(3,.str)] i7)<|aO<|Dl [(3,.str)] i7)<|aO dR⟩
abbrev S8:Γ Δ:=[aA #[114,111,112,101],aA #[102,105,114,115,116],aA #[114,97,100,105,111]]
def VX(x0:Int)(i:Nat):Bool:=mZ eY (↑(yB (gD 64 (cT x0 (2^yA i 64)) &&& gD 64 1)):Int)==1
def K5(x0:Int):Nat->Nat->Γ Δ
 | 0,_=>[]
 | k+1,i=>if VX x0 i=true then S8.getD i aC::K5 x0 k (i+1)else K5 x0 k (i+1)
def Q5(x0:Int):Δ:=if !Ia x0 then aA #[] else if x0==0 then aA #[110,111,110,101] else qM (K5 x0 3 0) (aA #[43])
def aM1{x0:Int}(h:Ia x0=true):0<=x0/\x0<=7:=by
 unfold Ia bH at h
 lia
def aYy{x0:Int}(h1:0<=x0)(h2:x0<=7)(i:Nat):bA .i64 (cT x0 (2^yA i 64)):=by
 have hp:(0:Int)<2^yA i 64:=Int.pow_pos (by lia);rw[aK];have:=Int.ediv_nonneg h1 (Int.le_of_lt hp);have:=Int.ediv_le_self (2^yA i 64) h1
 lia
def aYz(x0:Int)(h1:0<=x0)(h2:x0<=7)(T:Γ Δ)(hT:Yl T (aA #[43])):∀(k i:Nat) (h0:Γ Δ),i+k=3->h0++K5 x0 k i=T->h0.length<=i->MR (k+1) (i:Int) h0 x0 [⟨.str,qM T (aA #[43])⟩]:=by
 intro k
 induction k with
 | zero =>
  intro i h0 hi hh hl;rw[K5,List.append_nil]at hh;rw[MR]
  lia
 | succ k ih =>
  intro i h0 hi hh hl;have e3:(i:Int)+1=((i+1:Nat):Int):=by lia
  rw[K5]at hh;rw[MR,π (by lia)];refine⟨by lia,by lia,by lia,aYy h1 h2 i,?_⟩;by_cases c:VX x0 i=true
  ·exact(π c).mpr ⟨by lia,by grind [aK],ih (i+1) _ (by lia) (by grind) (by grind)⟩
  ·rw[ν c]at hh;exact(ν c).mpr ⟨by grind [aK],ih (i+1) _ (by lia) hh (by lia)⟩
def aY0:∀(b0 b1 b2:Bool),Yl ((if b0=true then S8.getD 0 aC::(if b1=true then S8.getD 1 aC::(if b2=true then [S8.getD 2 aC] else [])else(if b2=true then [S8.getD 2 aC] else []))else(if b1=true then S8.getD 1 aC::(if b2=true then [S8.getD 2 aC] else [])else(if b2=true then [S8.getD 2 aC] else [])))) (aA #[43]):=by
 intro b0 b1 b2;cases b0 <;> cases b1 <;> cases b2 <;> exact⟨by simp,by decide⟩
def aY1(x0:Int):∃n,aPm n x0 [⟨.str,Q5 x0⟩]:=by
 unfold Q5;by_cases c:(!Ia x0)=true
 ·exact⟨1,by rw[aPm,π c,π c]⟩
 ·obtain⟨h1,h2⟩:=aM1 (x0:=x0) (by simpa using c);by_cases d:(x0==0)=true
  ·exact⟨1,by rw[aPm,ν c,π d,ν c,π d]⟩
  ·refine⟨5,?_⟩;rw[aPm,ν c,ν d,ν c,ν d];exact aYz x0 h1 h2 _ (aY0 (VX x0 0) (VX x0 1) (VX x0 2)) 3 0 [] rfl rfl (aT _)
def bFf:KK:=mL aYw (DO aDj) nP (Q5,()) (λ⟨x0,_⟩ h hwf K q =>
 let ⟨n,hn⟩:=aY1 x0
 (aYx _ K q n).1 hn)
def aY2:jB:=D0 aDk [.v (.str)] [.int .i64,.bool] [bFf]
mutual
def bFg:Nat->Δ->Γ aS->Prop
 | 0,_,_=>False
 | n+1,x0,ds=>Q6 n 0 x0 ds
def Q6:Nat->Int->Δ->Γ aS->Prop
 | 0,_,_,_=>False
 | n+1,v5,x0,ds=>if decide (v5<8)then(if aB (Q5 v5)==aB x0 then ds=[aJ (.int .i64) v5,aJ .bool true] else bA .i64 (v5+1)/\Q6 n (v5+1) x0 ds)else ds=[aJ (.int .i64) 0,aJ .bool false]
end
def aY3(ds:Γ aS)(K:gU)(q:Nat->Value):∀n,(∀ {x0},bFg n x0 ds->St aY2 (x0,()) ds [] K q)/\(∀ {v5 x0},Q6 n v5 x0 ds->Cu aY2 2 ([eS 0 x0,eI 5 v5],[]) ds [] K q):=nI ⟨aH,aH⟩ λn ⟨i,i2⟩=>⟨cX i2,
  bU (bS<|bU dR<|aO<|cX i2) dR⟩
def aPn(x0:Δ)(v:Int):Bool:=aB (Q5 v)==aB x0
def S9(x0:Δ):Nat->Int->Int×Bool
 | 0,_=>(0,false)
 | k+1,v=>if aPn x0 v=true then(v,true)else S9 x0 k (v+1)
def aBp(x0:Δ):Int:=(S9 x0 8 0).1
def Q7(x0:Δ):Bool:=(S9 x0 8 0).2
def aY4(x0:Δ):∀(k:Nat) (v:Int),v+(k:Int)=8->0<=v->Q6 (k+1) v x0 [⟨.int .i64,(S9 x0 k v).1⟩,⟨.bool,(S9 x0 k v).2⟩]:=by
 intro k
 induction k with
 | zero =>
  intro v hv h0;rw[Q6,ν (by simp only[ε];omega)];rfl
 | succ k ih =>
  intro v hv h0;rw[Q6,π (by simp only[ε];omega),S9];by_cases c:aPn x0 v=true
  ·rw[π c];exact(π c).mpr rfl
  ·rw[ν c];exact(ν c).mpr ⟨by rw[aK];omega,ih (v+1) (by omega) (by omega)⟩
def bFh:KK:=mL aY2 (DO aDk) nP (aBp,Q7,()) (λ⟨x0,_⟩ h hwf K q =>
 (aY3 _ K q 10).1 (by rw[bFg];exact aY4 x0 8 0 rfl (dO _)))
def aTh(x0:Δ):Prop:=((P17 x0 (aA #[32]))/\(if((↑(aF (bJ x0 (aA #[32]))):Int) != 3)=true then True else((1<(↑(aF (bJ x0 (aA #[32]))):Int))/\((2<(↑(aF (bJ x0 (aA #[32]))):Int))/\((P66 (aD (bJ x0 (aA #[32])) 2 aC))/\((0<(↑(aF (bJ x0 (aA #[32]))):Int))/\True))))))
def Fu(x0:Δ):Δ:=if(↑(aF (bJ x0 (aA #[32]))):Int) != 3 then aA #[] else if Q7 (aD (bJ x0 (aA #[32])) 1 aC)then aD (bJ x0 (aA #[32])) 0 aC else aD (bJ x0 (aA #[32])) 0 aC
def Fv(x0:Δ):Int:=if(↑(aF (bJ x0 (aA #[32]))):Int) != 3 then 0 else if Q7 (aD (bJ x0 (aA #[32])) 1 aC)then aBp (aD (bJ x0 (aA #[32])) 1 aC)else aBp (aD (bJ x0 (aA #[32])) 1 aC)
def Fw(x0:Δ):Int:=if(↑(aF (bJ x0 (aA #[32]))):Int) != 3 then 0 else if Q7 (aD (bJ x0 (aA #[32])) 1 aC)then jR (aD (bJ x0 (aA #[32])) 2 aC)else jR (aD (bJ x0 (aA #[32])) 2 aC)
def MS(x0:Δ):Bool:=if(↑(aF (bJ x0 (aA #[32]))):Int) != 3 then false else if Q7 (aD (bJ x0 (aA #[32])) 1 aC)then jS (aD (bJ x0 (aA #[32])) 2 aC)else false
def aWb:KK:=mB Tryz.func273 [.v (.str)] [.str,.int .i64,.int .i64,.bool] [aIs,bFh,aSS] aTh (Fu,Fv,Fw,MS,()) λ_=>aO<|bDN pr<|pq 1<|aO<|bS<|pq 2<|aO<|aO<|pq 0<|aO<|pe4 pr pr
def aY5(x0:Δ):Prop:=((aTh x0)/\True)
def lJ(x0:Δ):b6:=if !MS x0 then(aC,0,0,())else if !xI (Fu x0,Fv x0,Fw x0,())then(aC,0,0,())else(Fu x0,Fv x0,Fw x0,())
def vG(x0:Δ):Bool:=if !MS x0 then false else if !xI (Fu x0,Fv x0,Fw x0,())then false else true
def bFi:KK:=mB Tryz.func169 [.v (.str)] [.cons .str YA7,.bool] [aWb,aVP] aY5 (lJ,vG,()) λ_=>aO<|vD (j0 pr)<|bS<|vD pr pr
def bFj:KK:=mB Tryz.func172 [.v (.str)] [.cons .str YA7,.bool] [aWb,aVQ] aY5 (lJ,vG,()) λ_=>aO<|vD (j0 pr)<|bS<|vD pr pr
def aF0(x0:Δ)(x1:Int):Prop:=((P67 x0)/\True)
def cU(x0:Δ)(x1:Int):Γ Int:=iK x0
def kQ(x0:Δ)(x1:Int):Bool:=(↑(aF (iK x0)):Int)==x1
def aF1:KK:=mB Tryz.func280 [.v (.str),.v (.int .i64)] [.sl Jy,.bool] [aYh] aF0 (cU,kQ,()) λ_=>aO pr
def aTi(x0:Δ):Prop:=((aF0 x0 3)/\(if(!kQ x0 3)=true then True else((0<(↑(aF (cU x0 3)):Int))/\((1<(↑(aF (cU x0 3)):Int))/\((2<(↑(aF (cU x0 3)):Int))/\True)))))
def oX(x0:Δ):c7:=if !kQ x0 3 then(0,0,0,())else if !xF (aD (cU x0 3) 0 0,aD (cU x0 3) 1 0,aD (cU x0 3) 2 0,())then(0,0,0,())else(aD (cU x0 3) 0 0,aD (cU x0 3) 1 0,aD (cU x0 3) 2 0,())
def zA(x0:Δ):Bool:=if !kQ x0 3 then false else if !xF (aD (cU x0 3) 0 0,aD (cU x0 3) 1 0,aD (cU x0 3) 2 0,())then false else true
def bFk:KK:=mB Tryz.func175 [.v (.str)] [.cons Jy YA7,.bool] [aF1,aVF] aTi (oX,zA,()) λ_=>aO<|dP pr<|pq 0<|aO<|pq 1<|aO<|pq 2<|aO<|bS<|vD pr pr
def aY7(x0:Γ c7)(x1:c7)(x2:Int):Prop:=if decide ((x0.length:Int)>=x2)then True else P70 x0/\(aF (aFy x0)+1)*24<=140737488355328/\True
def MT(x0:Γ c7)(x1:c7)(x2:Int):Γ c7:=if decide ((x0.length:Int)>=x2)then x0 else aFy x0++[x1]
def Dp(x0:Γ c7)(x1:c7)(x2:Int):Int:=if decide ((x0.length:Int)>=x2)then 5 else 0
def bFl(E:gK)(L:bM):DE E L E L:=rfl
def bFm:KK:=mV Tryz.func176 [.own dX,.v dX,.v (.int .i64)] [.sl dX,.int .i64] [bEC] aY7 (λ_=>[none]) (MT,Dp,()) λ⟨⟨x0,x1,x2,_⟩,_⟩=>dP pr<|Hp λs0=>Hp λs1=>rY s0<|rY s1<|rY (bFl [eW 0 0,eT 1 dX x1,eI 2 x2,eO 4 1 0 [],eW 6 2,eI 7 0,eW 8 0,eI 9 (x0.length:Int),eI 10 x2,eB 11 (decide ((x0.length:Int)>=x2)),eW 13 0,eT 15 dX x1,eW 16 3,eW 17 2] [cN dX x0,some (fJ dX [x1] true none (some false)),cN dX (aFy x0++[x1]),cN dX [x1]]) pr
def aPo(x0:Int)(x1:Int):Prop:=if x1==2 then bA .i64 (cP x0 4)/\True else True
def mW(x0:Int)(x1:Int):Int:=if x1==2 then(if cP x0 4==0 then 29 else 28)else if x1==4 then 30 else if x1==6 then 30 else if x1==9 then 30 else if x1==11 then 30 else 31
def aWc:KK:=mB Tryz.func411 [.v (.int .i64),.v (.int .i64)] [.int .i64] [] aPo (mW,()) λ_=>tH (pw 4<|aO<|fP pr pr)<|fP pr<|fP pr<|fP pr<|fP pr pr
def aY8:jB:=D0 aDl [.v (.int .i64),.v (.int .i64),.v (.int .i64)] [.int .i64] [aWc]
mutual
def aY9:Nat->Int->Int->Int->Γ aS->Prop
 | 0,_,_,_,_=>False
 | n+1,x0,x1,x2,ds=>bA .i64 (x0-2000)/\bA .i64 ((x0-2000)*365)/\bA .i64 (x0-1997)/\bA .i64 (aP (x0-1997) 4)/\bA .i64 ((x0-2000)*365+aP (x0-1997) 4)/\bA .i64 ((x0-2000)*365+aP (x0-1997) 4+x2)/\bA .i64 ((x0-2000)*365+aP (x0-1997) 4+x2-1)/\Q8 n ((x0-2000)*365+aP (x0-1997) 4+x2-1) 1 x0 x1 ds
def Q8:Nat->Int->Int->Int->Int->Γ aS->Prop
 | 0,_,_,_,_,_=>False
 | n+1,v7,v8,x0,x1,ds=>if decide (v8<x1)then aPo x0 v8/\bA .i64 (v7+mW x0 v8)/\bA .i64 (v8+1)/\Q8 n (v7+mW x0 v8) (v8+1) x0 x1 ds else ds=[aJ (.int .i64) v7]
end
def aYA(ds:Γ aS)(K:gU)(q:Nat->Value):∀n,(∀ {x0 x1 x2},aY9 n x0 x1 x2 ds->St aY8 (x0,x1,x2,()) ds [] K q)/\(∀ {v7 v8 x0 x1},Q8 n v7 v8 x0 x1 ds->Cu aY8 3 ([eI 0 x0,eI 1 x1,eI 7 v7,eI 8 v8],[]) ds [] K q):=nI ⟨aH,aH⟩ λn ⟨i,i3⟩=>⟨aO<|aO<|aO<|pw 4<|aO<|aO<|aO<|aO<|cX i3,
  bU (aO<|aO<|aO<|cX i3) dR⟩
def lR(y:Int):Nat->Int
 | 0=>0
 | k+1=>lR y k+mW y ((k:Int)+1)
def aAa(y d:Int):Int:=(y-2000)*365+aP (y-1997) 4+d-1
def fK(x0 x1 x2:Int):Int:=aAa x0 x2+lR x0 (x1-1).toNat
def aF2(x0 x1 x2:Int):Prop:=(2000<=x0/\x0<=2099)/\(1<=x1/\x1<=12)/\(1<=x2/\x2<=31)
def MU{y m:Int}(hy:2000<=y/\y<=2099):aPo y m/\28<=mW y m/\mW y m<=31:=by
 have e:cP y 4=y%4:=Int.tmod_eq_emod_of_nonneg (by omega);unfold aPo mW;rw[e];have hi:bA .i64 (y%4):=by rw[aK];omega
 refine⟨?_,?_,?_⟩
 ·split
  ·exact⟨hi,trivial⟩
  ·trivial
 ·repeat' split
  all_goals omega
 ·repeat' split
  all_goals omega
theorem aBq{y:Int}(hy:2000<=y/\y<=2099):∀k,0<=lR y k/\lR y k<=31*k
 | 0=>by simp[lR]
 | k+1=>by
  have:=aBq hy k;have:=MU hy (m:=(k:Int)+1);simp only[lR];omega
def aTj{y m:Int}(hy:2000<=y/\y<=2099)(hm:1<=m/\m<=12)(v:Int)(hv:0<=v/\v<=1000000):∀(k i:Nat),(i:Int)+k=m-1 ->
  Q8 (k+1) (v+lR y i) ((i:Int)+1) y m [⟨.int .i64,v+lR y (m-1).toNat⟩]:=by
 intro k
 induction k with
 | zero =>
  intro i hi;rw[Q8,ν (by simp;omega),show (m-1).toNat=i by omega]
 | succ k ih =>
  intro i hi;obtain⟨p,l1,l2⟩:=MU hy (m:=(i:Int)+1);obtain⟨b1,b2⟩:=aBq hy i;rw[Q8,π (by simp;omega)];have e1:v+lR y i+mW y ((i:Int)+1)=v+lR y (i+1):=by simp only[lR];omega
  have e2:(i:Int)+1+1=((i+1:Nat):Int)+1:=by omega
  refine⟨p,by rw[aK];omega,by rw[aK];omega,?_⟩;rw[e1,e2];exact ih (i+1) (by omega)
def aYB(x0 x1 x2:Int)(h:aF2 x0 x1 x2):aY9 ((x1-1).toNat+1+1) x0 x1 x2 [⟨.int .i64,fK x0 x1 x2⟩]:=by
 obtain⟨h0,h1,h2⟩:=h;have e:aP (x0-1997) 4=(x0-1997)/4:=eJ (by omega);rw[aY9];have:=aTj h0 h1 (aAa x0 x2) (by unfold aAa;rw[e];omega) (x1-1).toNat 0 (by omega);refine⟨by rw[aK];omega,by rw[aK];omega,by rw[aK];omega,by rw[aK,e];omega,by rw[aK,e];omega,by rw[aK,e];omega,by rw[aK,e];omega,?_⟩;simpa [lR,fK,aAa] using this
def aWd:KK:=mL aY8 (DO aDl) aF2 (fK,()) (λ⟨x0,x1,x2,_⟩ h hwf K q =>
 (aYA _ K q _).1 (aYB x0 x1 x2 h))
def bFn(x0:Int)(x1:Int)(x2:Int):Prop:=if !bH x0 2000 2099 then True else if !bH x1 1 12 then True else aPo x0 x1/\if !bH x2 1 (mW x0 x1)then True else aF2 x0 x1 x2/\True
def MV(x0:Int)(x1:Int)(x2:Int):Int:=if !bH x0 2000 2099 then 0 else if !bH x1 1 12 then 0 else if !bH x2 1 (mW x0 x1)then 0 else fK x0 x1 x2
def Ie(x0:Int)(x1:Int)(x2:Int):Int:=if !bH x0 2000 2099 then 2 else if !bH x1 1 12 then 2 else if !bH x2 1 (mW x0 x1)then 2 else 0
def bFo:KK:=mB Tryz.func351 [.v (.int .i64),.v (.int .i64),.v (.int .i64)] [.int .i64,.int .i64] [lH,aWc,aWd] bFn (MV,Ie,()) λ_=>bS<|dP (j0<|j0 pr)<|bS<|dP (j0 pr)<|aO<|bS<|dP pr<|aO pr
def aTk:jB:=D0 aDm [.v (.int .i64)] [.int .i64,.int .i64,.int .i64] [aWd]
mutual
def aYC:Nat->Int->Γ aS->Prop
 | 0,_,_=>False
 | n+1,x0,ds=>Q9 n 2000 x0 ds
def Q9:Nat->Int->Int->Γ aS->Prop
 | 0,_,_,_=>False
 | n+1,v5,x0,ds=>if decide (v5<2099)then bA .i64 (v5+1)/\aF2 (v5+1) 1 1/\if decide (fK (v5+1) 1 1<=x0)then bA .i64 (v5+1)/\Q9 n (v5+1) x0 ds else MW n 1 x0 v5 ds else MW n 1 x0 v5 ds
def MW:Nat->Int->Int->Int->Γ aS->Prop
 | 0,_,_,_,_=>False
 | n+1,v6,x0,v5,ds=>if decide (v6<12)then bA .i64 (v6+1)/\aF2 v5 (v6+1) 1/\if decide (fK v5 (v6+1) 1<=x0)then bA .i64 (v6+1)/\MW n (v6+1) x0 v5 ds else aF2 v5 v6 1/\bA .i64 (x0-fK v5 v6 1)/\bA .i64 (x0-fK v5 v6 1+1)/\ds=[aJ (.int .i64) v5,aJ (.int .i64) v6,aJ (.int .i64) (x0-fK v5 v6 1+1)] else aF2 v5 v6 1/\bA .i64 (x0-fK v5 v6 1)/\bA .i64 (x0-fK v5 v6 1+1)/\ds=[aJ (.int .i64) v5,aJ (.int .i64) v6,aJ (.int .i64) (x0-fK v5 v6 1+1)]
end
def aYD(ds:Γ aS)(K:gU)(q:Nat->Value):∀n,(∀ {x0},aYC n x0 ds->St aTk (x0,()) ds [] K q)/\(∀ {v5 x0},Q9 n v5 x0 ds->Cu aTk 2 ([eI 0 x0,eI 5 v5,eI 6 1],[]) ds [] K q)/\(∀ {v6 x0 v5},MW n v6 x0 v5 ds->Cu aTk 4 ([eI 0 x0,eI 5 v5,eI 6 v6],[]) ds [] K q):=nI ⟨aH,aH,aH⟩ λn ⟨i,i2,i4⟩=>⟨cX i2,
  bU (aO<|aO<|bU (aO<|cX i2)<|cX i4)<|dN<|cX i4,
  bU (aO<|aO<|bU (aO<|cX i4)<|aO<|aO<|aO dR)<|dN<|aO<|aO<|aO dR⟩
def OW(day:Int):Nat->Int->Int
 | 0,y=>y
 | k+1,y=>if fK (y+1) 1 1<=day then OW day k (y+1)else y
def OX(day y:Int):Nat->Int->Int
 | 0,m=>m
 | k+1,m=>if fK y (m+1) 1<=day then OX day y k (m+1)else m
def Ac(x0:Int):Int:=OW x0 99 2000
def CG(x0:Int):Int:=OX x0 (Ac x0) 11 1
def MX(x0:Int):Int:=x0-fK (Ac x0) (CG x0) 1+1
def aYE(x0:Int):Prop:=0<=x0/\x0<=1000000
def aBr{y m:Int}(hy:2000<=y/\y<=2099)(hm:1<=m/\m<=12):aF2 y m 1/\0<=fK y m 1/\fK y m 1<=1000000:=by
 have e:aP (y-1997) 4=(y-1997)/4:=eJ (by lia);have:=aBq hy (m-1).toNat;refine⟨⟨hy,hm,by lia⟩,?_,?_⟩ <;> unfold fK aAa <;> rw[e] <;> omega
def aK8{y day:Int}(hy:2000<=y/\y<=2099)(hd:0<=day/\day<=1000000)(e:Nat):∀(k:Nat) (m:Int),m+k=12->1<=m ->
  MW (k+1+e) m day y [⟨.int .i64,y⟩,⟨.int .i64,OX day y k m⟩,⟨.int .i64,day-fK y (OX day y k m) 1+1⟩]:=by
 intro k
 induction k with
 | zero =>
  intro m hm h1;obtain⟨p,b1,b2⟩:=aBr hy (m:=m) (by lia);rw[show 0+1+e=e+1 by lia,MW,ν (by lia)];exact⟨p,by grind [aK],by grind [aK],rfl⟩
 | succ k ih =>
  intro m hm h1;obtain⟨p,b1,b2⟩:=aBr hy (m:=m) (by lia);obtain⟨q,c1,c2⟩:=aBr hy (m:=m+1) (by lia);rw[show k+1+1+e=(k+1+e)+1 by lia,MW,π (by lia)];refine⟨by grind [aK],q,?_⟩;unfold OX;by_cases hc:fK y (m+1) 1<=day
  ·grind [aK]
  ·rw[ν (by lia),ν hc];exact⟨p,by grind [aK],by grind [aK],rfl⟩
def aTl{day:Int}(hd:0<=day/\day<=1000000):∀(k:Nat) (y:Int),y+k=2099->2000<=y ->
  Q9 (k+1+12) y day [⟨.int .i64,OW day k y⟩,⟨.int .i64,OX day (OW day k y) 11 1⟩,⟨.int .i64,day-fK (OW day k y) (OX day (OW day k y) 11 1) 1+1⟩]:=by
 intro k
 induction k with
 | zero =>
  intro y hy h1;rw[Q9,ν (by lia)];exact aK8 (by lia) hd 0 11 1 (by lia) (by lia)
 | succ k ih =>
  intro y hy h1;obtain⟨q,c1,c2⟩:=aBr (y:=y+1) (m:=1) (by lia) (by lia);rw[Q9,π (by lia)];refine⟨by grind [aK],q,?_⟩;unfold OW;by_cases hc:fK (y+1) 1 1<=day
  ·grind [aK]
  ·rw[ν (by lia),ν hc,show k+1+12=11+1+(k+1)by lia];exact aK8 (by lia) hd (k+1) 11 1 (by lia) (by lia)
def aYF(x0:Int)(h:aYE x0):aYC (99+1+12+1) x0 [⟨.int .i64,Ac x0⟩,⟨.int .i64,CG x0⟩,⟨.int .i64,MX x0⟩]:=by
 rw[aYC];exact aTl h 99 2000 (by omega) (by omega)
def bFp:KK:=mL aTk (DO aDm) aYE (Ac,CG,MX,()) (λ⟨x0,_⟩ h hwf K q =>
 (aYD _ K q _).1 (aYF x0 h))
def MY(x0:Int):Prop:=if !pK x0 then True else aYE x0/\Cr (Ac x0)/\aG (dF (Ac x0))+1<=9223372036854775807/\aI3 (CG x0) 2/\aG (dF (Ac x0)++aA #[45])+aG (xP (CG x0) 2)<=9223372036854775807/\aG (dF (Ac x0)++aA #[45]++xP (CG x0) 2)+1<=9223372036854775807/\aI3 (MX x0) 2/\aG (dF (Ac x0)++aA #[45]++xP (CG x0) 2++aA #[45])+aG (xP (MX x0) 2)<=9223372036854775807/\True
def oY(x0:Int):Δ:=if !pK x0 then aA #[] else dF (Ac x0)++aA #[45]++xP (CG x0) 2++aA #[45]++xP (MX x0) 2
def aK9:KK:=mB Tryz.func189 [.v (.int .i64)] [.str] [aK3,bFp,OS,aVZ] MY (oY,()) λ_=>bS<|tH pr<|aO<|aO<|aO<|aO<|aO<|aO<|aO<|aO pr
def aM2(x0:Δ):Prop:=((P17 x0 (aA #[45]))/\(if((↑(aF (bJ x0 (aA #[45]))):Int) != 3)=true then True else((0<(↑(aF (bJ x0 (aA #[45]))):Int))/\((1<(↑(aF (bJ x0 (aA #[45]))):Int))/\((2<(↑(aF (bJ x0 (aA #[45]))):Int))/\((bFn (eV (aD (bJ x0 (aA #[45])) 0 aC)) (eV (aD (bJ x0 (aA #[45])) 1 aC)) (eV (aD (bJ x0 (aA #[45])) 2 aC)))/\(if(Ie (eV (aD (bJ x0 (aA #[45])) 0 aC)) (eV (aD (bJ x0 (aA #[45])) 1 aC)) (eV (aD (bJ x0 (aA #[45])) 2 aC)) != 0)=true then True else((MY (MV (eV (aD (bJ x0 (aA #[45])) 0 aC)) (eV (aD (bJ x0 (aA #[45])) 1 aC)) (eV (aD (bJ x0 (aA #[45])) 2 aC))))/\True))))))))
def rJ(x0:Δ):Int:=if(↑(aF (bJ x0 (aA #[45]))):Int) != 3 then 0 else if Ie (eV (aD (bJ x0 (aA #[45])) 0 aC)) (eV (aD (bJ x0 (aA #[45])) 1 aC)) (eV (aD (bJ x0 (aA #[45])) 2 aC)) != 0 then 0 else if !aB (oY (MV (eV (aD (bJ x0 (aA #[45])) 0 aC)) (eV (aD (bJ x0 (aA #[45])) 1 aC)) (eV (aD (bJ x0 (aA #[45])) 2 aC))))==aB x0 then 0 else MV (eV (aD (bJ x0 (aA #[45])) 0 aC)) (eV (aD (bJ x0 (aA #[45])) 1 aC)) (eV (aD (bJ x0 (aA #[45])) 2 aC))
def uC(x0:Δ):Bool:=if(↑(aF (bJ x0 (aA #[45]))):Int) != 3 then false else if Ie (eV (aD (bJ x0 (aA #[45])) 0 aC)) (eV (aD (bJ x0 (aA #[45])) 1 aC)) (eV (aD (bJ x0 (aA #[45])) 2 aC)) != 0 then false else if !aB (oY (MV (eV (aD (bJ x0 (aA #[45])) 0 aC)) (eV (aD (bJ x0 (aA #[45])) 1 aC)) (eV (aD (bJ x0 (aA #[45])) 2 aC))))==aB x0 then false else true
def bFq:KK:=mB Tryz.func281 [.v (.str)] [.int .i64,.bool] [aIs,aVX,bFo,aK9] aM2 (rJ,uC,()) λ_=>aO<|dP pr<|pq 0<|aO<|bS<|pq 1<|aO<|bS<|pq 2<|aO<|bS<|aO<|dP (j0 pr)<|aO<|vD pr pr
def aPp(x0:c7):Prop:=if !sK x0 then True else MY x0.1/\aG (oY x0.1)+1<=9223372036854775807/\aG (oY x0.1++aA #[32])+aG (iF [x0.2.1,x0.2.2.1])<=9223372036854775807/\True
def Dq(x0:c7):Δ:=if !sK x0 then aA #[] else oY x0.1++aA #[32]++iF [x0.2.1,x0.2.2.1]
def bFr:KK:=mB Tryz.func282 [.v dX] [.str] [aOZ,aK9,aFw] aPp (Dq,()) λ_=>bS<|tH pr<|aO<|aO<|bS<|aO pr
def aF3(x0:Δ):Prop:=((P65 x0 (aA #[32]))/\((aM2 (lQ x0 (aA #[32])))/\((aF0 (gG x0 (aA #[32])) 2)/\(if(!uC (lQ x0 (aA #[32])))=true then True else(if(!kQ (gG x0 (aA #[32])) 2)=true then True else((0<(↑(aF (cU (gG x0 (aA #[32])) 2)):Int))/\((1<(↑(aF (cU (gG x0 (aA #[32])) 2)):Int))/\((aPp (rJ (lQ x0 (aA #[32])),aD (cU (gG x0 (aA #[32])) 2) 0 0,aD (cU (gG x0 (aA #[32])) 2) 1 0,()))/\True))))))))
def qP(x0:Δ):c7:=if !uC (lQ x0 (aA #[32]))then(0,0,0,())else if !kQ (gG x0 (aA #[32])) 2 then(0,0,0,())else if !aB (Dq (rJ (lQ x0 (aA #[32])),aD (cU (gG x0 (aA #[32])) 2) 0 0,aD (cU (gG x0 (aA #[32])) 2) 1 0,()))==aB x0 then(0,0,0,())else(rJ (lQ x0 (aA #[32])),aD (cU (gG x0 (aA #[32])) 2) 0 0,aD (cU (gG x0 (aA #[32])) 2) 1 0,())
def CH(x0:Δ):Bool:=if !uC (lQ x0 (aA #[32]))then false else if !kQ (gG x0 (aA #[32])) 2 then false else if !aB (Dq (rJ (lQ x0 (aA #[32])),aD (cU (gG x0 (aA #[32])) 2) 0 0,aD (cU (gG x0 (aA #[32])) 2) 1 0,()))==aB x0 then false else true
def bFs:KK:=mB Tryz.func177 [.v (.str)] [.cons Jy YA7,.bool] [aSR,bFq,aF1,bFr] aF3 (qP,CH,()) λ_=>aO<|aO<|aO<|dP (j0 pr)<|dP pr<|pq 0<|aO<|pq 1<|aO<|aO<|vD pr pr
def aYG(x0:Γ c7)(x1:c7):Prop:=((P70 x0)/\((aF (aFy x0)+1)*24<=140737488355328)/\True)
def If(x0:Γ c7)(x1:c7):Γ c7:=if !jG x0 then [] else if !sK x1 then [] else if !Dn (aFy x0++[x1])then [] else if decide ((x0.length:Int)>=24)then [] else aFy x0++[x1]
def Dr(x0:Γ c7)(x1:c7):Int:=if !jG x0 then 1 else if !sK x1 then 2 else if !Dn (aFy x0++[x1])then 6 else if decide ((x0.length:Int)>=24)then 5 else 0
def bFu:KK:=mB Tryz.func178 [.v (.sl dX),.v dX] [.sl dX,.int .i64] [bEO,aMu,aOZ,aVO] aYG (If,Dr,()) λ⟨⟨x0,x1,_⟩,_⟩=>Hp λs0=>Hp λs1=>rY s0<|rY s1<|rY (bFl [eL 0 dX x0,eT 1 dX x1,eO 3 0 0 [],(4,.a (.val (.slice none 0 0))),eI 5 0,eW 6 1,eL 7 dX x0,eT 9 dX x1,eW 10 2,eW 11 1] [some (fJ dX [x1] true none (some false)),cN dX (aFy x0++[x1]),cN dX [x1]])<|bS<|vD pr<|bS<|vD pr<|bS<|vD pr<|vD pr pr
def aTm(x0:Δ):Prop:=((aF0 x0 4)/\(if(!kQ x0 4)=true then True else((0<(↑(aF (cU x0 4)):Int))/\((1<(↑(aF (cU x0 4)):Int))/\((2<(↑(aF (cU x0 4)):Int))/\((3<(↑(aF (cU x0 4)):Int))/\True))))))
def Ig(x0:Δ):Int×Int×Int×Int×Unit:=if !kQ x0 4 then(0,0,0,0,())else if !Bw (aD (cU x0 4) 0 0,aD (cU x0 4) 1 0,aD (cU x0 4) 2 0,aD (cU x0 4) 3 0,())then(0,0,0,0,())else(aD (cU x0 4) 0 0,aD (cU x0 4) 1 0,aD (cU x0 4) 2 0,aD (cU x0 4) 3 0,())
def Fx(x0:Δ):Bool:=if !kQ x0 4 then false else if !Bw (aD (cU x0 4) 0 0,aD (cU x0 4) 1 0,aD (cU x0 4) 2 0,aD (cU x0 4) 3 0,())then false else true
def bFv:KK:=mB Tryz.func179 [.v (.str)] [.cons Jy dX,.bool] [aF1,aXI] aTm (Ig,Fx,()) λ_=>aO<|dP pr<|pq 0<|aO<|pq 1<|aO<|pq 2<|aO<|pq 3<|aO<|bS<|vD pr pr
def Ih(x0:Δ):c7:=if !kQ x0 3 then(0,0,0,())else if !yK (aD (cU x0 3) 0 0,aD (cU x0 3) 1 0,aD (cU x0 3) 2 0,())then(0,0,0,())else(aD (cU x0 3) 0 0,aD (cU x0 3) 1 0,aD (cU x0 3) 2 0,())
def Fy(x0:Δ):Bool:=if !kQ x0 3 then false else if !yK (aD (cU x0 3) 0 0,aD (cU x0 3) 1 0,aD (cU x0 3) 2 0,())then false else true
def bFw:KK:=mB Tryz.func180 [.v (.str)] [.cons Jy YA7,.bool] [aF1,aXJ] aTi (Ih,Fy,()) λ_=>aO<|dP pr<|pq 0<|aO<|pq 1<|aO<|pq 2<|aO<|bS<|vD pr pr
def Ii(x0:Δ):Int×Int×Int×Int×Unit:=if !kQ x0 4 then(0,0,0,0,())else if !xH (aD (cU x0 4) 0 0,aD (cU x0 4) 1 0,aD (cU x0 4) 2 0,aD (cU x0 4) 3 0,())then(0,0,0,0,())else(aD (cU x0 4) 0 0,aD (cU x0 4) 1 0,aD (cU x0 4) 2 0,aD (cU x0 4) 3 0,())
def Fz(x0:Δ):Bool:=if !kQ x0 4 then false else if !xH (aD (cU x0 4) 0 0,aD (cU x0 4) 1 0,aD (cU x0 4) 2 0,aD (cU x0 4) 3 0,())then false else true
def bFx:KK:=mB Tryz.func181 [.v (.str)] [.cons Jy dX,.bool] [aF1,aXL] aTm (Ii,Fz,()) λ_=>aO<|dP pr<|pq 0<|aO<|pq 1<|aO<|pq 2<|aO<|pq 3<|aO<|bS<|vD pr pr
end
def aYH:OV aL (lX kM (lX (mJ eY) (lX (mJ eY) (lX (mJ eY) Kp)))) 27 86 338 4:=OV.of (xE 27) rfl rfl (by decide) (by decide) (by decide) eZ Tryz.func338 (by kernel_rfl) (by kernel_rfl) (by kernel_rfl) (by kernel_rfl)
def aYI:OV aL (lX kM (lX (mJ eY) (lX (mJ eY) Kp))) 36 100 342 3:=OV.of (xE 36) rfl rfl (by decide) (by decide) (by decide) eZ Tryz.func342 (by kernel_rfl) (by kernel_rfl) (by kernel_rfl) (by kernel_rfl)
def aYJ:OV aL (lX kM (lX (mJ eY) (lX (mJ eY) (lX (mJ eY) Kp)))) 39 141 344 4:=OV.of (xE 39) rfl rfl (by decide) (by decide) (by decide) eZ Tryz.func344 (by kernel_rfl) (by kernel_rfl) (by kernel_rfl) (by kernel_rfl)
def aYK:OV aL (lX kM (lX (mJ eY) (lX (mJ eY) Kp))) 41 147 347 3:=OV.of (xE 41) rfl rfl (by decide) (by decide) (by decide) eZ Tryz.func347 (by kernel_rfl) (by kernel_rfl) (by kernel_rfl) (by kernel_rfl)
def aYL:OV aL (lX kM (lX (mJ eY) (lX (mJ eY) Kp))) 42 150 349 3:=OV.of (xE 42) rfl rfl (by decide) (by decide) (by decide) eZ Tryz.func349 (by kernel_rfl) (by kernel_rfl) (by kernel_rfl) (by kernel_rfl)
open Go.RowKit in
set_option maxHeartbeats 8000000 in
def VY:aI2 aL 263 27 86 4 /\ aI2 aL 268 36 100 3 /\ aI2 aL 272 39 141 4 /\ aI2 aL 276 41 147 3 /\ aI2 aL 279 42 150 3:=by
  refine⟨?_, ?_, ?_, ?_, ?_⟩ <;>
  (intro w m b off cap vb voff vcap i0 vs hu hi0 hz1 hcapm hroom hsrc R1 R2
   have mixed:=mixed
   first | go_enter BZ, Ea | go_enter B0, Eb | go_enter B3, Ec | go_enter B4, Ed | go_enter B6, Ee
   go_wp2_with (at_builtin; refine wpList_append_room_src _ rfl _ _ _ _ rfl _ i0 hu hi0 b off m cap rfl _ rfl 1 vs hsrc hroom R1.out R2.out ?_)
   go_ret
   exact⟨rfl, 0, rfl⟩)
open Go.RowKit in
set_option maxHeartbeats 8000000 in
def OY:VV aL 263 27 86 /\ VV aL 268 36 100 /\ VV aL 272 39 141 /\ VV aL 276 41 147 /\ VV aL 279 42 150:=by
  refine⟨?_, ?_, ?_, ?_, ?_⟩ <;>
  (intro w m ad cap vb voff vcap G ROW hnil hlen hroom hmax hge hgm hrun
   have mixed:=mixed
   first | go_enter BZ, Ea | go_enter B0, Eb | go_enter B3, Ec | go_enter B4, Ed | go_enter B6, Ee
   cases ad with
   | none =>
     have h0:=hnil rfl;subst h0
     go_wp2_with (at_builtin; refine yP _ rfl _ _ _ _ rfl _ _ rfl rfl _ _ (hrun _) ?_)
     go_ret
     exact⟨rfl, rfl⟩
   | some a =>
     obtain⟨ab, ao, asp⟩:=a
     go_wp2_with (at_builtin; refine yP _ rfl _ _ _ _ rfl _ _ rfl rfl _ _ (hrun _) ?_)
     all_goals (go_ret; exact⟨rfl, rfl⟩))
open Go.RowKit in
set_option maxHeartbeats 8000000 in
def Ij:MO aL 263 27 338 4 /\ MO aL 268 36 342 3 /\ MO aL 272 39 344 4 /\ MO aL 276 41 347 3 /\ MO aL 279 42 349 3:=by
  refine⟨?_, ?_, ?_, ?_, ?_⟩ <;>
  (intro w m b off cap vb voff vcap i vs ds W1 hi hroom hcapm N hov hcp1 hcp2
   have hz2 : ¬((i:Int) = (m:Int)):=by omega
   have hw1:eY.wrap ((i:Int)+1) = (i:Int)+1:=by unfold maxLen at hcapm; rw[tR]; omega
   have hw2:eY.wrap ((m:Int)+1) = (m:Int)+1:=by unfold maxLen at hcapm; rw[tR]; omega
   have hb1:(0:Int)<=(i:Int)+1:=by omega
   have hin:i<=m:=by omega
   have htn:((i:Int)+1).toNat = i+1:=by omega
   have htn2:((m:Int)+1).toNat = m+1:=by omega
   have hb2 : ¬(cap = i+1):=by omega
   have hb3:(i:Int)<=(m:Int)+1:=by omega
   have hb4 : ¬(cap = i):=by omega
   have hb5 : ¬((cap:Int)<(m:Int)+1):=by omega
   have mixed:=mixed
   first | go_enter BZ, Ea | go_enter B0, Eb | go_enter B3, Ec | go_enter B4, Ed | go_enter B6, Ee
   go_wp2_with (simp only[hov])
   go_region_law_o (refine scp rfl _ _ _ _ rfl _ _ (by simp[Y2, Kn]) (by simp[Y2, Kn]) (hcp1 _ _ _) ?_)
   go_wp2_with (at_builtin; refine lcp _ rfl _ _ _ _ rfl _ _ rfl rfl (hcp2 _ (λ_=>rfl) (λ_=>rfl) _ _) ?_)
   go_ret
   exact⟨rfl, 1, by rw[N.out]; rfl⟩)
open Go.RowKit in
set_option maxHeartbeats 8000000 in
def OZ:VW aL 263 27 86 4 /\ VW aL 268 36 100 3 /\ VW aL 272 39 141 4 /\ VW aL 276 41 147 3 /\ VW aL 279 42 150 3:=by
  refine⟨?_, ?_, ?_, ?_, ?_⟩ <;>
  (intro w m b off cap vb voff vcap i vs ds ROW G hi hroom hlen hcapm hge hgm hrz hcpA hcpB
   have hz2 : ¬((i:Int) = (m:Int)):=by omega
   have hw1:eY.wrap ((i:Int)+1) = (i:Int)+1:=by unfold maxLen at hgm; rw[tR]; omega
   have hw2:eY.wrap ((m:Int)+1) = (m:Int)+1:=by unfold maxLen at hgm; rw[tR]; omega
   have hw3:eY.wrap ((m:Int)+1-(i:Int)) = (m:Int)+1-(i:Int):=by unfold maxLen at hgm; rw[tR]; omega
   have hb1:(0:Int)<=(i:Int)+1:=by omega
   have hin:i<=m:=by omega
   have htn:((i:Int)+1).toNat = i+1:=by omega
   have hGi : ¬(G = i):=by omega
   have hGim : ¬(G = i+1):=by omega
   have hci : ¬(cap = i):=by omega
   have hb3:(i:Int)<=(m:Int):=by omega
   have hb5:(cap:Int)<(m:Int)+1:=by omega
   have hG63:G<=9223372036854775807:=by unfold maxLen at hgm; exact hgm
   have mixed:=mixed
   first | go_enter BZ, Ea | go_enter B0, Eb | go_enter B3, Ec | go_enter B4, Ed | go_enter B6, Ee
   go_wp2_with (first
     | (at_builtin; refine yP _ rfl _ _ _ _ rfl _ _ rfl rfl _ _ (hrz _) ?_)
     | (at_builtin; refine lcp _ rfl _ _ _ _ rfl _ _ rfl rfl (hcpA _ _) ?_))
   go_region_law_o (refine scp rfl _ _ _ _ rfl _ _ (by simp[Y2, Kn]) (by simp[Y2, Kn]) (hcpB 3 (G-(i+1)) (cap-i)) ?_)
   go_wp2
   go_ret
   exact⟨rfl, rfl⟩)
def aYM:Γ AT:=[qV fQ,nM (mJ .i64),qV fQ]
def aBs(x0:Γ eR)(x1:Int)(x2:Γ eR):Γ eR:=x0.take x1.toNat++(x2++x0.drop x1.toNat)
def bFy(x0:Γ eR)(x1:Int)(x2:Γ eR):Prop:=0<=x1/\x1<=x0.length/\x2.length=1/\x0.length<=1048576
def bFz:Am.Spec:={ sig:=aYM,pre:=λ⟨x0,x1,x2,_⟩=>bFy x0 x1 x2,upd:=λ_=>[none,none],res:=λ⟨x0,x1,x2,_⟩=>[⟨rX fQ,aBs x0 x1 x2⟩] }
def aYN:S0 263 bFz:=AJ BZ<|aYH.contract Ij.1 OZ.1 VY.1 OY.1
def bF0:KK:=⟨263,bFz,aYN⟩
noncomputable section
def Qa(x0:Δ):Bool := !aB x0==aB x0
def bF1:KK:=mB Tryz.func337 [.v (.str)] [.bool] [] nP (Qa,()) λ_=>pr
def GA(x0:Δ)(x1:Δ):Int:=if Qa x0 then(if Qa x1 then 0 else -1)else if Qa x1 then 1 else if bK (aB x0) (aB x1)then -1 else if !(bK (aB x0) (aB x1)||aB x0==aB x1)then 1 else 0
def aF4:KK:=mB Tryz.func262 [.v (.str),.v (.str)] [.int .i64] [bF1] nP (GA,()) λ_=>bS<|bS<|fP (fP pr pr)<|fP pr<|fP pr<|fP pr pr
def aI5(x0:eR):Δ:=x0.1
def aWe:KK:=mB Tryz.func162 [.v fQ] [.str] [] nP (aI5,()) λ_=>pr
def bLC:jB:=D0 aDn [.v fQ,.v fQ,.p .fn] [.int .i64] [aF4,aWe]
def aPq(x0:eR)(x1:eR)(x2:Option Nat):Prop:=x2=some 162/\True
def VZ(x0:eR)(x1:eR)(x2:Option Nat):Int:=GA (aI5 x0) (aI5 x1)
def bF2:KK:=mL bLC (DO aDn) aPq (VZ,()) λ⟨x0,x1,x2,_⟩ h _ K q=>by
 obtain⟨rfl,h⟩:=h;exact tv<|tv<|tv<|rt
def V0:jB:=D0 aDo [.v (.sl fQ),.v fQ,.fn 261 [(true,.fn)]] [.int .i64,.bool] [bF2]
mutual
def aF5:Nat->Γ eR->Δ×Int×Int×Int×Unit->Option Nat->Γ aS->Prop
 | 0,_,_,_,_=>False
 | n+1,x0,x1,x2,ds=>zB n 0 ((x0.length:Int)) x0 x2 x1 ds
def zB:Nat->Int->Int->Γ eR->Option Nat->Δ×Int×Int×Int×Unit->Γ aS->Prop
 | 0,_,_,_,_,_,_=>False
 | n+1,v9,v10,x0,x2,x1,ds=>if decide (v9<v10)then bA .i64 (v9+v10)/\bA .u64 (v9+v10)/\bA .u64 (cT (v9+v10) 2)/\bA .i64 (cT (v9+v10) 2)/\0<=cT (v9+v10) 2/\cT (v9+v10) 2<(x0.length:Int)/\aPq (aD x0 (aE (cT (v9+v10) 2)) (aC,0,0,0,())) x1 x2/\if decide (VZ (aD x0 (aE (cT (v9+v10) 2)) (aC,0,0,0,())) x1 x2<0)then bA .i64 (cT (v9+v10) 2+1)/\zB n (cT (v9+v10) 2+1) v10 x0 x2 x1 ds else zB n v9 (cT (v9+v10) 2) x0 x2 x1 ds else if decide (v9<(x0.length:Int))then 0<=v9/\v9<(x0.length:Int)/\aPq (aD x0 (aE v9) (aC,0,0,0,())) x1 x2/\ds=[aJ (.int .i64) v9,aJ .bool (VZ (aD x0 (aE v9) (aC,0,0,0,())) x1 x2==0)] else ds=[aJ (.int .i64) v9,aJ .bool false]
end
def aI6(ds:Γ aS)(K:gU)(q:Nat->Value):∀n,(∀ {x0 x1 x2},aF5 n x0 x1 x2 ds->St V0 (x0,x1,(x2,()),()) ds [] K q)/\(∀ {v9 v10 x0 x2 x1},zB n v9 v10 x0 x2 x1 ds->Cu V0 3 ([eL 0 fQ x0,(2,o9 261 [rD La x2]),eO 4 0 0 [],eI 8 (x0.length:Int),eI 9 v9,eI 10 v10],[some (fJ fQ [x1] true none (some false))]) ds [] K q):=nI ⟨aH,aH⟩ λn ⟨i,i3⟩=>⟨cX i3,
  bU (aO<|aO<|pq 1<|aO<|aO<|eE<|aO<|bU (aO<|cX i3)<|cX i3)<|bU (eE<|aO dR) dR⟩
def Ik(x0:Γ eR)(x1:eR)(y0:Option Nat)(h:Nat):Bool:=decide (VZ (x0.getD h (aC,(0:Int),(0:Int),(0:Int),())) x1 y0<0)
def V4(x0:Γ eR)(x1:eR)(y0:Option Nat):Nat:=iC (Ik x0 x1 y0) (x0.length+1) 0 x0.length
def O0(x0:Γ eR)(x1:eR)(y0:Option Nat)(k:Nat):Bool:=if k<x0.length then VZ (x0.getD k (aC,(0:Int),(0:Int),(0:Int),())) x1 y0==0 else false
def nV(x0:Γ eR)(x1:eR)(y0:Option Nat):Int:=(V4 x0 x1 y0:Nat)
def mE(x0:Γ eR)(x1:eR)(y0:Option Nat):Bool:=O0 x0 x1 y0 (V4 x0 x1 y0)
def aF6(x0:Γ eR)(x1:eR)(y0:Option Nat):Prop:=x0.length<=4611686018427387903/\∀y∈x0,aPq y x1 y0
theorem Il(n:Int):bA .u64 n↔0<=n/\n<=18446744073709551615:=by
 rfl
def aI7(x0:Γ eR)(x1:eR)(y0:Option Nat)(hm:x0.length<=4611686018427387903)(hp:∀y∈x0,aPq y x1 y0):∀(k i j:Nat),j-i<k->i<=j->j<=x0.length ->
  zB k (i:Int) (j:Int) x0 y0 x1 [⟨.int .i64,((iC (Ik x0 x1 y0) k i j:Nat):Int)⟩,⟨.bool,O0 x0 x1 y0 (iC (Ik x0 x1 y0) k i j)⟩]:=by
 intro k
 induction k with
 | zero=>lia
 | succ k ih =>
  intro i j h hij hj;rw[zB];by_cases hlt:i<j
  ·rw[π (by lia)];have e:cT ((i:Int)+(j:Int)) 2=(((i+j)/2:Nat):Int):=by
    lia
   have hP:=hp _ (bY x0 ((i+j)/2) (aC,(0:Int),(0:Int),(0:Int),()) (by lia));rw[e];refine⟨by rw[aK];lia,by rw[Il];lia,by rw[Il];lia,by rw[aK];lia,by lia,by lia,hP,?_⟩;simp only[iC,π hlt];by_cases hq:Ik x0 x1 y0 ((i+j)/2)=true
   ·rw[π hq];exact(π hq).mpr ⟨by rw[aK];lia,ih ((i+j)/2+1) j (by lia) (by lia) hj⟩
   ·rw[ν hq];exact(ν hq).mpr (ih i ((i+j)/2) (by lia) (by lia) (by lia))
  ·rw[ν (by lia)];simp only[iC,ν hlt,O0];by_cases hl:i<x0.length
   ·rw[π (by lia),π hl];exact⟨by lia,by lia,hp _ (bY x0 i (aC,(0:Int),(0:Int),(0:Int),()) hl),rfl⟩
   lia
def aM3:KK:=mL V0 (DO aDo) aF6 (nV,mE,()) (λ⟨x0,x1,⟨y0,_⟩,_⟩ h hwf K q =>
 (aI6 _ K q ((x0.length+1+1))).1 (by rw[aF5];exact aI7 x0 x1 y0 h.1 h.2 (x0.length+1) 0 x0.length (by omega) (by omega) (aT _)))
def Im(x0:Γ eR)(x1:eR)(x3:Int):Prop:=((aF6 x0 x1 (some 162))/\(if mE x0 x1 (some 162)=true then True else(if decide ((x0.length:Int)>=x3)=true then True else((P69 x0)/\(bFy (Zv x0) (nV x0 x1 (some 162)) [x1])/\True))))
def vI(x0:Γ eR)(x1:eR)(x3:Int):Γ eR:=if mE x0 x1 (some 162)then x0 else if decide ((x0.length:Int)>=x3)then x0 else aBs (Zv x0) (nV x0 x1 (some 162)) [x1]
def oZ(x0:Γ eR)(x1:eR)(x3:Int):Int:=if mE x0 x1 (some 162)then 4 else if decide ((x0.length:Int)>=x3)then 5 else 0
def aM5:KK:=mV Tryz.func161 [.own fQ,.v fQ,.fn 162 [],.v (.int .i64)] [.sl fQ,.int .i64] [bE9,bF0,aM3,aWe] Im (λ_=>[none]) (vI,oZ,()) λ⟨⟨x0,x1,_,x3,_⟩,_⟩=>aO<|dP pr<|dP pr<|Hp λs1=>Hp λs2=>rY s1<|rY s2<|rY (bFl [eW 0 0,eT 1 fQ x1,(2,o9 162 []),eI 3 x3,eO 5 1 0 [],eO 6 2 0 [],eW 8 5,eI 9 0,eI 10 (nV x0 x1 (some 162)),eB 11 (mE x0 x1 (some 162)),(12,gI [Tm (nV x0 x1 (some 162)),Nl (mE x0 x1 (some 162))]),eW 13 0,eT 14 fQ x1,(15,o9 261 [Kq 2 0 []]),(16,gI [Tm (nV x0 x1 (some 162)),Nl (mE x0 x1 (some 162))]),eI 17 (nV x0 x1 (some 162)),eB 18 (mE x0 x1 (some 162)),eB 19 (mE x0 x1 (some 162)),eB 20 (mE x0 x1 (some 162)),eB 22 (decide ((x0.length:Int)>=x3)),eW 23 0,eI 24 (x0.length:Int),eI 25 x3,eB 26 (decide ((x0.length:Int)>=x3)),eW 28 0,eI 30 (nV x0 x1 (some 162)),eT 31 fQ x1,eW 33 5] [cN fQ x0,some (fJ fQ [x1] true none (some false)),some (fJ La [some 162] true none (some false)),none,none,cN fQ (aBs (Zv x0) (nV x0 x1 (some 162)) [x1])]) pr
end
def aYO:Γ AT:=[qV eC,nM (mJ .i64),qV eC]
def aBt(x0:Γ b6)(x1:Int)(x2:Γ b6):Γ b6:=x0.take x1.toNat++(x2++x0.drop x1.toNat)
def bF3(x0:Γ b6)(x1:Int)(x2:Γ b6):Prop:=0<=x1/\x1<=x0.length/\x2.length=1/\x0.length<=1048576
def bF4:Am.Spec:={ sig:=aYO,pre:=λ⟨x0,x1,x2,_⟩=>bF3 x0 x1 x2,upd:=λ_=>[none,none],res:=λ⟨x0,x1,x2,_⟩=>[⟨rX eC,aBt x0 x1 x2⟩] }
def aYP:S0 268 bF4:=AJ B0<|aYI.contract Ij.2.1 OZ.2.1 VY.2.1 OY.2.1
def bF5:KK:=⟨268,bF4,aYP⟩
noncomputable section
def aI8(x0:b6):Δ:=x0.1
def aWf:KK:=mB Tryz.func165 [.v eC] [.str] [] nP (aI8,()) λ_=>pr
def bLD:jB:=D0 aDp [.v eC,.v eC,.p .fn] [.int .i64] [aF4,aWf]
def aPr(x0:b6)(x1:b6)(x2:Option Nat):Prop:=x2=some 165/\True
def V5(x0:b6)(x1:b6)(x2:Option Nat):Int:=GA (aI8 x0) (aI8 x1)
def bF6:KK:=mL bLD (DO aDp) aPr (V5,()) λ⟨x0,x1,x2,_⟩ h _ K q=>by
 obtain⟨rfl,h⟩:=h;exact tv<|tv<|tv<|rt
def V6:jB:=D0 aDq [.v (.sl eC),.v eC,.fn 267 [(true,.fn)]] [.int .i64,.bool] [bF6]
mutual
def aF7:Nat->Γ b6->Δ×Int×Int×Unit->Option Nat->Γ aS->Prop
 | 0,_,_,_,_=>False
 | n+1,x0,x1,x2,ds=>zC n 0 ((x0.length:Int)) x0 x2 x1 ds
def zC:Nat->Int->Int->Γ b6->Option Nat->Δ×Int×Int×Unit->Γ aS->Prop
 | 0,_,_,_,_,_,_=>False
 | n+1,v9,v10,x0,x2,x1,ds=>if decide (v9<v10)then bA .i64 (v9+v10)/\bA .u64 (v9+v10)/\bA .u64 (cT (v9+v10) 2)/\bA .i64 (cT (v9+v10) 2)/\0<=cT (v9+v10) 2/\cT (v9+v10) 2<(x0.length:Int)/\aPr (aD x0 (aE (cT (v9+v10) 2)) (aC,0,0,())) x1 x2/\if decide (V5 (aD x0 (aE (cT (v9+v10) 2)) (aC,0,0,())) x1 x2<0)then bA .i64 (cT (v9+v10) 2+1)/\zC n (cT (v9+v10) 2+1) v10 x0 x2 x1 ds else zC n v9 (cT (v9+v10) 2) x0 x2 x1 ds else if decide (v9<(x0.length:Int))then 0<=v9/\v9<(x0.length:Int)/\aPr (aD x0 (aE v9) (aC,0,0,())) x1 x2/\ds=[aJ (.int .i64) v9,aJ .bool (V5 (aD x0 (aE v9) (aC,0,0,())) x1 x2==0)] else ds=[aJ (.int .i64) v9,aJ .bool false]
end
def aI9(ds:Γ aS)(K:gU)(q:Nat->Value):∀n,(∀ {x0 x1 x2},aF7 n x0 x1 x2 ds->St V6 (x0,x1,(x2,()),()) ds [] K q)/\(∀ {v9 v10 x0 x2 x1},zC n v9 v10 x0 x2 x1 ds->Cu V6 3 ([eL 0 eC x0,(2,o9 267 [rD La x2]),eO 4 0 0 [],eI 8 (x0.length:Int),eI 9 v9,eI 10 v10],[some (fJ eC [x1] true none (some false))]) ds [] K q):=nI ⟨aH,aH⟩ λn ⟨i,i3⟩=>⟨cX i3,
  bU (aO<|aO<|pq 1<|aO<|aO<|eE<|aO<|bU (aO<|cX i3)<|cX i3)<|bU (eE<|aO dR) dR⟩
def Ip(x0:Γ b6)(x1:b6)(y0:Option Nat)(h:Nat):Bool:=decide (V5 (x0.getD h (aC,(0:Int),(0:Int),())) x1 y0<0)
def V7(x0:Γ b6)(x1:b6)(y0:Option Nat):Nat:=iC (Ip x0 x1 y0) (x0.length+1) 0 x0.length
def O1(x0:Γ b6)(x1:b6)(y0:Option Nat)(k:Nat):Bool:=if k<x0.length then V5 (x0.getD k (aC,(0:Int),(0:Int),())) x1 y0==0 else false
def nW(x0:Γ b6)(x1:b6)(y0:Option Nat):Int:=(V7 x0 x1 y0:Nat)
def mF(x0:Γ b6)(x1:b6)(y0:Option Nat):Bool:=O1 x0 x1 y0 (V7 x0 x1 y0)
def aF8(x0:Γ b6)(x1:b6)(y0:Option Nat):Prop:=x0.length<=4611686018427387903/\∀y∈x0,aPr y x1 y0
def aIA(x0:Γ b6)(x1:b6)(y0:Option Nat)(hm:x0.length<=4611686018427387903)(hp:∀y∈x0,aPr y x1 y0):∀(k i j:Nat),j-i<k->i<=j->j<=x0.length ->
  zC k (i:Int) (j:Int) x0 y0 x1 [⟨.int .i64,((iC (Ip x0 x1 y0) k i j:Nat):Int)⟩,⟨.bool,O1 x0 x1 y0 (iC (Ip x0 x1 y0) k i j)⟩]:=by
 intro k
 induction k with
 | zero=>lia
 | succ k ih =>
  intro i j h hij hj;rw[zC];by_cases hlt:i<j
  ·rw[π (by lia)];have e:cT ((i:Int)+(j:Int)) 2=(((i+j)/2:Nat):Int):=by
    lia
   have hP:=hp _ (bY x0 ((i+j)/2) (aC,(0:Int),(0:Int),()) (by lia));rw[e];refine⟨by rw[aK];lia,by rw[Il];lia,by rw[Il];lia,by rw[aK];lia,by lia,by lia,hP,?_⟩;simp only[iC,π hlt];by_cases hq:Ip x0 x1 y0 ((i+j)/2)=true
   ·rw[π hq];exact(π hq).mpr ⟨by rw[aK];lia,ih ((i+j)/2+1) j (by lia) (by lia) hj⟩
   ·rw[ν hq];exact(ν hq).mpr (ih i ((i+j)/2) (by lia) (by lia) (by lia))
  ·rw[ν (by lia)];simp only[iC,ν hlt,O1];by_cases hl:i<x0.length
   ·rw[π (by lia),π hl];exact⟨by lia,by lia,hp _ (bY x0 i (aC,(0:Int),(0:Int),()) hl),rfl⟩
   lia
def aM6:KK:=mL V6 (DO aDq) aF8 (nW,mF,()) (λ⟨x0,x1,⟨y0,_⟩,_⟩ h hwf K q =>
 (aI9 _ K q ((x0.length+1+1))).1 (by rw[aF7];exact aIA x0 x1 y0 h.1 h.2 (x0.length+1) 0 x0.length (by omega) (by omega) (aT _)))
def Ir(x0:Γ b6)(x1:b6)(x3:Int):Prop:=((aF8 x0 x1 (some 165))/\(if mF x0 x1 (some 165)=true then True else(if decide ((x0.length:Int)>=x3)=true then True else((P72 x0)/\(bF3 (Zw x0) (nW x0 x1 (some 165)) [x1])/\True))))
def vJ(x0:Γ b6)(x1:b6)(x3:Int):Γ b6:=if mF x0 x1 (some 165)then x0 else if decide ((x0.length:Int)>=x3)then x0 else aBt (Zw x0) (nW x0 x1 (some 165)) [x1]
def o0(x0:Γ b6)(x1:b6)(x3:Int):Int:=if mF x0 x1 (some 165)then 4 else if decide ((x0.length:Int)>=x3)then 5 else 0
def aM8:KK:=mV Tryz.func164 [.own eC,.v eC,.fn 165 [],.v (.int .i64)] [.sl eC,.int .i64] [bEI,bF5,aM6,aWf] Ir (λ_=>[none]) (vJ,o0,()) λ⟨⟨x0,x1,_,x3,_⟩,_⟩=>aO<|dP pr<|dP pr<|Hp λs1=>Hp λs2=>rY s1<|rY s2<|rY (bFl [eW 0 0,eT 1 eC x1,(2,o9 165 []),eI 3 x3,eO 5 1 0 [],eO 6 2 0 [],eW 8 5,eI 9 0,eI 10 (nW x0 x1 (some 165)),eB 11 (mF x0 x1 (some 165)),(12,gI [Tm (nW x0 x1 (some 165)),Nl (mF x0 x1 (some 165))]),eW 13 0,eT 14 eC x1,(15,o9 267 [Kq 2 0 []]),(16,gI [Tm (nW x0 x1 (some 165)),Nl (mF x0 x1 (some 165))]),eI 17 (nW x0 x1 (some 165)),eB 18 (mF x0 x1 (some 165)),eB 19 (mF x0 x1 (some 165)),eB 20 (mF x0 x1 (some 165)),eB 22 (decide ((x0.length:Int)>=x3)),eW 23 0,eI 24 (x0.length:Int),eI 25 x3,eB 26 (decide ((x0.length:Int)>=x3)),eW 28 0,eI 30 (nW x0 x1 (some 165)),eT 31 eC x1,eW 33 5] [cN eC x0,some (fJ eC [x1] true none (some false)),some (fJ La [some 165] true none (some false)),none,none,cN eC (aBt (Zw x0) (nW x0 x1 (some 165)) [x1])]) pr
end
def aYR:S0 272 bFz:=AJ B3<|aYJ.contract Ij.2.2.1 OZ.2.2.1 VY.2.2.1 OY.2.2.1
def bF9:KK:=⟨272,bFz,aYR⟩
noncomputable section
def aWg:KK:=mB Tryz.func168 [.v fQ] [.str] [] nP (aI5,()) λ_=>pr
def bLE:jB:=D0 aDr [.v fQ,.v fQ,.p .fn] [.int .i64] [aF4,aWg]
def aPs(x0:eR)(x1:eR)(x2:Option Nat):Prop:=x2=some 168/\True
def bFA:KK:=mL bLE (DO aDr) aPs (VZ,()) λ⟨x0,x1,x2,_⟩ h _ K q=>by
 obtain⟨rfl,h⟩:=h;exact tv<|tv<|tv<|rt
def V9:jB:=D0 aDs [.v (.sl fQ),.v fQ,.fn 271 [(true,.fn)]] [.int .i64,.bool] [bFA]
mutual
def aF9:Nat->Γ eR->Δ×Int×Int×Int×Unit->Option Nat->Γ aS->Prop
 | 0,_,_,_,_=>False
 | n+1,x0,x1,x2,ds=>zE n 0 ((x0.length:Int)) x0 x2 x1 ds
def zE:Nat->Int->Int->Γ eR->Option Nat->Δ×Int×Int×Int×Unit->Γ aS->Prop
 | 0,_,_,_,_,_,_=>False
 | n+1,v9,v10,x0,x2,x1,ds=>if decide (v9<v10)then bA .i64 (v9+v10)/\bA .u64 (v9+v10)/\bA .u64 (cT (v9+v10) 2)/\bA .i64 (cT (v9+v10) 2)/\0<=cT (v9+v10) 2/\cT (v9+v10) 2<(x0.length:Int)/\aPs (aD x0 (aE (cT (v9+v10) 2)) (aC,0,0,0,())) x1 x2/\if decide (VZ (aD x0 (aE (cT (v9+v10) 2)) (aC,0,0,0,())) x1 x2<0)then bA .i64 (cT (v9+v10) 2+1)/\zE n (cT (v9+v10) 2+1) v10 x0 x2 x1 ds else zE n v9 (cT (v9+v10) 2) x0 x2 x1 ds else if decide (v9<(x0.length:Int))then 0<=v9/\v9<(x0.length:Int)/\aPs (aD x0 (aE v9) (aC,0,0,0,())) x1 x2/\ds=[aJ (.int .i64) v9,aJ .bool (VZ (aD x0 (aE v9) (aC,0,0,0,())) x1 x2==0)] else ds=[aJ (.int .i64) v9,aJ .bool false]
end
def aIC(ds:Γ aS)(K:gU)(q:Nat->Value):∀n,(∀ {x0 x1 x2},aF9 n x0 x1 x2 ds->St V9 (x0,x1,(x2,()),()) ds [] K q)/\(∀ {v9 v10 x0 x2 x1},zE n v9 v10 x0 x2 x1 ds->Cu V9 3 ([eL 0 fQ x0,(2,o9 271 [rD La x2]),eO 4 0 0 [],eI 8 (x0.length:Int),eI 9 v9,eI 10 v10],[some (fJ fQ [x1] true none (some false))]) ds [] K q):=nI ⟨aH,aH⟩ λn ⟨i,i3⟩=>⟨cX i3,
  bU (aO<|aO<|pq 1<|aO<|aO<|eE<|aO<|bU (aO<|cX i3)<|cX i3)<|bU (eE<|aO dR) dR⟩
def aFA(x0:Γ eR)(x1:eR)(y0:Option Nat):Prop:=x0.length<=4611686018427387903/\∀y∈x0,aPs y x1 y0
def aID(x0:Γ eR)(x1:eR)(y0:Option Nat)(hm:x0.length<=4611686018427387903)(hp:∀y∈x0,aPs y x1 y0):∀(k i j:Nat),j-i<k->i<=j->j<=x0.length ->
  zE k (i:Int) (j:Int) x0 y0 x1 [⟨.int .i64,((iC (Ik x0 x1 y0) k i j:Nat):Int)⟩,⟨.bool,O0 x0 x1 y0 (iC (Ik x0 x1 y0) k i j)⟩]:=by
 intro k
 induction k with
 | zero=>lia
 | succ k ih =>
  intro i j h hij hj;rw[zE];by_cases hlt:i<j
  ·rw[π (by lia)];have e:cT ((i:Int)+(j:Int)) 2=(((i+j)/2:Nat):Int):=by
    lia
   have hP:=hp _ (bY x0 ((i+j)/2) (aC,(0:Int),(0:Int),(0:Int),()) (by lia));rw[e];refine⟨by rw[aK];lia,by rw[Il];lia,by rw[Il];lia,by rw[aK];lia,by lia,by lia,hP,?_⟩;simp only[iC,π hlt];by_cases hq:Ik x0 x1 y0 ((i+j)/2)=true
   ·rw[π hq];exact(π hq).mpr ⟨by rw[aK];lia,ih ((i+j)/2+1) j (by lia) (by lia) hj⟩
   ·rw[ν hq];exact(ν hq).mpr (ih i ((i+j)/2) (by lia) (by lia) (by lia))
  ·rw[ν (by lia)];simp only[iC,ν hlt,O0];by_cases hl:i<x0.length
   ·rw[π (by lia),π hl];exact⟨by lia,by lia,hp _ (bY x0 i (aC,(0:Int),(0:Int),(0:Int),()) hl),rfl⟩
   lia
def aM9:KK:=mL V9 (DO aDs) aFA (nV,mE,()) (λ⟨x0,x1,⟨y0,_⟩,_⟩ h hwf K q =>
 (aIC _ K q ((x0.length+1+1))).1 (by rw[aF9];exact aID x0 x1 y0 h.1 h.2 (x0.length+1) 0 x0.length (by omega) (by omega) (aT _)))
def Iu(x0:Γ eR)(x1:eR)(x3:Int):Prop:=((aFA x0 x1 (some 168))/\(if mE x0 x1 (some 168)=true then True else(if decide ((x0.length:Int)>=x3)=true then True else((P69 x0)/\(bFy (Zv x0) (nV x0 x1 (some 168)) [x1])/\True))))
def vK(x0:Γ eR)(x1:eR)(x3:Int):Γ eR:=if mE x0 x1 (some 168)then x0 else if decide ((x0.length:Int)>=x3)then x0 else aBs (Zv x0) (nV x0 x1 (some 168)) [x1]
def o3(x0:Γ eR)(x1:eR)(x3:Int):Int:=if mE x0 x1 (some 168)then 4 else if decide ((x0.length:Int)>=x3)then 5 else 0
def aMB:KK:=mV Tryz.func167 [.own fQ,.v fQ,.fn 168 [],.v (.int .i64)] [.sl fQ,.int .i64] [bEL,bF9,aM9,aWg] Iu (λ_=>[none]) (vK,o3,()) λ⟨⟨x0,x1,_,x3,_⟩,_⟩=>aO<|dP pr<|dP pr<|Hp λs1=>Hp λs2=>rY s1<|rY s2<|rY (bFl [eW 0 0,eT 1 fQ x1,(2,o9 168 []),eI 3 x3,eO 5 1 0 [],eO 6 2 0 [],eW 8 5,eI 9 0,eI 10 (nV x0 x1 (some 168)),eB 11 (mE x0 x1 (some 168)),(12,gI [Tm (nV x0 x1 (some 168)),Nl (mE x0 x1 (some 168))]),eW 13 0,eT 14 fQ x1,(15,o9 271 [Kq 2 0 []]),(16,gI [Tm (nV x0 x1 (some 168)),Nl (mE x0 x1 (some 168))]),eI 17 (nV x0 x1 (some 168)),eB 18 (mE x0 x1 (some 168)),eB 19 (mE x0 x1 (some 168)),eB 20 (mE x0 x1 (some 168)),eB 22 (decide ((x0.length:Int)>=x3)),eW 23 0,eI 24 (x0.length:Int),eI 25 x3,eB 26 (decide ((x0.length:Int)>=x3)),eW 28 0,eI 30 (nV x0 x1 (some 168)),eT 31 fQ x1,eW 33 5] [cN fQ x0,some (fJ fQ [x1] true none (some false)),some (fJ La [some 168] true none (some false)),none,none,cN fQ (aBs (Zv x0) (nV x0 x1 (some 168)) [x1])]) pr
end
def aYT:S0 276 bF4:=AJ B4<|aYK.contract Ij.2.2.2.1 OZ.2.2.2.1 VY.2.2.2.1 OY.2.2.2.1
def bFD:KK:=⟨276,bF4,aYT⟩
noncomputable section
def aWh:KK:=mB Tryz.func171 [.v eC] [.str] [] nP (aI8,()) λ_=>pr
def bLF:jB:=D0 aDt [.v eC,.v eC,.p .fn] [.int .i64] [aF4,aWh]
def aPt(x0:b6)(x1:b6)(x2:Option Nat):Prop:=x2=some 171/\True
def bFE:KK:=mL bLF (DO aDt) aPt (V5,()) λ⟨x0,x1,x2,_⟩ h _ K q=>by
 obtain⟨rfl,h⟩:=h;exact tv<|tv<|tv<|rt
def Vc:jB:=D0 aDu [.v (.sl eC),.v eC,.fn 275 [(true,.fn)]] [.int .i64,.bool] [bFE]
mutual
def aFB:Nat->Γ b6->Δ×Int×Int×Unit->Option Nat->Γ aS->Prop
 | 0,_,_,_,_=>False
 | n+1,x0,x1,x2,ds=>zF n 0 ((x0.length:Int)) x0 x2 x1 ds
def zF:Nat->Int->Int->Γ b6->Option Nat->Δ×Int×Int×Unit->Γ aS->Prop
 | 0,_,_,_,_,_,_=>False
 | n+1,v9,v10,x0,x2,x1,ds=>if decide (v9<v10)then bA .i64 (v9+v10)/\bA .u64 (v9+v10)/\bA .u64 (cT (v9+v10) 2)/\bA .i64 (cT (v9+v10) 2)/\0<=cT (v9+v10) 2/\cT (v9+v10) 2<(x0.length:Int)/\aPt (aD x0 (aE (cT (v9+v10) 2)) (aC,0,0,())) x1 x2/\if decide (V5 (aD x0 (aE (cT (v9+v10) 2)) (aC,0,0,())) x1 x2<0)then bA .i64 (cT (v9+v10) 2+1)/\zF n (cT (v9+v10) 2+1) v10 x0 x2 x1 ds else zF n v9 (cT (v9+v10) 2) x0 x2 x1 ds else if decide (v9<(x0.length:Int))then 0<=v9/\v9<(x0.length:Int)/\aPt (aD x0 (aE v9) (aC,0,0,())) x1 x2/\ds=[aJ (.int .i64) v9,aJ .bool (V5 (aD x0 (aE v9) (aC,0,0,())) x1 x2==0)] else ds=[aJ (.int .i64) v9,aJ .bool false]
end
def aIF(ds:Γ aS)(K:gU)(q:Nat->Value):∀n,(∀ {x0 x1 x2},aFB n x0 x1 x2 ds->St Vc (x0,x1,(x2,()),()) ds [] K q)/\(∀ {v9 v10 x0 x2 x1},zF n v9 v10 x0 x2 x1 ds->Cu Vc 3 ([eL 0 eC x0,(2,o9 275 [rD La x2]),eO 4 0 0 [],eI 8 (x0.length:Int),eI 9 v9,eI 10 v10],[some (fJ eC [x1] true none (some false))]) ds [] K q):=nI ⟨aH,aH⟩ λn ⟨i,i3⟩=>⟨cX i3,
  bU (aO<|aO<|pq 1<|aO<|aO<|eE<|aO<|bU (aO<|cX i3)<|cX i3)<|bU (eE<|aO dR) dR⟩
def aFC(x0:Γ b6)(x1:b6)(y0:Option Nat):Prop:=x0.length<=4611686018427387903/\∀y∈x0,aPt y x1 y0
def aIG(x0:Γ b6)(x1:b6)(y0:Option Nat)(hm:x0.length<=4611686018427387903)(hp:∀y∈x0,aPt y x1 y0):∀(k i j:Nat),j-i<k->i<=j->j<=x0.length ->
  zF k (i:Int) (j:Int) x0 y0 x1 [⟨.int .i64,((iC (Ip x0 x1 y0) k i j:Nat):Int)⟩,⟨.bool,O1 x0 x1 y0 (iC (Ip x0 x1 y0) k i j)⟩]:=by
 intro k
 induction k with
 | zero=>lia
 | succ k ih =>
  intro i j h hij hj;rw[zF];by_cases hlt:i<j
  ·rw[π (by lia)];have e:cT ((i:Int)+(j:Int)) 2=(((i+j)/2:Nat):Int):=by
    lia
   have hP:=hp _ (bY x0 ((i+j)/2) (aC,(0:Int),(0:Int),()) (by lia));rw[e];refine⟨by rw[aK];lia,by rw[Il];lia,by rw[Il];lia,by rw[aK];lia,by lia,by lia,hP,?_⟩;simp only[iC,π hlt];by_cases hq:Ip x0 x1 y0 ((i+j)/2)=true
   ·rw[π hq];exact(π hq).mpr ⟨by rw[aK];lia,ih ((i+j)/2+1) j (by lia) (by lia) hj⟩
   ·rw[ν hq];exact(ν hq).mpr (ih i ((i+j)/2) (by lia) (by lia) (by lia))
  ·rw[ν (by lia)];simp only[iC,ν hlt,O1];by_cases hl:i<x0.length
   ·rw[π (by lia),π hl];exact⟨by lia,by lia,hp _ (bY x0 i (aC,(0:Int),(0:Int),()) hl),rfl⟩
   lia
def aMC:KK:=mL Vc (DO aDu) aFC (nW,mF,()) (λ⟨x0,x1,⟨y0,_⟩,_⟩ h hwf K q =>
 (aIF _ K q ((x0.length+1+1))).1 (by rw[aFB];exact aIG x0 x1 y0 h.1 h.2 (x0.length+1) 0 x0.length (by omega) (by omega) (aT _)))
def Ix(x0:Γ b6)(x1:b6)(x3:Int):Prop:=((aFC x0 x1 (some 171))/\(if mF x0 x1 (some 171)=true then True else(if decide ((x0.length:Int)>=x3)=true then True else((P72 x0)/\(bF3 (Zw x0) (nW x0 x1 (some 171)) [x1])/\True))))
def vL(x0:Γ b6)(x1:b6)(x3:Int):Γ b6:=if mF x0 x1 (some 171)then x0 else if decide ((x0.length:Int)>=x3)then x0 else aBt (Zw x0) (nW x0 x1 (some 171)) [x1]
def o4(x0:Γ b6)(x1:b6)(x3:Int):Int:=if mF x0 x1 (some 171)then 4 else if decide ((x0.length:Int)>=x3)then 5 else 0
def aME:KK:=mV Tryz.func170 [.own eC,.v eC,.fn 171 [],.v (.int .i64)] [.sl eC,.int .i64] [bER,bFD,aMC,aWh] Ix (λ_=>[none]) (vL,o4,()) λ⟨⟨x0,x1,_,x3,_⟩,_⟩=>aO<|dP pr<|dP pr<|Hp λs1=>Hp λs2=>rY s1<|rY s2<|rY (bFl [eW 0 0,eT 1 eC x1,(2,o9 171 []),eI 3 x3,eO 5 1 0 [],eO 6 2 0 [],eW 8 5,eI 9 0,eI 10 (nW x0 x1 (some 171)),eB 11 (mF x0 x1 (some 171)),(12,gI [Tm (nW x0 x1 (some 171)),Nl (mF x0 x1 (some 171))]),eW 13 0,eT 14 eC x1,(15,o9 275 [Kq 2 0 []]),(16,gI [Tm (nW x0 x1 (some 171)),Nl (mF x0 x1 (some 171))]),eI 17 (nW x0 x1 (some 171)),eB 18 (mF x0 x1 (some 171)),eB 19 (mF x0 x1 (some 171)),eB 20 (mF x0 x1 (some 171)),eB 22 (decide ((x0.length:Int)>=x3)),eW 23 0,eI 24 (x0.length:Int),eI 25 x3,eB 26 (decide ((x0.length:Int)>=x3)),eW 28 0,eI 30 (nW x0 x1 (some 171)),eT 31 eC x1,eW 33 5] [cN eC x0,some (fJ eC [x1] true none (some false)),some (fJ La [some 171] true none (some false)),none,none,cN eC (aBt (Zw x0) (nW x0 x1 (some 171)) [x1])]) pr
end
def aYV:S0 279 bF4:=AJ B6<|aYL.contract Ij.2.2.2.2 OZ.2.2.2.2 VY.2.2.2.2 OY.2.2.2.2
def bFH:KK:=⟨279,bF4,aYV⟩
noncomputable section
def aWi:KK:=mB Tryz.func174 [.v eC] [.str] [] nP (aI8,()) λ_=>pr
def bLG:jB:=D0 aDv [.v eC,.v eC,.p .fn] [.int .i64] [aF4,aWi]
def aPu(x0:b6)(x1:b6)(x2:Option Nat):Prop:=x2=some 174/\True
def bFI:KK:=mL bLG (DO aDv) aPu (V5,()) λ⟨x0,x1,x2,_⟩ h _ K q=>by
 obtain⟨rfl,h⟩:=h;exact tv<|tv<|tv<|rt
def Vg:jB:=D0 aDw [.v (.sl eC),.v eC,.fn 278 [(true,.fn)]] [.int .i64,.bool] [bFI]
mutual
def aFD:Nat->Γ b6->Δ×Int×Int×Unit->Option Nat->Γ aS->Prop
 | 0,_,_,_,_=>False
 | n+1,x0,x1,x2,ds=>zG n 0 ((x0.length:Int)) x0 x2 x1 ds
def zG:Nat->Int->Int->Γ b6->Option Nat->Δ×Int×Int×Unit->Γ aS->Prop
 | 0,_,_,_,_,_,_=>False
 | n+1,v9,v10,x0,x2,x1,ds=>if decide (v9<v10)then bA .i64 (v9+v10)/\bA .u64 (v9+v10)/\bA .u64 (cT (v9+v10) 2)/\bA .i64 (cT (v9+v10) 2)/\0<=cT (v9+v10) 2/\cT (v9+v10) 2<(x0.length:Int)/\aPu (aD x0 (aE (cT (v9+v10) 2)) (aC,0,0,())) x1 x2/\if decide (V5 (aD x0 (aE (cT (v9+v10) 2)) (aC,0,0,())) x1 x2<0)then bA .i64 (cT (v9+v10) 2+1)/\zG n (cT (v9+v10) 2+1) v10 x0 x2 x1 ds else zG n v9 (cT (v9+v10) 2) x0 x2 x1 ds else if decide (v9<(x0.length:Int))then 0<=v9/\v9<(x0.length:Int)/\aPu (aD x0 (aE v9) (aC,0,0,())) x1 x2/\ds=[aJ (.int .i64) v9,aJ .bool (V5 (aD x0 (aE v9) (aC,0,0,())) x1 x2==0)] else ds=[aJ (.int .i64) v9,aJ .bool false]
end
def aII(ds:Γ aS)(K:gU)(q:Nat->Value):∀n,(∀ {x0 x1 x2},aFD n x0 x1 x2 ds->St Vg (x0,x1,(x2,()),()) ds [] K q)/\(∀ {v9 v10 x0 x2 x1},zG n v9 v10 x0 x2 x1 ds->Cu Vg 3 ([eL 0 eC x0,(2,o9 278 [rD La x2]),eO 4 0 0 [],eI 8 (x0.length:Int),eI 9 v9,eI 10 v10],[some (fJ eC [x1] true none (some false))]) ds [] K q):=nI ⟨aH,aH⟩ λn ⟨i,i3⟩=>⟨cX i3,
  bU (aO<|aO<|pq 1<|aO<|aO<|eE<|aO<|bU (aO<|cX i3)<|cX i3)<|bU (eE<|aO dR) dR⟩
def aFE(x0:Γ b6)(x1:b6)(y0:Option Nat):Prop:=x0.length<=4611686018427387903/\∀y∈x0,aPu y x1 y0
def aIJ(x0:Γ b6)(x1:b6)(y0:Option Nat)(hm:x0.length<=4611686018427387903)(hp:∀y∈x0,aPu y x1 y0):∀(k i j:Nat),j-i<k->i<=j->j<=x0.length ->
  zG k (i:Int) (j:Int) x0 y0 x1 [⟨.int .i64,((iC (Ip x0 x1 y0) k i j:Nat):Int)⟩,⟨.bool,O1 x0 x1 y0 (iC (Ip x0 x1 y0) k i j)⟩]:=by
 intro k
 induction k with
 | zero=>lia
 | succ k ih =>
  intro i j h hij hj;rw[zG];by_cases hlt:i<j
  ·rw[π (by lia)];have e:cT ((i:Int)+(j:Int)) 2=(((i+j)/2:Nat):Int):=by
    lia
   have hP:=hp _ (bY x0 ((i+j)/2) (aC,(0:Int),(0:Int),()) (by lia));rw[e];refine⟨by rw[aK];lia,by rw[Il];lia,by rw[Il];lia,by rw[aK];lia,by lia,by lia,hP,?_⟩;simp only[iC,π hlt];by_cases hq:Ip x0 x1 y0 ((i+j)/2)=true
   ·rw[π hq];exact(π hq).mpr ⟨by rw[aK];lia,ih ((i+j)/2+1) j (by lia) (by lia) hj⟩
   ·rw[ν hq];exact(ν hq).mpr (ih i ((i+j)/2) (by lia) (by lia) (by lia))
  ·rw[ν (by lia)];simp only[iC,ν hlt,O1];by_cases hl:i<x0.length
   ·rw[π (by lia),π hl];exact⟨by lia,by lia,hp _ (bY x0 i (aC,(0:Int),(0:Int),()) hl),rfl⟩
   lia
def aMF:KK:=mL Vg (DO aDw) aFE (nW,mF,()) (λ⟨x0,x1,⟨y0,_⟩,_⟩ h hwf K q =>
 (aII _ K q ((x0.length+1+1))).1 (by rw[aFD];exact aIJ x0 x1 y0 h.1 h.2 (x0.length+1) 0 x0.length (by omega) (by omega) (aT _)))
def JA(x0:Γ b6)(x1:b6)(x3:Int):Prop:=((aFE x0 x1 (some 174))/\(if mF x0 x1 (some 174)=true then True else(if decide ((x0.length:Int)>=x3)=true then True else((P72 x0)/\(bF3 (Zw x0) (nW x0 x1 (some 174)) [x1])/\True))))
def vM(x0:Γ b6)(x1:b6)(x3:Int):Γ b6:=if mF x0 x1 (some 174)then x0 else if decide ((x0.length:Int)>=x3)then x0 else aBt (Zw x0) (nW x0 x1 (some 174)) [x1]
def o5(x0:Γ b6)(x1:b6)(x3:Int):Int:=if mF x0 x1 (some 174)then 4 else if decide ((x0.length:Int)>=x3)then 5 else 0
def aMH:KK:=mV Tryz.func173 [.own eC,.v eC,.fn 174 [],.v (.int .i64)] [.sl eC,.int .i64] [bEU,bFH,aMF,aWi] JA (λ_=>[none]) (vM,o5,()) λ⟨⟨x0,x1,_,x3,_⟩,_⟩=>aO<|dP pr<|dP pr<|Hp λs1=>Hp λs2=>rY s1<|rY s2<|rY (bFl [eW 0 0,eT 1 eC x1,(2,o9 174 []),eI 3 x3,eO 5 1 0 [],eO 6 2 0 [],eW 8 5,eI 9 0,eI 10 (nW x0 x1 (some 174)),eB 11 (mF x0 x1 (some 174)),(12,gI [Tm (nW x0 x1 (some 174)),Nl (mF x0 x1 (some 174))]),eW 13 0,eT 14 eC x1,(15,o9 278 [Kq 2 0 []]),(16,gI [Tm (nW x0 x1 (some 174)),Nl (mF x0 x1 (some 174))]),eI 17 (nW x0 x1 (some 174)),eB 18 (mF x0 x1 (some 174)),eB 19 (mF x0 x1 (some 174)),eB 20 (mF x0 x1 (some 174)),eB 22 (decide ((x0.length:Int)>=x3)),eW 23 0,eI 24 (x0.length:Int),eI 25 x3,eB 26 (decide ((x0.length:Int)>=x3)),eW 28 0,eI 30 (nW x0 x1 (some 174)),eT 31 eC x1,eW 33 5] [cN eC x0,some (fJ eC [x1] true none (some false)),some (fJ La [some 174] true none (some false)),none,none,cN eC (aBt (Zw x0) (nW x0 x1 (some 174)) [x1])]) pr
def P77(x0:bV)(x1:Δ×Δ×Γ Int×Γ Int×Unit):Prop:=if aB x1.1==aB (aA #[98,101,110,100])then aTe x1.2.1/\Im x0.1 (mC x1.2.1) 12/\True else if aB x1.1==aB (aA #[119,111,114,107,101,114])then aM0 x1.2.1/\Ir x0.2.2.2.2.2.2.1 (lI x1.2.1) 12/\True else if aB x1.1==aB (aA #[102,97,114,101])then aTg x1.2.1/\Iu x0.2.2.2.2.2.2.2.2.1 (mD x1.2.1) 8/\True else if aB x1.1==aB (aA #[104,101,108,112,101,114])then aY5 x1.2.1/\Ix x0.2.2.2.2.2.2.2.2.2.2.1 (lJ x1.2.1) 10/\True else if aB x1.1==aB (aA #[116,97,115,107])then aY5 x1.2.1/\JA x0.2.2.2.2.2.2.2.2.2.2.2.1 (lJ x1.2.1) 8/\True else if aB x1.1==aB (aA #[104,111,117,114])then aTi x1.2.1/\aY7 x0.2.2.1 (oX x1.2.1) 48/\True else if aB x1.1==aB (aA #[116,101,115,116])then aF3 x1.2.1/\aYG x0.2.2.2.2.2.2.2.2.2.1 (qP x1.2.1)/\True else if aB x1.1==aB (aA #[114,111,112,101])then aTm x1.2.1/\True else if aB x1.1==aB (aA #[109,111,116,111,114])then aTi x1.2.1/\True else aTm x1.2.1/\True
def DI(x0:bV)(x1:Δ×Δ×Γ Int×Γ Int×Unit):Bool:=if aB x1.1==aB (aA #[98,101,110,100])then xO x1.2.1 else if aB x1.1==aB (aA #[119,111,114,107,101,114])then vF x1.2.1 else if aB x1.1==aB (aA #[102,97,114,101])then xQ x1.2.1 else if aB x1.1==aB (aA #[104,101,108,112,101,114])then vG x1.2.1 else if aB x1.1==aB (aA #[116,97,115,107])then vG x1.2.1 else if aB x1.1==aB (aA #[104,111,117,114])then zA x1.2.1 else if aB x1.1==aB (aA #[116,101,115,116])then CH x1.2.1 else if aB x1.1==aB (aA #[114,111,112,101])then Fx x1.2.1 else if aB x1.1==aB (aA #[109,111,116,111,114])then Fy x1.2.1 else Fz x1.2.1
def DJ(x0:bV)(x1:Δ×Δ×Γ Int×Γ Int×Unit):Int:=if aB x1.1==aB (aA #[98,101,110,100])then oZ x0.1 (mC x1.2.1) 12 else if aB x1.1==aB (aA #[119,111,114,107,101,114])then o0 x0.2.2.2.2.2.2.1 (lI x1.2.1) 12 else if aB x1.1==aB (aA #[102,97,114,101])then o3 x0.2.2.2.2.2.2.2.2.1 (mD x1.2.1) 8 else if aB x1.1==aB (aA #[104,101,108,112,101,114])then o4 x0.2.2.2.2.2.2.2.2.2.2.1 (lJ x1.2.1) 10 else if aB x1.1==aB (aA #[116,97,115,107])then o5 x0.2.2.2.2.2.2.2.2.2.2.2.1 (lJ x1.2.1) 8 else if aB x1.1==aB (aA #[104,111,117,114])then Dp x0.2.2.1 (oX x1.2.1) 48 else if aB x1.1==aB (aA #[116,101,115,116])then Dr x0.2.2.2.2.2.2.2.2.2.1 (qP x1.2.1)else if aB x1.1==aB (aA #[114,111,112,101])then 0 else if aB x1.1==aB (aA #[109,111,116,111,114])then 0 else 0
def DK(x0:bV)(x1:Δ×Δ×Γ Int×Γ Int×Unit):bV:=if aB x1.1==aB (aA #[98,101,110,100])then(vI x0.1 (mC x1.2.1) 12,x0.2.1,x0.2.2.1,x0.2.2.2.1,x0.2.2.2.2.1,x0.2.2.2.2.2.1,x0.2.2.2.2.2.2.1,x0.2.2.2.2.2.2.2.1,x0.2.2.2.2.2.2.2.2.1,x0.2.2.2.2.2.2.2.2.2.1,x0.2.2.2.2.2.2.2.2.2.2.1,x0.2.2.2.2.2.2.2.2.2.2.2.1,())else if aB x1.1==aB (aA #[119,111,114,107,101,114])then(x0.1,x0.2.1,x0.2.2.1,x0.2.2.2.1,x0.2.2.2.2.1,x0.2.2.2.2.2.1,vJ x0.2.2.2.2.2.2.1 (lI x1.2.1) 12,x0.2.2.2.2.2.2.2.1,x0.2.2.2.2.2.2.2.2.1,x0.2.2.2.2.2.2.2.2.2.1,x0.2.2.2.2.2.2.2.2.2.2.1,x0.2.2.2.2.2.2.2.2.2.2.2.1,())else if aB x1.1==aB (aA #[102,97,114,101])then(x0.1,x0.2.1,x0.2.2.1,x0.2.2.2.1,x0.2.2.2.2.1,x0.2.2.2.2.2.1,x0.2.2.2.2.2.2.1,x0.2.2.2.2.2.2.2.1,vK x0.2.2.2.2.2.2.2.2.1 (mD x1.2.1) 8,x0.2.2.2.2.2.2.2.2.2.1,x0.2.2.2.2.2.2.2.2.2.2.1,x0.2.2.2.2.2.2.2.2.2.2.2.1,())else if aB x1.1==aB (aA #[104,101,108,112,101,114])then(x0.1,x0.2.1,x0.2.2.1,x0.2.2.2.1,x0.2.2.2.2.1,x0.2.2.2.2.2.1,x0.2.2.2.2.2.2.1,x0.2.2.2.2.2.2.2.1,x0.2.2.2.2.2.2.2.2.1,x0.2.2.2.2.2.2.2.2.2.1,vL x0.2.2.2.2.2.2.2.2.2.2.1 (lJ x1.2.1) 10,x0.2.2.2.2.2.2.2.2.2.2.2.1,())else if aB x1.1==aB (aA #[116,97,115,107])then(x0.1,x0.2.1,x0.2.2.1,x0.2.2.2.1,x0.2.2.2.2.1,x0.2.2.2.2.2.1,x0.2.2.2.2.2.2.1,x0.2.2.2.2.2.2.2.1,x0.2.2.2.2.2.2.2.2.1,x0.2.2.2.2.2.2.2.2.2.1,x0.2.2.2.2.2.2.2.2.2.2.1,vM x0.2.2.2.2.2.2.2.2.2.2.2.1 (lJ x1.2.1) 8,())else if aB x1.1==aB (aA #[104,111,117,114])then(x0.1,x0.2.1,MT x0.2.2.1 (oX x1.2.1) 48,x0.2.2.2.1,x0.2.2.2.2.1,x0.2.2.2.2.2.1,x0.2.2.2.2.2.2.1,x0.2.2.2.2.2.2.2.1,x0.2.2.2.2.2.2.2.2.1,x0.2.2.2.2.2.2.2.2.2.1,x0.2.2.2.2.2.2.2.2.2.2.1,x0.2.2.2.2.2.2.2.2.2.2.2.1,())else if aB x1.1==aB (aA #[116,101,115,116])then(x0.1,x0.2.1,x0.2.2.1,x0.2.2.2.1,x0.2.2.2.2.1,x0.2.2.2.2.2.1,x0.2.2.2.2.2.2.1,x0.2.2.2.2.2.2.2.1,x0.2.2.2.2.2.2.2.2.1,If x0.2.2.2.2.2.2.2.2.2.1 (qP x1.2.1),x0.2.2.2.2.2.2.2.2.2.2.1,x0.2.2.2.2.2.2.2.2.2.2.2.1,())else if aB x1.1==aB (aA #[114,111,112,101])then(x0.1,(Ig x1.2.1),x0.2.2.1,x0.2.2.2.1,x0.2.2.2.2.1,x0.2.2.2.2.2.1,x0.2.2.2.2.2.2.1,x0.2.2.2.2.2.2.2.1,x0.2.2.2.2.2.2.2.2.1,x0.2.2.2.2.2.2.2.2.2.1,x0.2.2.2.2.2.2.2.2.2.2.1,x0.2.2.2.2.2.2.2.2.2.2.2.1,())else if aB x1.1==aB (aA #[109,111,116,111,114])then(x0.1,x0.2.1,x0.2.2.1,x0.2.2.2.1,(Ih x1.2.1),x0.2.2.2.2.2.1,x0.2.2.2.2.2.2.1,x0.2.2.2.2.2.2.2.1,x0.2.2.2.2.2.2.2.2.1,x0.2.2.2.2.2.2.2.2.2.1,x0.2.2.2.2.2.2.2.2.2.2.1,x0.2.2.2.2.2.2.2.2.2.2.2.1,())else(x0.1,x0.2.1,x0.2.2.1,x0.2.2.2.1,x0.2.2.2.2.1,x0.2.2.2.2.2.1,x0.2.2.2.2.2.2.1,(Ii x1.2.1),x0.2.2.2.2.2.2.2.2.1,x0.2.2.2.2.2.2.2.2.2.1,x0.2.2.2.2.2.2.2.2.2.2.1,x0.2.2.2.2.2.2.2.2.2.2.2.1,())
def bLI:KK:=mV Tryz.func77 [.po iU,.v K4] [.bool,.int .i64] [bEW,bFc,bFe,bFi,bFj,bFk,bFm,bFs,bFu,bFv,bFw,bFx,aM5,aM8,aMB,aME,aMH] P77 (λx=>[some ⟨.cons (.sl fQ) YA1,[DK x.1 x.2.1]⟩]) (DI,DJ,()) λ⟨⟨x0,x1,_⟩,_⟩=>rQ (aO<|Hp λs1=>rY s1<|rY (bFl [eP 0 8 0 iU,eT 1 K4 x1,eO 3 9 0 [],eB 4 false,eI 5 0,eB 6 (xO x1.2.1),eI 7 (oZ x0.1 (mC x1.2.1) 12),eO 8 10 0 [],eO 15 9 0 [0],eS 16 x1.1,eB 26 (aB x1.1==aB (aA #[98,101,110,100])),eB 27 (aB x1.1==aB (aA #[98,101,110,100])),(28,gI [nD fQ (mC x1.2.1),Nl (xO x1.2.1)]),eO 29 9 0 [1],eS 30 x1.2.1,(31,gI [nD fQ (mC x1.2.1),Nl (xO x1.2.1)]),eT 32 fQ (mC x1.2.1),eB 33 (xO x1.2.1),(34,gI [pT 11 none,Tm (oZ x0.1 (mC x1.2.1) 12)]),eP 35 8 0 iU,eP 36 8 0 iU,eP 37 8 0 iU,eP 38 8 0 (.sl fQ),eT 40 fQ (mC x1.2.1),(41,gI [pT 11 none,Tm (oZ x0.1 (mC x1.2.1) 12)]),eW 42 11,eI 43 (oZ x0.1 (mC x1.2.1) 12),eP 44 8 0 iU,eP 45 8 0 (.sl fQ)] [none,cN dX x0.2.2.1,cN dX x0.2.2.2.1,cN eC x0.2.2.2.2.2.2.1,cN fQ x0.2.2.2.2.2.2.2.2.1,cN dX x0.2.2.2.2.2.2.2.2.2.1,cN eC x0.2.2.2.2.2.2.2.2.2.2.1,cN eC x0.2.2.2.2.2.2.2.2.2.2.2.1,QW x0 11 1 2 3 4 5 6 7,some (fJ K4 [x1] true none (some false)),some (fJ fQ [mC x1.2.1] true none (some false)),cN fQ (vI x0.1 (mC x1.2.1) 12)]) pr)<|rQ (aO<|Hp λs1=>rY s1<|rY (bFl [eP 0 8 0 iU,eT 1 K4 x1,eO 3 9 0 [],eB 4 false,eI 5 0,eB 6 (vF x1.2.1),eI 7 (o0 x0.2.2.2.2.2.2.1 (lI x1.2.1) 12),eO 9 10 0 [],eO 15 9 0 [0],eS 16 x1.1,eB 26 (aB x1.1==aB (aA #[98,101,110,100])),eB 27 (aB x1.1==aB (aA #[98,101,110,100])),eB 46 (aB x1.1==aB (aA #[119,111,114,107,101,114])),eB 47 (aB x1.1==aB (aA #[119,111,114,107,101,114])),(48,gI [nD eC (lI x1.2.1),Nl (vF x1.2.1)]),eO 49 9 0 [1],eS 50 x1.2.1,(51,gI [nD eC (lI x1.2.1),Nl (vF x1.2.1)]),eT 52 eC (lI x1.2.1),eB 53 (vF x1.2.1),(54,gI [pT 11 none,Tm (o0 x0.2.2.2.2.2.2.1 (lI x1.2.1) 12)]),eP 55 8 0 iU,eP 56 8 0 iU,eP 57 8 0 iU,eP 58 8 13 (.sl eC),eT 60 eC (lI x1.2.1),(61,gI [pT 11 none,Tm (o0 x0.2.2.2.2.2.2.1 (lI x1.2.1) 12)]),eW 62 11,eI 63 (o0 x0.2.2.2.2.2.2.1 (lI x1.2.1) 12),eP 64 8 0 iU,eP 65 8 13 (.sl eC)] [cN fQ x0.1,cN dX x0.2.2.1,cN dX x0.2.2.2.1,none,cN fQ x0.2.2.2.2.2.2.2.2.1,cN dX x0.2.2.2.2.2.2.2.2.2.1,cN eC x0.2.2.2.2.2.2.2.2.2.2.1,cN eC x0.2.2.2.2.2.2.2.2.2.2.2.1,QW x0 0 1 2 11 4 5 6 7,some (fJ K4 [x1] true none (some false)),some (fJ eC [lI x1.2.1] true none (some false)),cN eC (vJ x0.2.2.2.2.2.2.1 (lI x1.2.1) 12)]) pr)<|rQ (aO<|Hp λs1=>rY s1<|rY (bFl [eP 0 8 0 iU,eT 1 K4 x1,eO 3 9 0 [],eB 4 false,eI 5 0,eB 6 (xQ x1.2.1),eI 7 (o3 x0.2.2.2.2.2.2.2.2.1 (mD x1.2.1) 8),eO 10 10 0 [],eO 15 9 0 [0],eS 16 x1.1,eB 26 (aB x1.1==aB (aA #[98,101,110,100])),eB 27 (aB x1.1==aB (aA #[98,101,110,100])),eB 46 (aB x1.1==aB (aA #[119,111,114,107,101,114])),eB 47 (aB x1.1==aB (aA #[119,111,114,107,101,114])),eB 66 (aB x1.1==aB (aA #[102,97,114,101])),eB 67 (aB x1.1==aB (aA #[102,97,114,101])),(68,gI [nD fQ (mD x1.2.1),Nl (xQ x1.2.1)]),eO 69 9 0 [1],eS 70 x1.2.1,(71,gI [nD fQ (mD x1.2.1),Nl (xQ x1.2.1)]),eT 72 fQ (mD x1.2.1),eB 73 (xQ x1.2.1),(74,gI [pT 11 none,Tm (o3 x0.2.2.2.2.2.2.2.2.1 (mD x1.2.1) 8)]),eP 75 8 0 iU,eP 76 8 0 iU,eP 77 8 0 iU,eP 78 8 18 (.sl fQ),eT 80 fQ (mD x1.2.1),(81,gI [pT 11 none,Tm (o3 x0.2.2.2.2.2.2.2.2.1 (mD x1.2.1) 8)]),eW 82 11,eI 83 (o3 x0.2.2.2.2.2.2.2.2.1 (mD x1.2.1) 8),eP 84 8 0 iU,eP 85 8 18 (.sl fQ)] [cN fQ x0.1,cN dX x0.2.2.1,cN dX x0.2.2.2.1,cN eC x0.2.2.2.2.2.2.1,none,cN dX x0.2.2.2.2.2.2.2.2.2.1,cN eC x0.2.2.2.2.2.2.2.2.2.2.1,cN eC x0.2.2.2.2.2.2.2.2.2.2.2.1,QW x0 0 1 2 3 11 5 6 7,some (fJ K4 [x1] true none (some false)),some (fJ fQ [mD x1.2.1] true none (some false)),cN fQ (vK x0.2.2.2.2.2.2.2.2.1 (mD x1.2.1) 8)]) pr)<|rQ (aO<|Hp λs1=>rY s1<|rY (bFl [eP 0 8 0 iU,eT 1 K4 x1,eO 3 9 0 [],eB 4 false,eI 5 0,eB 6 (vG x1.2.1),eI 7 (o4 x0.2.2.2.2.2.2.2.2.2.2.1 (lJ x1.2.1) 10),eO 11 10 0 [],eO 15 9 0 [0],eS 16 x1.1,eB 26 (aB x1.1==aB (aA #[98,101,110,100])),eB 27 (aB x1.1==aB (aA #[98,101,110,100])),eB 46 (aB x1.1==aB (aA #[119,111,114,107,101,114])),eB 47 (aB x1.1==aB (aA #[119,111,114,107,101,114])),eB 66 (aB x1.1==aB (aA #[102,97,114,101])),eB 67 (aB x1.1==aB (aA #[102,97,114,101])),eB 86 (aB x1.1==aB (aA #[104,101,108,112,101,114])),eB 87 (aB x1.1==aB (aA #[104,101,108,112,101,114])),(88,gI [nD eC (lJ x1.2.1),Nl (vG x1.2.1)]),eO 89 9 0 [1],eS 90 x1.2.1,(91,gI [nD eC (lJ x1.2.1),Nl (vG x1.2.1)]),eT 92 eC (lJ x1.2.1),eB 93 (vG x1.2.1),(94,gI [pT 11 none,Tm (o4 x0.2.2.2.2.2.2.2.2.2.2.1 (lJ x1.2.1) 10)]),eP 95 8 0 iU,eP 96 8 0 iU,eP 97 8 0 iU,eP 98 8 20 (.sl eC),eT 100 eC (lJ x1.2.1),(101,gI [pT 11 none,Tm (o4 x0.2.2.2.2.2.2.2.2.2.2.1 (lJ x1.2.1) 10)]),eW 102 11,eI 103 (o4 x0.2.2.2.2.2.2.2.2.2.2.1 (lJ x1.2.1) 10),eP 104 8 0 iU,eP 105 8 20 (.sl eC)] [cN fQ x0.1,cN dX x0.2.2.1,cN dX x0.2.2.2.1,cN eC x0.2.2.2.2.2.2.1,cN fQ x0.2.2.2.2.2.2.2.2.1,cN dX x0.2.2.2.2.2.2.2.2.2.1,none,cN eC x0.2.2.2.2.2.2.2.2.2.2.2.1,QW x0 0 1 2 3 4 5 11 7,some (fJ K4 [x1] true none (some false)),some (fJ eC [lJ x1.2.1] true none (some false)),cN eC (vL x0.2.2.2.2.2.2.2.2.2.2.1 (lJ x1.2.1) 10)]) pr)<|rQ (aO<|Hp λs1=>rY s1<|rY (bFl [eP 0 8 0 iU,eT 1 K4 x1,eO 3 9 0 [],eB 4 false,eI 5 0,eB 6 (vG x1.2.1),eI 7 (o5 x0.2.2.2.2.2.2.2.2.2.2.2.1 (lJ x1.2.1) 8),eO 12 10 0 [],eO 15 9 0 [0],eS 16 x1.1,eB 26 (aB x1.1==aB (aA #[98,101,110,100])),eB 27 (aB x1.1==aB (aA #[98,101,110,100])),eB 46 (aB x1.1==aB (aA #[119,111,114,107,101,114])),eB 47 (aB x1.1==aB (aA #[119,111,114,107,101,114])),eB 66 (aB x1.1==aB (aA #[102,97,114,101])),eB 67 (aB x1.1==aB (aA #[102,97,114,101])),eB 86 (aB x1.1==aB (aA #[104,101,108,112,101,114])),eB 87 (aB x1.1==aB (aA #[104,101,108,112,101,114])),eB 106 (aB x1.1==aB (aA #[116,97,115,107])),eB 107 (aB x1.1==aB (aA #[116,97,115,107])),(108,gI [nD eC (lJ x1.2.1),Nl (vG x1.2.1)]),eO 109 9 0 [1],eS 110 x1.2.1,(111,gI [nD eC (lJ x1.2.1),Nl (vG x1.2.1)]),eT 112 eC (lJ x1.2.1),eB 113 (vG x1.2.1),(114,gI [pT 11 none,Tm (o5 x0.2.2.2.2.2.2.2.2.2.2.2.1 (lJ x1.2.1) 8)]),eP 115 8 0 iU,eP 116 8 0 iU,eP 117 8 0 iU,eP 118 8 21 (.sl eC),eT 120 eC (lJ x1.2.1),(121,gI [pT 11 none,Tm (o5 x0.2.2.2.2.2.2.2.2.2.2.2.1 (lJ x1.2.1) 8)]),eW 122 11,eI 123 (o5 x0.2.2.2.2.2.2.2.2.2.2.2.1 (lJ x1.2.1) 8),eP 124 8 0 iU,eP 125 8 21 (.sl eC)] [cN fQ x0.1,cN dX x0.2.2.1,cN dX x0.2.2.2.1,cN eC x0.2.2.2.2.2.2.1,cN fQ x0.2.2.2.2.2.2.2.2.1,cN dX x0.2.2.2.2.2.2.2.2.2.1,cN eC x0.2.2.2.2.2.2.2.2.2.2.1,none,QW x0 0 1 2 3 4 5 6 11,some (fJ K4 [x1] true none (some false)),some (fJ eC [lJ x1.2.1] true none (some false)),cN eC (vM x0.2.2.2.2.2.2.2.2.2.2.2.1 (lJ x1.2.1) 8)]) pr)<|rQ (aO<|Hp λs1=>rY s1<|rY (bFl [eP 0 8 0 iU,eT 1 K4 x1,eO 3 9 0 [],eB 4 false,eI 5 0,eB 6 (zA x1.2.1),eI 7 (Dp x0.2.2.1 (oX x1.2.1) 48),eO 13 10 0 [],eO 15 9 0 [0],eS 16 x1.1,eB 26 (aB x1.1==aB (aA #[98,101,110,100])),eB 27 (aB x1.1==aB (aA #[98,101,110,100])),eB 46 (aB x1.1==aB (aA #[119,111,114,107,101,114])),eB 47 (aB x1.1==aB (aA #[119,111,114,107,101,114])),eB 66 (aB x1.1==aB (aA #[102,97,114,101])),eB 67 (aB x1.1==aB (aA #[102,97,114,101])),eB 86 (aB x1.1==aB (aA #[104,101,108,112,101,114])),eB 87 (aB x1.1==aB (aA #[104,101,108,112,101,114])),eB 106 (aB x1.1==aB (aA #[116,97,115,107])),eB 107 (aB x1.1==aB (aA #[116,97,115,107])),eB 126 (aB x1.1==aB (aA #[104,111,117,114])),eB 127 (aB x1.1==aB (aA #[104,111,117,114])),(128,gI [nD dX (oX x1.2.1),Nl (zA x1.2.1)]),eO 129 9 0 [1],eS 130 x1.2.1,(131,gI [nD dX (oX x1.2.1),Nl (zA x1.2.1)]),eT 132 dX (oX x1.2.1),eB 133 (zA x1.2.1),(134,gI [pT 11 none,Tm (Dp x0.2.2.1 (oX x1.2.1) 48)]),eP 135 8 0 iU,eP 136 8 0 iU,eP 137 8 0 iU,eP 138 8 5 (.sl dX),eT 140 dX (oX x1.2.1),(141,gI [pT 11 none,Tm (Dp x0.2.2.1 (oX x1.2.1) 48)]),eW 142 11,eI 143 (Dp x0.2.2.1 (oX x1.2.1) 48),eP 144 8 0 iU,eP 145 8 5 (.sl dX)] [cN fQ x0.1,none,cN dX x0.2.2.2.1,cN eC x0.2.2.2.2.2.2.1,cN fQ x0.2.2.2.2.2.2.2.2.1,cN dX x0.2.2.2.2.2.2.2.2.2.1,cN eC x0.2.2.2.2.2.2.2.2.2.2.1,cN eC x0.2.2.2.2.2.2.2.2.2.2.2.1,QW x0 0 11 2 3 4 5 6 7,some (fJ K4 [x1] true none (some false)),some (fJ dX [oX x1.2.1] true none (some false)),cN dX (MT x0.2.2.1 (oX x1.2.1) 48)]) pr)<|rQ (aO<|aO pr)<|rQ (aO pr)<|rQ (aO pr)<|aO pr
def bFJ:KK:=mB Tryz.func283 [.v (.int .i64)] [.bool] [lH] nP (aIu,()) λ_=>bS pr
def aYW(x0:c7):Prop:=if !I9 x0 then True else bA .i64 (x0.2.1+1)/\True
def Vi(x0:c7):c7:=if !I9 x0 then x0 else if decide (x0.2.1+1<3)then(x0.1,x0.2.1+1,x0.2.2)else if x0.1==3 then(0,0,0,())else if x0.2.2.1==0 then(2,0,0,())else(3,0,x0.2.2.1,())
def bFK:KK:=mB Tryz.func353 [.v dX] [.cons Jy YA7] [aVK] aYW (Vi,()) λ_=>bS<|tH pr<|aO<|fP pr<|fP pr<|fP pr pr
def aYX(x0:c7)(x1:Int):Prop:=if x1==4 then aYW x0/\True else if x1==1 then True else if x1==2 then(if x0.1==2 then True else if x1==3 then(if x0.1==3 then(if decide (x0.2.2.1<3)then bA .i64 (x0.2.2.1+1)/\True else True)else True)else True)else if x1==3 then(if x0.1==3 then(if decide (x0.2.2.1<3)then bA .i64 (x0.2.2.1+1)/\True else True)else True)else True
def Qc(x0:c7)(x1:Int):c7:=if x1==4 then Vi x0 else if x1==1 then(if x0.1==0 then(1,0,0,())else if x0.1==3 then(1,0,0,())else if x1==2 then(if x0.1==2 then(3,0,0,())else if x1==3 then x0 else x0)else if x1==3 then x0 else x0)else if x1==2 then(if x0.1==2 then(3,0,0,())else if x1==3 then(if x0.1==3 then(if decide (x0.2.2.1<3)then(1,0,x0.2.2.1+1,())else x0)else x0)else x0)else if x1==3 then(if x0.1==3 then(if decide (x0.2.2.1<3)then(1,0,x0.2.2.1+1,())else x0)else x0)else x0
def Vj(x0:c7)(x1:Int):Bool:=if x1==4 then true else if x1==1 then(if x0.1==0 then true else if x0.1==3 then true else if x1==2 then(if x0.1==2 then true else if x1==3 then false else false)else if x1==3 then false else false)else if x1==2 then(if x0.1==2 then true else if x1==3 then(if x0.1==3 then(if decide (x0.2.2.1<3)then true else false)else false)else false)else if x1==3 then(if x0.1==3 then(if decide (x0.2.2.1<3)then true else false)else false)else false
def bFL:KK:=mB Tryz.func284 [.v dX,.v (.int .i64)] [.cons Jy YA7,.bool] [bFK] aYX (Qc,Vj,()) λ_=>dP (aO pr)<|dP (vD (j0 pr)<|bLd (λb3=>pr) λb3=>vD (vD pr<|vD (pkF b3<|dN pr)<|dN<|dN pr)<|dN<|vD (pkF b3<|dN pr)<|dN<|dN pr)<|dN<|dP (dP pr<|dP (dP (dP (aO pr) pr)<|dN pr)<|dN<|dN pr)<|dN<|dP (dP (dP (aO pr) pr)<|dN pr)<|dN<|dN pr
def aYY(x0:c7)(x1:Int):Prop:=if !lA x0 then True else if !aIu x1 then True else aYX x0 x1/\True
def xR(x0:c7)(x1:Int):c7:=if !lA x0 then(0,0,0,())else if !aIu x1 then(0,0,0,())else if !Vj x0 x1 then(0,0,0,())else Qc x0 x1
def sL(x0:c7)(x1:Int):Int:=if !lA x0 then 1 else if !aIu x1 then 2 else if !Vj x0 x1 then 6 else 0
def bFM:KK:=mB Tryz.func182 [.v dX,.v (.int .i64)] [.cons Jy YA7,.int .i64] [aXK,bFJ,bFL] aYY (xR,sL,()) λ_=>bS<|dP pr<|bS<|dP pr<|aO<|vD pr pr
def aYZ(x0:Int):Prop:=if !bH x0 0 3 then True else 0<=x0/\x0<4/\True
def rK(x0:Int):Δ:=if !bH x0 0 3 then aA #[] else aD [aA #[115,104,117,116],aA #[111,112,101,110,105,110,103],aA #[111,112,101,110],aA #[115,104,117,116,116,105,110,103]] (aE x0) aC
def bFN:KK:=mB Tryz.func285 [.v (.int .i64)] [.str] [lH] aYZ (rK,()) λ_=>bS<|tH pr<|eE pr
def aZa(x0:c7):Prop:=if !lA x0 then True else aYZ x0.1/\aG (rK x0.1)+1<=9223372036854775807/\Cr x0.2.1/\aG (rK x0.1++aA #[47])+aG (dF x0.2.1)<=9223372036854775807/\aG (rK x0.1++aA #[47]++dF x0.2.1)+1<=9223372036854775807/\Cr x0.2.2.1/\aG (rK x0.1++aA #[47]++dF x0.2.1++aA #[47])+aG (dF x0.2.2.1)<=9223372036854775807/\True
def zH(x0:c7):Δ:=if !lA x0 then aA #[] else rK x0.1++aA #[47]++dF x0.2.1++aA #[47]++dF x0.2.2.1
def bFO:KK:=mB Tryz.func183 [.v dX] [.str] [aXK,bFN,OS] aZa (zH,()) λ_=>bS<|tH pr<|aO<|aO<|aO<|aO<|aO<|aO<|aO pr
def bFQ:KK:=mV Tryz.func184 [.own dX,.v dX,.v (.int .i64)] [.sl dX,.int .i64] [bEF] aY7 (λ_=>[none]) (MT,Dp,()) λ⟨⟨x0,x1,x2,_⟩,_⟩=>dP pr<|Hp λs0=>Hp λs1=>rY s0<|rY s1<|rY (bFl [eW 0 0,eT 1 dX x1,eI 2 x2,eO 4 1 0 [],eW 6 2,eI 7 0,eW 8 0,eI 9 (x0.length:Int),eI 10 x2,eB 11 (decide ((x0.length:Int)>=x2)),eW 13 0,eT 15 dX x1,eW 16 3,eW 17 2] [cN dX x0,some (fJ dX [x1] true none (some false)),cN dX (aFy x0++[x1]),cN dX [x1]]) pr
def P78(x0:bV)(x1:Δ×Δ×Γ Int×Γ Int×Unit):Prop:=if aB x1.1==aB (aA #[101,118,101,110,116])then 0<(x1.2.2.1.length:Int)/\aYY x0.2.2.2.2.2.1 (aD x1.2.2.1 0 0)/\if sL x0.2.2.2.2.2.1 (aD x1.2.2.1 0 0) != 0 then True else aZa (xR x0.2.2.2.2.2.1 (aD x1.2.2.1 0 0))/\True else 0<(x1.2.2.1.length:Int)/\1<(x1.2.2.1.length:Int)/\2<(x1.2.2.1.length:Int)/\if !qK (aD x1.2.2.1 0 0,aD x1.2.2.1 1 0,aD x1.2.2.1 2 0,())then True else aY7 x0.2.2.2.1 (aD x1.2.2.1 0 0,aD x1.2.2.1 1 0,aD x1.2.2.1 2 0,()) 8/\True
def Sa(x0:bV)(x1:Δ×Δ×Γ Int×Γ Int×Unit):Γ Δ:=if aB x1.1==aB (aA #[101,118,101,110,116])then(if sL x0.2.2.2.2.2.1 (aD x1.2.2.1 0 0) != 0 then [] else [zH (xR x0.2.2.2.2.2.1 (aD x1.2.2.1 0 0))])else if !qK (aD x1.2.2.1 0 0,aD x1.2.2.1 1 0,aD x1.2.2.1 2 0,())then [] else [aA #[111,107]]
def Sb(x0:bV)(x1:Δ×Δ×Γ Int×Γ Int×Unit):Int:=if aB x1.1==aB (aA #[101,118,101,110,116])then(if sL x0.2.2.2.2.2.1 (aD x1.2.2.1 0 0) != 0 then sL x0.2.2.2.2.2.1 (aD x1.2.2.1 0 0)else 0)else if !qK (aD x1.2.2.1 0 0,aD x1.2.2.1 1 0,aD x1.2.2.1 2 0,())then 2 else Dp x0.2.2.2.1 (aD x1.2.2.1 0 0,aD x1.2.2.1 1 0,aD x1.2.2.1 2 0,()) 8
def Sc(x0:bV)(x1:Δ×Δ×Γ Int×Γ Int×Unit):bV:=if aB x1.1==aB (aA #[101,118,101,110,116])then(if sL x0.2.2.2.2.2.1 (aD x1.2.2.1 0 0) != 0 then x0 else(x0.1,x0.2.1,x0.2.2.1,x0.2.2.2.1,x0.2.2.2.2.1,(xR x0.2.2.2.2.2.1 (aD x1.2.2.1 0 0)),x0.2.2.2.2.2.2.1,x0.2.2.2.2.2.2.2.1,x0.2.2.2.2.2.2.2.2.1,x0.2.2.2.2.2.2.2.2.2.1,x0.2.2.2.2.2.2.2.2.2.2.1,x0.2.2.2.2.2.2.2.2.2.2.2.1,()))else if !qK (aD x1.2.2.1 0 0,aD x1.2.2.1 1 0,aD x1.2.2.1 2 0,())then x0 else(x0.1,x0.2.1,x0.2.2.1,MT x0.2.2.2.1 (aD x1.2.2.1 0 0,aD x1.2.2.1 1 0,aD x1.2.2.1 2 0,()) 8,x0.2.2.2.2.1,x0.2.2.2.2.2.1,x0.2.2.2.2.2.2.1,x0.2.2.2.2.2.2.2.1,x0.2.2.2.2.2.2.2.2.1,x0.2.2.2.2.2.2.2.2.2.1,x0.2.2.2.2.2.2.2.2.2.2.1,x0.2.2.2.2.2.2.2.2.2.2.2.1,())
def bLK:KK:=mV Tryz.func78 [.po iU,.v K4] [.sl .str,.int .i64] [bFM,bFO,aVI,bFQ] P78 (λx=>[some ⟨.cons (.sl fQ) YA1,[Sc x.1 x.2.1]⟩]) (Sa,Sb,()) λ⟨⟨x0,x1,_⟩,_⟩=>rQ (pq 0<|aO<|aO<|rQ pr<|aO pr)<|pq 0<|aO<|pq 1<|aO<|pq 2<|aO<|bS<|rQ pr<|Hp λs3=>rY s3<|rY (bFl [eP 0 8 0 iU,eT 1 K4 x1,eO 3 9 0 [],(4,.a (.val (.slice none 0 0))),eI 5 0,eO 8 10 0 [],eI 9 (Dp x0.2.2.2.1 (aD x1.2.2.1 0 0,aD x1.2.2.1 1 0,aD x1.2.2.1 2 0,()) 8),eO 10 9 0 [0],eS 11 x1.1,eB 12 (aB x1.1==aB (aA #[101,118,101,110,116])),eO 35 9 0 [2],eL 36 (.int .i64) x1.2.2.1,(37,.a (.ptr (.int .i64) (aD x1.2.2.1 0 0))),eI 38 (aD x1.2.2.1 0 0),eO 39 9 0 [2],eL 40 (.int .i64) x1.2.2.1,(41,.a (.ptr (.int .i64) (aD x1.2.2.1 1 0))),eI 42 (aD x1.2.2.1 1 0),eO 43 9 0 [2],eL 44 (.int .i64) x1.2.2.1,(45,.a (.ptr (.int .i64) (aD x1.2.2.1 2 0))),eI 46 (aD x1.2.2.1 2 0),eT 47 dX (aD x1.2.2.1 0 0,aD x1.2.2.1 1 0,aD x1.2.2.1 2 0,()),eT 48 dX (aD x1.2.2.1 0 0,aD x1.2.2.1 1 0,aD x1.2.2.1 2 0,()),eB 49 (qK (aD x1.2.2.1 0 0,aD x1.2.2.1 1 0,aD x1.2.2.1 2 0,())),eB 50 (!qK (aD x1.2.2.1 0 0,aD x1.2.2.1 1 0,aD x1.2.2.1 2 0,())),(51,gI [pT 11 none,Tm (Dp x0.2.2.2.1 (aD x1.2.2.1 0 0,aD x1.2.2.1 1 0,aD x1.2.2.1 2 0,()) 8)]),eP 52 8 0 iU,eP 53 8 0 iU,eP 54 8 0 iU,eP 55 8 6 (.sl dX),eT 57 dX (aD x1.2.2.1 0 0,aD x1.2.2.1 1 0,aD x1.2.2.1 2 0,()),(58,gI [pT 11 none,Tm (Dp x0.2.2.2.1 (aD x1.2.2.1 0 0,aD x1.2.2.1 1 0,aD x1.2.2.1 2 0,()) 8)]),eW 59 11,eI 60 (Dp x0.2.2.2.1 (aD x1.2.2.1 0 0,aD x1.2.2.1 1 0,aD x1.2.2.1 2 0,()) 8),eP 61 8 0 iU,eP 62 8 6 (.sl dX)] [cN fQ x0.1,cN dX x0.2.2.1,none,cN eC x0.2.2.2.2.2.2.1,cN fQ x0.2.2.2.2.2.2.2.2.1,cN dX x0.2.2.2.2.2.2.2.2.2.1,cN eC x0.2.2.2.2.2.2.2.2.2.2.1,cN eC x0.2.2.2.2.2.2.2.2.2.2.2.1,QW x0 0 1 11 3 4 5 6 7,some (fJ K4 [x1] true none (some false)),some (fJ dX [(aD x1.2.2.1 0 0,aD x1.2.2.1 1 0,aD x1.2.2.1 2 0,())] true none (some false)),cN dX (MT x0.2.2.2.1 (aD x1.2.2.1 0 0,aD x1.2.2.1 1 0,aD x1.2.2.1 2 0,()) 8)]) pr
def Qd(x0:Int):Bool:=bH x0 0 5000
def bFR:KK:=mB Tryz.func354 [.v (.int .i64)] [.bool] [lH] nP (Qd,()) λ_=>bS pr
def T1(x0:Int):Prop:=if decide (x0<0)then bA .i64 (0-x0)/\True else True
def mX(x0:Int):Int:=if decide (x0<0)then 0-x0 else x0
def aWj:KK:=mB Tryz.func418 [.v (.int .i64)] [.int .i64] [] T1 (mX,()) λ_=>tH (aO pr) pr
def Qe(x0:Int)(x1:Int):Prop:=((x1≠0)/\(bA .i64 (aP x0 x1))/\((x1≠0)/\(bA .i64 (cP x0 x1))/\((T1 (cP x0 x1))/\((T1 x1)/\((bA .i64 (mX x1-mX (cP x0 x1)))/\(if decide (mX (cP x0 x1)>=mX x1-mX (cP x0 x1))=true then(if(!decide (x0<0)==decide (x1<0))=true then((bA .i64 (aP x0 x1-1))/\True)else((bA .i64 (aP x0 x1+1))/\True))else True))))))
def o6(x0:Int)(x1:Int):Int:=if decide (mX (cP x0 x1)>=mX x1-mX (cP x0 x1))then(if !decide (x0<0)==decide (x1<0)then aP x0 x1-1 else aP x0 x1+1)else aP x0 x1
def aPv:KK:=mB Tryz.func429 [.v (.int .i64),.v (.int .i64)] [.int .i64] [aWj] Qe (o6,()) λ_=>eE<|eE<|aO<|aO<|aO<|tH (tH (aO pr)<|aO pr) pr
def bFS(x0:Int)(x1:Int)(x2:Int):Prop:=((bA .i64 (x2*x2))/\((Qe (x2*x2) x0)/\((bA .i64 (981*x1))/\((Qe (981*x1) 100)/\((bA .i64 (o6 (x2*x2) x0-o6 (981*x1) 100))/\True)))))
def Vk(x0:Int)(x1:Int)(x2:Int):Int:=o6 (x2*x2) x0-o6 (981*x1) 100
def bFT:KK:=mB Tryz.func414 [.v (.int .i64),.v (.int .i64),.v (.int .i64)] [.int .i64] [aPv] bFS (Vk,()) λ_=>aO<|aO<|aO<|aO<|aO pr
def aTp(x0:Int)(x1:eR)(x2:Int):Prop:=((bFS x1.2.1 x1.2.2.2.1 x0)/\True)
def xS(x0:Int)(x1:eR)(x2:Int):Bool:=decide (Vk x1.2.1 x1.2.2.2.1 x0>x2)
def bFU:KK:=mB Tryz.func413 [.v (.int .i64),.p fQ,.p (.int .i64)] [.bool] [bFT] aTp (xS,()) λ_=>aO pr
end
def Nm(C:Int->Bool):Nat->Int->Int->Int
 | 0,lo,_=>lo
 | n+1,lo,e=>if lo<e then(if C (aP (lo+e) 2)=true then Nm C n lo (aP (lo+e) 2)else Nm C n (aP (lo+e) 2+1) e)else lo
def To{lo e:Int}(h0:0<=lo)(h:lo<e):lo<=aP (lo+e) 2/\aP (lo+e) 2<e:=by
 lia
theorem aBx(C:Int->Bool)(l0 e0:Int):∀(n:Nat) (lo e:Int),0<=lo->lo<=e->e-lo<=(n:Int)->(e=e0\/C e=true)->(lo=l0\/C (lo-1)=false)->l0<=lo->e<=e0 ->
  l0<=Nm C n lo e/\Nm C n lo e<=e0/\(Nm C n lo e=e0\/C (Nm C n lo e)=true)/\(Nm C n lo e=l0\/C (Nm C n lo e-1)=false)
 | 0,lo,e,h0,h1,h2,h3,h4,h5,h6=>by
  obtain rfl:e=lo:=by lia
  exact⟨h5,h6,h3,h4⟩
 | n+1,lo,e,h0,h1,h2,h3,h4,h5,h6=>by
  unfold Nm;by_cases h:lo<e
  ·obtain⟨m1,m2⟩:=To h0 h;rw[π h];by_cases hc:C (aP (lo+e) 2)=true
   ·rw[π hc];exact aBx C l0 e0 n lo _ h0 m1 (by lia) (.inr hc) h4 h5 (by lia)
   ·rw[ν hc];refine aBx C l0 e0 n _ e (by lia) (by lia) (by lia) h3 (.inr ?_) (by lia) h6
    lia
  grind
noncomputable section
def Vl:jB:=D0 HJ [.v (.int .i64),.v (.int .i64),.fn 413 [(true,fQ),(true,(.int .i64))]] [.int .i64] [bFU]
mutual
def Vm:Nat->Int->Int->Δ×Int×Int×Int×Unit->Int->Γ aS->Prop
 | 0,_,_,_,_,_=>False
 | n+1,x0,x1,x2,x2c,ds=>bA .i64 (x1+1)/\sM n (x1+1) x0 x2 x2c ds
def sM:Nat->Int->Int->Δ×Int×Int×Int×Unit->Int->Γ aS->Prop
 | 0,_,_,_,_,_=>False
 | n+1,v7,x0,x2,x2c,ds=>if decide (x0<v7)then bA .i64 (x0+v7)/\bA .i64 (aP (x0+v7) 2)/\aTp (aP (x0+v7) 2) x2 x2c/\if xS (aP (x0+v7) 2) x2 x2c then sM n (aP (x0+v7) 2) x0 x2 x2c ds else bA .i64 (aP (x0+v7) 2+1)/\sM n v7 (aP (x0+v7) 2+1) x2 x2c ds else ds=[aJ (.int .i64) x0]
end
def aIK(ds:Γ aS)(K:gU)(q:Nat->Value):∀n,(∀ {x0 x1 x2 x2c},Vm n x0 x1 x2 x2c ds->St Vl (x0,x1,(x2,x2c,()),()) ds [] K q)/\(∀ {v7 x0 x2 x2c},sM n v7 x0 x2 x2c ds->Cu Vl 2 ([eI 0 x0,(2,o9 413 [rD fQ x2,rD (.int .i64) x2c]),eI 7 v7],[]) ds [] K q):=nI ⟨aH,aH⟩ λn ⟨i,i2⟩=>⟨aO<|cX i2,
  bU (aO<|pw 2<|aO<|aO<|bU (cX i2)<|aO<|cX i2) dR⟩
def GB(x0 x1:Int)(y0:eR)(y1:Int):Int:=Nm (λx=>xS x y0 y1) (x1+1-x0).toNat x0 (x1+1)
def Vn(x0 x1:Int)(y0:eR)(y1:Int):Prop:=(0<=x0/\x0<=x1+1/\x1<=1000000000)/\∀v,0<=v->v<=x1->aTp v y0 y1
def aIL(y0:eR)(y1:Int)(e9:Int)(he:e9<=1000000000)(hp:∀v,0<=v->v<=e9->aTp v y0 y1):∀(k:Nat) (lo e:Int),0<=lo->lo<=e->e<=e9+1->e-lo<=(k:Int)->sM (k+1) e lo y0 y1 [⟨.int .i64,Nm (λx=>xS x y0 y1) k lo e⟩]:=by
 intro k
 induction k with
 | zero =>
  intro lo e h0 h1 h2 h3;rw[sM,ν (by simp only[ε];omega)];rfl
 | succ k ih =>
  intro lo e h0 h1 h2 h3;unfold Nm;by_cases hlt:lo<e
  ·obtain⟨m1,m2⟩:=To h0 hlt;rw[sM,π (by simpa using hlt),π hlt];refine⟨by rw[aK];omega,by rw[aK];omega,hp _ (by omega) (by omega),?_⟩;split
   ·exact ih lo _ h0 m1 (by omega) (by omega)
   ·exact⟨by rw[aK];omega,ih _ e (by omega) (by omega) h2 (by omega)⟩
  ·rw[sM,ν (by simpa using hlt),ν hlt]
def aIM(x0 x1:Int)(y0:eR)(y1:Int)(h:Vn x0 x1 y0 y1):Vm ((x1+1-x0).toNat+1+1) x0 x1 y0 y1 [⟨.int .i64,GB x0 x1 y0 y1⟩]:=by
 obtain⟨⟨h1,h2,h3⟩,hp⟩:=h;rw[Vm];exact⟨by rw[aK];omega,aIL y0 y1 x1 h3 hp _ _ _ h1 h2 (by omega) (by omega)⟩
def aMJ:KK:=mL Vl (DO HJ) Vn (GB,()) (λ⟨x0,x1,⟨y0,y1,_⟩,_⟩ h hwf K q =>
 (aIK _ K q _).1 (aIM x0 x1 y0 y1 h))
def aIN(x0:eR)(x1:Int):Prop:=((Vn 0 20000 x0 x1)/\((bA .i64 (GB 0 20000 x0 x1-1))/\True))
def CI(x0:eR)(x1:Int):Int:=GB 0 20000 x0 x1-1
def bFV:KK:=mB Tryz.func355 [.v fQ,.v (.int .i64)] [.int .i64] [aMJ] aIN (CI,()) λ_=>aO<|aO pr
def aZc:jB:=D0 aDx [.v (.sl fQ),.v (.int .i64)] [.int .i64,.int .i64,.int .i64] [bDS,bFR,bFV]
mutual
def aMK:Nat->Γ eR->Int->Γ aS->Prop
 | 0,_,_,_=>False
 | n+1,x0,x1,ds=>if !uP x0 then ds=[aJ (.int .i64) 0,aJ (.int .i64) 0,aJ (.int .i64) 1] else if !Qd x1 then ds=[aJ (.int .i64) 0,aJ (.int .i64) 0,aJ (.int .i64) 2] else if(x0.length:Int)==0 then ds=[aJ (.int .i64) 0,aJ (.int .i64) 0,aJ (.int .i64) 3] else M0 n 0 0 x0 x1 ds
def M0:Nat->Int->Int->Γ eR->Int->Γ aS->Prop
 | 0,_,_,_,_,_=>False
 | n+1,v7,v24,x0,x1,ds=>if decide (v24<(x0.length:Int))then 0<=v24/\v24<(x0.length:Int)/\aIN (aD x0 (aE v24) (aC,0,0,0,())) x1/\0<=v7/\v7<(x0.length:Int)/\aIN (aD x0 (aE v7) (aC,0,0,0,())) x1/\if decide (CI (aD x0 (aE v24) (aC,0,0,0,())) x1<CI (aD x0 (aE v7) (aC,0,0,0,())) x1)then bA .i64 (v24+1)/\M0 n v24 (v24+1) x0 x1 ds else bA .i64 (v24+1)/\M0 n v7 (v24+1) x0 x1 ds else 0<=v7/\v7<(x0.length:Int)/\aIN (aD x0 (aE v7) (aC,0,0,0,())) x1/\ds=[aJ (.int .i64) v7,aJ (.int .i64) (CI (aD x0 (aE v7) (aC,0,0,0,())) x1),aJ (.int .i64) 0]
end
def aZd(ds:Γ aS)(K:gU)(q:Nat->Value):∀n,(∀ {x0 x1},aMK n x0 x1 ds->St aZc (x0,x1,()) ds [] K q)/\(∀ {v7 v24 x0 x1},M0 n v7 v24 x0 x1 ds->Cu aZc 9 ([eL 0 fQ x0,eI 1 x1,eI 7 v7,eL 22 fQ x0,eI 23 (x0.length:Int),eI 24 v24],[]) ds [] K q):=nI ⟨aH,aH⟩ λn ⟨i,i9⟩=>⟨bS<|bU dR<|bS<|bU dR<|bU dR<|cX i9,
  bU (eE<|aO<|eE<|aO<|bU (aO<|cX i9)<|aO<|cX i9)<|eE<|aO dR⟩
abbrev O7:=Δ×Int×Int×Int×Unit
def DL(x0:Γ O7)(x1:Int)(i:Int):Int:=CI (x0.getD i.toNat (aC,0,0,0,())) x1
def u4(x0:Γ O7)(x1:Int):Nat->Nat->Int->Int
 | 0,_,s=>s
 | k+1,i,s=>u4 x0 x1 k (i+1) (if decide (DL x0 x1 (i:Int)<DL x0 x1 s)=true then(i:Int)else s)
def rR(x0:Γ O7)(x1:Int):Int:=if(!uP x0)=true then 1 else if(!Qd x1)=true then 2 else if((x0.length:Int)==0)=true then 3 else 0
def Vo(x0:Γ O7)(x1:Int):Int:=if rR x0 x1=0 then u4 x0 x1 x0.length 0 0 else 0
def GC(x0:Γ O7)(x1:Int):Int:=if rR x0 x1=0 then DL x0 x1 (u4 x0 x1 x0.length 0 0)else 0
def M1(x0:Γ O7)(x1:Int):Int:=rR x0 x1
def aPw(x0:Γ O7)(x1:Int):Prop:=rR x0 x1=0->∀b∈x0,aIN b x1
def aZe(x0:Γ O7)(x1:Int)(hm:x0.length<=maxLen)(hp:∀b∈x0,aIN b x1):∀(k i:Nat) (s:Int),i+k=x0.length->0<=s->s<(x0.length:Int)->M0 (k+1) s (i:Int) x0 x1 [⟨.int .i64,u4 x0 x1 k i s⟩,⟨.int .i64,DL x0 x1 (u4 x0 x1 k i s)⟩,⟨.int .i64,0⟩]:=by
 intro k
 induction k with
 | zero =>
  intro i s hi h1 h2;rw[M0,ν (by lia)];exact⟨h1,h2,hp _ (bY x0 s.toNat _ (by lia)),rfl⟩
 | succ k ih =>
  intro i s hi h1 h2;have hlt:i<x0.length:=by lia
  have hu:=jZ hm hlt;rw[M0,π (by lia)];refine⟨by lia,by lia,hp _ (bY x0 _ _ (by lia)),h1,h2,hp _ (bY x0 _ _ (by lia)),?_⟩;unfold u4;by_cases c:decide (DL x0 x1 (i:Int)<DL x0 x1 s)=true
  ·rw[π c];exact(π c).mpr ⟨hu,ih (i+1) _ (by lia) (by lia) (by lia)⟩
  ·rw[ν c];exact(ν c).mpr ⟨hu,ih (i+1) _ (by lia) h1 h2⟩
def aZf(x0:Γ O7)(x1:Int)(hm:x0.length<=maxLen)(h:aPw x0 x1):∃n,aMK n x0 x1 [⟨.int .i64,Vo x0 x1⟩,⟨.int .i64,GC x0 x1⟩,⟨.int .i64,M1 x0 x1⟩]:=by
 unfold aPw at h;unfold Vo GC M1;unfold rR at h ⊢;by_cases c1:(!uP x0)=true
 ·exact⟨1,by rw[aMK,π c1,π c1,ν (by decide),ν (by decide)]⟩
 ·rw[ν c1]at h ⊢;by_cases c2:(!Qd x1)=true
  ·exact⟨1,by rw[aMK,ν c1,π c2,π c2,ν (by decide),ν (by decide)]⟩
  ·rw[ν c2]at h ⊢;by_cases c3:((x0.length:Int)==0)=true
   ·exact⟨1,by rw[aMK,ν c1,ν c2,π c3,π c3,ν (by decide),ν (by decide)]⟩
   ·rw[ν c3]at h ⊢;have hn:x0.length≠0:=λe=>c3 (by rw[e]<;>rfl);refine⟨x0.length+1+1,?_⟩;rw[aMK,ν c1,ν c2,ν c3,π rfl,π rfl];exact aZe x0 x1 hm (h rfl) x0.length 0 0 (by omega) (dO _) (by omega)
def bFW:KK:=mL aZc (DO aDx) aPw (Vo,GC,M1,()) (λ⟨x0,x1,_⟩ h hwf K q =>
 let ⟨n,hn⟩:=aZf x0 x1 hwf.1.1 h
 (aZd _ K q n).1 hn)
def JB(x0:Int):Bool:=bH x0 1 10000000
def bFX:KK:=mB Tryz.func357 [.v (.int .i64)] [.bool] [lH] nP (JB,()) λ_=>bS pr
end
end Go.Proofs.YtgfpjekjhnkbfaaGreatDoor
