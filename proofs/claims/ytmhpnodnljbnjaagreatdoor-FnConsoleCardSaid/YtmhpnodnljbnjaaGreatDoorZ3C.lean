/- The functions that this law reaches, and their laws. -/
import Derived.Test.YtmhpnodnljbnjaaGreatDoorZ3B
import Derived.Shelf.Strings.BuilderK
import Derived.Shelf.Strings.Builder1
import Derived.Lib.SliceRun
import Derived.Deep.LoopGhost
import Derived.Lib.Walk
import Derived.Shelf.RegionOpenPlain
import Derived.Shelf.Strings.Builder2
import Derived.Shelf.Strings.OnBuilder
import Derived.Shelf.Strings.Trim
import Derived.Shelf.Small.Utf8
import Derived.Shelf.Small.Strs
import Derived.Shelf.Strings.BuilderF
import Derived.Shelf.Utf8.RuneCount
import Derived.Shelf.Strings.Builder2Cap
import Derived.Shelf.Strconv.Itoa0
import Derived.Shelf.Strconv.Itoa1
import Derived.Shelf.LaysM
import Derived.Shelf.Strconv.Itoa2
import Derived.Shelf.Strconv.Itoa3
import Derived.Shelf.Strconv.Itoa4
import Derived.Shelf.Strconv.ParseIntEmpty
import Derived.Shelf.Strconv.Clone
import Derived.Shelf.Strconv.SyntaxError
import Derived.Shelf.LaysC
import Derived.Shelf.Strconv.ToError
import Derived.Shelf.Strconv.Lower
import Derived.Shelf.Strconv.ParseUint10
import Derived.Shelf.Strconv.ParseUint10Empty
import Derived.Shelf.Strconv.ParseUint10Any
import Derived.Shelf.Strconv.ParseInt10
import Derived.Shelf.Strconv.RangeError
import Derived.Shelf.Strconv.ToErrorRange
import Derived.Shelf.Strconv.ParseUintEmpty
import Derived.Shelf.Strconv.ParseUint10b64
import Derived.Shelf.Strconv.ParseUint10b32
import Derived.Shelf.Strconv.ParseUint10b16
import Derived.Shelf.Strconv.ParseUint10b8
import Derived.Shelf.Strconv.ParseUint10At
import Derived.Shelf.Strconv.ParseInt10At64
import Derived.Shelf.Strconv.ParseInt10At32
import Derived.Shelf.Strconv.ParseInt10At16
import Derived.Shelf.Strconv.ParseInt10At8
import Derived.Shelf.Strconv.ParseInt10All
import Derived.Shelf.Strconv.ParseIntPublic10
import Derived.Shelf.Strings.Search1
import Derived.Shelf.Strings.Search2
import Derived.Shelf.Strings.Search3
import Derived.Shelf.Strings.Cut
import Derived.Shelf.Strings.Count
import Derived.Shelf.Strings.Shaped
import Derived.Shelf.Strings.Prefix
import Derived.Shelf.Strings.Split
import Derived.Shelf.Strings.SplitShaped
import Derived.Shelf.Unicode.Decode
import Derived.Shelf.Strings.Runes
import Derived.Shelf.Strings.RuneCount
import Derived.Shelf.Strings.AsciiSet
import Derived.Shelf.Strings.Explode
import Derived.Shelf.Bits.Mul64
import Derived.Shelf.Strings.Repeat
import Derived.Shelf.Unicode.DecodeSlow
import Derived.Shelf.Unicode.DecodeAny
import Derived.Shelf.Unicode.DecodeLast
import Derived.Shelf.Strings.BuilderCap
import Derived.Ground.SlgnProg
import Derived.Shelf.SlicesE.Clone
import Derived.Ground.SlgfProg
import Derived.Shelf.SlicesE.IndexFunc
import Derived.Deep.AppendSrc
import Derived.Lib.JoinLaws
import Derived.Lib.AppendZeros
import Derived.Lib.AppendZerosOnto
import Derived.Lib.Overlaps
import Derived.Laws.Externs
set_option linter.unusedVariables false
set_option linter.unusedSimpArgs false
open Array renaming getElem?_toList->cX,length_toList->cT,size_append->nA,toList->rI
open BitVec renaming ofInt->dX,toNat->j3
open Bool renaming and_eq_true->aJ,eq_false_iff->bN,false_eq_true->dJ,not_eq_true'->cW
open ByteArray renaming data->rA,empty->aC,ext->Sn,mk->aA,size->aH,size_append->aS,toList->aB
open Go.Addr renaming add_lit->fH
open Go.Am.aY renaming mk->aP
open Go.Am.cE renaming of_below->iD,refl->cI
open Go.Am.fT renaming val->GR
open Go.Am.TI renaming other->bJ,scal->aI,slice->pL,struct->eC
open Go.Am.Ty renaming fn->aU,sl->p6,str->kE
open Go.Builtin renaming append_->gD,copy_->jS,firstCells->dZ,zeroCells->gG
open Go.Extern.SlicesOverlaps renaming overlaps->xA
open Go.IntKind renaming i64->cN,u64->cL,wrap->bD
open Go.Lib renaming IsBuilderF->vE,byteCells->Hs,countB->gN,countB_le->sQ,cut->xL,decDigits->dQ,itoa->Ck,join->Av,join_length->OW,lens->BB,parseIntB->iU,pow10Tab->zB,splitB->At,splitB_all->vG,trimPrefix->SJ
open Go.Op renaming bytesLess->bE
open Go.Oper renaming upon_value->E7,wp->nY
open Go.Proofs.Tryz renaming func106->LD,func17->Nr,func18->Nq,func187->XD,func191->Wq,func192->EH,func195->We,func260->Wn,func262->LK,func263->LM,func264->LL,func265->XE,func266->LY,func272->Wr,func273->EG,func274->Wg,func332->Wo,func333->LN,func334->XF,func340->Ws,func341->Wt,func342->Wu,func343->Wv,func344->Wh,func367->L5,func372->XG,func385->Ww,func386->Wp,func387->Wx,func388->Wy,func389->Wz,func390->Wi,func408->XA,func409->XB,func55->aAS,func56->GL,func72->aAR,func73->x7,func76->Ns,func77->Nt,func78->Nu,func79->Nv,func80->Nw,func81->Nx,func82->Ny,func83->Nz,isAgg0->uJ,isAgg102->Ht,isAgg138->CI,isAgg177->sP,isAgg181->Sq,isAgg2->aAQ,isAgg20->EE,isAgg21->LO,isAgg22->zG,isAgg3->nC,isAgg321->Sr,isAgg369->xK,isAgg370->Hv,isAgg377->Sw,isAgg380->Sx,isAgg4->oN,isAgg402->Ss,isAgg404->Su,isAgg405->Sv,isAgg410->Sy,isAgg411->Sz,isAgg431->TA,isAgg432->TB,isAgg46->Wj,isAgg5->oM,isAgg60->LF,isAgg62->LG,isAgg64->LH,isAgg65->Wk,isAgg9->nD,ntmps367->TE,ntmps56->Wd,ntmps73->zH,ntmps76->XI,ntmps77->XJ,ntmps78->XK,ntmps79->XL,ntmps80->XM,ntmps81->XN,ntmps82->XO,ntmps83->XP,prog->aL,sizeOf0->rL,sizeOf102->GM,sizeOf138->Au,sizeOf177->rB,sizeOf181->Rw,sizeOf2->XC,sizeOf20->CJ,sizeOf21->Hr,sizeOf22->xJ,sizeOf3->lG,sizeOf321->Rx,sizeOf369->vF,sizeOf370->GP,sizeOf377->SB,sizeOf380->SD,sizeOf4->nG,sizeOf402->Ry,sizeOf404->Rz,sizeOf405->SA,sizeOf410->SE,sizeOf411->SF,sizeOf431->SG,sizeOf432->SH,sizeOf46->So,sizeOf5->nF,sizeOf60->Ho,sizeOf62->Hp,sizeOf64->Hq,sizeOf65->Sp,sizeOf9->lH,underlying0->lS,underlying102->tZ,underlying138->tY,underlying177->mL,underlying181->pC,underlying2->ND,underlying20->vC,underlying21->Bd,underlying22->nE,underlying3->eG,underlying321->JM,underlying369->pD,underlying370->Az,underlying377->JQ,underlying380->JR,underlying4->iI,underlying402->JN,underlying404->JO,underlying405->JP,underlying410->Aw,underlying411->JS,underlying431->JT,underlying432->JU,underlying46->nH,underlying5->jI,underlying60->kS,underlying62->Bc,underlying64->pY,underlying65->LI,underlying9->fN,zeroValue0->mU,zeroValue102->Be,zeroValue138->vB,zeroValue177->nI,zeroValue181->LJ,zeroValue2->OV,zeroValue20->wZ,zeroValue21->Cr,zeroValue22->rM,zeroValue3->iX,zeroValue321->LP,zeroValue369->pZ,zeroValue370->Bf,zeroValue377->LS,zeroValue380->LU,zeroValue4->kC,zeroValue404->LQ,zeroValue405->LR,zeroValue410->LV,zeroValue431->LW,zeroValue432->LX,zeroValue46->NB,zeroValue5->j9,zeroValue60->Co,zeroValue62->Cp,zeroValue64->Cq,zeroValue65->NC,zeroValue9->iY
open Go.RowKit.Below renaming refl->JJ
open Go.Value renaming slice->GJ,string->gM
open Go.World renaming cell?->fQ,cell?_setCells_out->CK,frozen?->CE,frozen?_setCells->EI,shape?->zD
open Int renaming fdiv->cQ,fdiv_eq_ediv_of_nonneg->fG,le_refl->gA,lt_or_le->Wc,tdiv->bM,tmod->c8,tmod_eq_emod_of_nonneg->iC,toNat->aE,toNat_natCast->aF
open List renaming all_eq_true->jH,append_assoc->bS,flatten_cons->bK,getD->aD,getD_eq_getElem?_getD->bL,getElem?_append_left->bV,getElem?_append_right->cH,getElem?_eq_getElem->bC,getElem?_eq_none->eV,intercalate->NF,length->aN,length_append->aO,length_cons->bA,length_drop->fD,length_map->eJ,length_singleton->cP,length_take->cJ,map->Cs,map_append->gQ,map_cons->bP,map_map->zE,map_singleton->JK,mem_cons->aR,mem_cons_of_mem->aM,mem_cons_self->aQ,mem_nil_iff->bZ,mem_of_mem_drop->iB,mem_singleton->bI,not_mem_nil->lR,reverse_append->H6,size_toArray->dK,sum_cons->TD,take_add_one->gY,take_of_length_le->fR,toArray->kL
open Min renaming min->sX
open Nat renaming add_assoc->dV,add_mul->dL,ble->zC,le_of_ble_eq_true->aZ,le_refl->aT,le_trans->cO,min->EB,min_def->GS,mul_comm->L3,mul_le_mul_right->dA,mul_pos->aAU,strongRecOn->E6,succ_mul->rJ,zero_add->cV,zero_le->bW
open Option.some renaming injEq->fF
open UInt8 renaming ofNat->kP,toNat->uK,toNat_ofNat'->tX
namespace Go.Am
structure dB where
 f:FuncId
 fn:Func
 sig:List AT
 tys:List Ty
 kds:List RK
 ext:sE
 wr:Bool
 stops:List Nat
def Con (P:Program) (f:FuncId) (S:Spec):Prop:=uS P f/\jC P f S
structure Fok (P:Program) (tab:List TI) (d:dB):Prop where
 hf:P.funcs[d.f]? = some d.fn
 hT:jP P tab
 hX:nQ P d.ext
 hm:P.follows .mixedOrders=true
def aIh:List Prop->Prop
 | []=>True
 | p :: r=>aIh r/\p
theorem aIh.all:∀ {l m:List Prop},aIh l->eZ m->eZ (l.reverseAux m)
 | [],_,_,h=>h
 | p :: l,m,⟨h,hp⟩,k=>show eZ (l.reverseAux (p :: m)) from aIh.all h ⟨hp,k⟩
def G (P:Program) (tab:List TI) (d:dB) (ds:List aY) (us:List (Option BD)) (K:jK) (q:Nat->Value) (path:List Bool) (cs:List Prop) (k:List Item) (E:eD) (L:bG):Prop :=
 Fok P tab d->aIh cs->YI P d.f (Jm d.kds (Cy d.sig) ds us (oY 0 d.sig) q K) d.fn.ntmps K q (oY 0 d.sig) k E L
def aX3:PV->List Nat
 | .a A=>sG A
 | .tup As=>As.flatMap sG
 | .fn _ As=>As.flatMap sG
def aIi:List Nat->List Nat->List Nat->List Nat
 | r :: rs,s :: ss,acc=>aIi rs ss (acc.set r s)
 | _,_,acc=>acc
def rsE (E1:eD):eD->List Nat->List Nat
 | [],acc=>acc
 | (t,p) :: r,acc=>rsE E1 r (aIi (aX3 p) (aX3 (E1.get t)) acc)
def rsH (L1:bG):Nat->bG->List Nat->List Nat
 | _,[],acc=>acc
 | i,some A :: r,acc=>rsH L1 (i+1) r (match A.ls,b7 L1 (Bn acc i) with
  | some ls,some B=>match B.ls with
   | some ms=>aIi (iF ls) (iF ms) acc
   | none=>acc
  | _,_=>acc)
 | i,none :: r,acc=>rsH L1 (i+1) r acc
def rsJ (E':eD) (L':bG) (E1:eD) (L1:bG):List Nat:=rsH L1 0 L' (rsE E1 E' (List.replicate L'.length L1.length))
def runJ (tab:List TI) (ext:sE) (wr:Bool) (n:Nat) (stops:List Nat) (m:Nat) (pins:List Nat) (nils:List (Nat×Ty)) (path:List Bool) (E':eD) (L':bG) (k:List Item) (E:eD) (L:bG):Option (List Item×eD×bG×List Prop) :=
 match rF tab ext wr n stops m true k ⟨path,[],E,L,[],pins⟩ with
 | some (.stop k' S)=>match Tl nils (S.E,S.L) with
  | (E1,L1)=>match x8 (rsJ E' L' E1 L1)&&Te (rsJ E' L' E1 L1) (Am.keepE E1 (E'.map Prod.fst))&&Ly (rsJ E' L' E1 L1) (borUp L1) (rsJ E' L' E1 L1)&&decide (S.pins=pins) with
   | true=>some (k',aHI (rsJ E' L' E1 L1) (Am.keepE E1 (E'.map Prod.fst)),Jf (rsJ E' L' E1 L1) (borUp L1),S.cs)
   | false=>none
 | _=>none
def Y2:List (Option BD)->List (Option BD)->List (Option BD)
 | none :: r,b :: s=>b :: Y2 r s
 | some a :: r,_ :: s=>some a :: Y2 r s
 | _ :: _,[]=>[none]
 | [],_=>[]
theorem IV:∀ (us vs:List (Option BD)),vs=Y2 us vs->YP vs us
 | none :: r,b :: s,h=>⟨.inr rfl,IV r s (List.cons.inj h).2⟩
 | some a :: r,b :: s,h=>⟨.inl (List.cons.inj h).1.symm,IV r s (List.cons.inj h).2⟩
 | none :: _,[],h=>by cases h
 | some _ :: _,[],h=>by cases h
 | [],[],_=>trivial
 | [],_ :: _,h=>by cases h
def usF (o:Option (List aY×List (Option BD)×List Prop)):List (Option BD):=match o with
 | some (_,us,_)=>us
 | none=>[]
section
variable {P:Program} {tab:List TI} {d:dB} {ds:List aY} {us:List (Option BD)} {K:jK} {q:Nat->Value} {path:List Bool} {cs:List Prop} {k:List Item} {E:eD} {L:bG}
theorem bR {x:Bool} {A B:Prop} (h:if x=true then A else B) (t:A->G P tab d ds us K q (true :: path) ((x=true) :: cs) k E L) (e:B->G P tab d ds us K q (false :: path) ((x=false) :: cs) k E L):G P tab d ds us K q path cs k E L:=λo c=>by
 cases x
 ·exact e h o ⟨c,rfl⟩
 ·exact t h o ⟨c,rfl⟩
theorem kF {x:Bool} (b:x=false) (t:G P tab d ds us K q (false :: path) ((x=false) :: cs) k E L):G P tab d ds us K q path cs k E L:=λo c=>t o ⟨c,b⟩
theorem c1 {p1 Q:Prop} (h:p1/\Q) (t:Q->G P tab d ds us K q path (p1 :: cs) k E L):G P tab d ds us K q path cs k E L:=λo c=>t h.2 o ⟨c,h.1⟩
theorem cS {p1 Q:Prop} (h:p1/\Q) (t:p1->Q->G P tab d ds us K q path (p1 :: cs) k E L):G P tab d ds us K q path cs k E L:=λo c=>t h.1 h.2 o ⟨c,h.1⟩
theorem cF {x:Bool} {Q:Prop} (h:x=false/\Q) (t:Q->G P tab d ds us K q (false :: path) ((x=false) :: cs) k E L):G P tab d ds us K q path cs k E L:=λo c=>t h.2 o ⟨c,h.1⟩
theorem c2 {p1 p2 Q:Prop} (h:p1/\p2/\Q) (t:Q->G P tab d ds us K q path (p2 :: p1 :: cs) k E L):G P tab d ds us K q path cs k E L:=c1 h λh=>c1 h t
theorem c3 {p1 p2 p3 Q:Prop} (h:p1/\p2/\p3/\Q) (t:Q->G P tab d ds us K q path (p3 :: p2 :: p1 :: cs) k E L):G P tab d ds us K q path cs k E L:=c2 h λh=>c1 h t
theorem c4 {p1 p2 p3 p4 Q:Prop} (h:p1/\p2/\p3/\p4/\Q) (t:Q->G P tab d ds us K q path (p4 :: p3 :: p2 :: p1 :: cs) k E L):G P tab d ds us K q path cs k E L:=c3 h λh=>c1 h t
theorem c5 {p1 p2 p3 p4 p5 Q:Prop} (h:p1/\p2/\p3/\p4/\p5/\Q) (t:Q->G P tab d ds us K q path (p5 :: p4 :: p3 :: p2 :: p1 :: cs) k E L):G P tab d ds us K q path cs k E L:=c4 h λh=>c1 h t
theorem tv (t:G P tab d ds us K q path (True :: cs) k E L):G P tab d ds us K q path cs k E L:=λo c=>t o ⟨c,trivial⟩
theorem tT (t:G P tab d ds us K q (true :: path) ((true=true) :: cs) k E L):G P tab d ds us K q path cs k E L:=λo c=>t o ⟨c,rfl⟩
theorem tF (t:G P tab d ds us K q (false :: path) ((false=false) :: cs) k E L):G P tab d ds us K q path cs k E L:=λo c=>t o ⟨c,rfl⟩
theorem tP {p:Prop} (h:p) (t:G P tab d ds us K q path (p :: cs) k E L):G P tab d ds us K q path cs k E L:=λo c=>t o ⟨c,h⟩
theorem rt (r:VN tab d.ext d.wr d.fn.ntmps d.stops 2000 (oY 0 d.sig) (Cy d.sig) d.kds d.tys d.fn.results (path.reverseAux []) k E L=some (ds,Y2 us (usF (VN tab d.ext d.wr d.fn.ntmps d.stops 2000 (oY 0 d.sig) (Cy d.sig) d.kds d.tys d.fn.results (path.reverseAux []) k E L)),cs.reverseAux []):=by kernel_rfl):G P tab d ds us K q path cs k E L:=λo c=>by
 have hu:usF (VN tab d.ext d.wr d.fn.ntmps d.stops 2000 (oY 0 d.sig) (Cy d.sig) d.kds d.tys d.fn.results (path.reverseAux []) k E L)=Y2 us (usF (VN tab d.ext d.wr d.fn.ntmps d.stops 2000 (oY 0 d.sig) (Cy d.sig) d.kds d.tys d.fn.results (path.reverseAux []) k E L)):=congrArg usF r;exact YI.weak (YI.fin o.hf o.hT o.hX o.hm r (c.all trivial)) (by rw [<- hu];exact IV _ _ hu)
theorem rh {ds':List aY} (h:ds=ds') (r:VN tab d.ext d.wr d.fn.ntmps d.stops 2000 (oY 0 d.sig) (Cy d.sig) d.kds d.tys d.fn.results (path.reverseAux []) k E L=some (ds',us,cs.reverseAux []):=by kernel_rfl):G P tab d ds us K q path cs k E L:=λo c=>by
 subst h;exact YI.fin o.hf o.hT o.hX o.hm r (c.all trivial)
theorem jn (nils:List (Nat×Ty)) {k':List Item} {E':eD} {L':bG} (hk:G P tab d ds us K q [] [] k' E' L') (r:runJ tab d.ext d.wr d.fn.ntmps d.stops 2000 (oY 0 d.sig) nils (path.reverseAux []) E' L' k E L=some (k',E',L',cs.reverseAux []):=by kernel_rfl):G P tab d ds us K q path cs k E L:=λo hc=>by
 intro a w w0 G V own hR hq;have h:=r;unfold Am.runJ at h;split at h
 ·rename_i k1 S hr;split at h;rename_i E1 L1 hnil;split at h
  ·rename_i hb;simp only [aJ,decide_eq_true_eq] at hb;obtain ⟨⟨⟨hn,hb⟩,hh⟩,hp⟩:=hb;simp only [fF,Prod.mk.injEq] at h;obtain ⟨e1,e2,e3,e4⟩:=h;subst e1;refine YJ o.hT o.hX o.hm hr (show eZ S.cs by rw [e4];exact hc.all trivial) hR ⟨λt d ht=>by simp [FC] at ht,hq⟩ ?_;intro a' w' w1 G1 V' own' hR' hq';rw [hp] at hq';obtain ⟨V2,own2,hR2⟩:=Pj (l:=nils) hR';rw [hnil] at hR2;have h3:=(hR2.borUp.keepE (E'.map Prod.fst)).renum hn hb hh;rw [e2,e3] at h3;exact hk o trivial _ _ _ _ _ _ h3 hq'
  ·cases h
 ·cases h
theorem jp {k':List Item} {E':eD} {L':bG} (hk:G P tab d ds us K q [] [] k' E' L') (r:runJ tab d.ext d.wr d.fn.ntmps d.stops 2000 (oY 0 d.sig) [] (path.reverseAux []) E' L' k E L=some (k',E',L',cs.reverseAux []):=by kernel_rfl):G P tab d ds us K q path cs k E L:=jn [] hk r
end
section
variable {P:Program} {tab:List TI} {d:dB} {us:List (Option BD)} {K:jK} {q:Nat->Value} {path:List Bool} {cs:List Prop} {k:List Item} {E:eD} {L:bG} {x:Bool} {A B:Prop} {t0 t1 t2 t3 T:Ty} {p0 q0:t0.den} {p1 q1:t1.den} {p2 q2:t2.den} {p3 q3:t3.den} {y z:T.den} {ys zs:List T.den}
theorem e1 (t:G P tab d [⟨t0,p0⟩] us K q (true :: path) ((x=true) :: cs) k E L) (e:G P tab d [⟨t0,q0⟩] us K q (false :: path) ((x=false) :: cs) k E L):G P tab d [⟨t0,if x=true then p0 else q0⟩] us K q path cs k E L:=λo c=>by
 cases x
 ·exact e o ⟨c,rfl⟩
 ·exact t o ⟨c,rfl⟩
theorem N1 (h:if x=true then A else B) (t:A->G P tab d [⟨t0,p0⟩] us K q (true :: path) ((x=true) :: cs) k E L) (e:B->G P tab d [⟨t0,q0⟩] us K q (false :: path) ((x=false) :: cs) k E L):G P tab d [⟨t0,if x=true then p0 else q0⟩] us K q path cs k E L:=λo c=>by
 cases x
 ·exact e h o ⟨c,rfl⟩
 ·exact t h o ⟨c,rfl⟩
theorem yA (h:if x=true then A else B) (t:A->G P tab d [⟨t0,p0⟩] [some ⟨T,[y]⟩] K q (true :: path) ((x=true) :: cs) k E L) (e:B->G P tab d [⟨t0,q0⟩] [some ⟨T,[z]⟩] K q (false :: path) ((x=false) :: cs) k E L):G P tab d [⟨t0,if x=true then p0 else q0⟩] [some ⟨T,[if x=true then y else z]⟩] K q path cs k E L:=λo c=>by
 cases x
 ·exact e h o ⟨c,rfl⟩
 ·exact t h o ⟨c,rfl⟩
theorem e2 (t:G P tab d [⟨t0,p0⟩,⟨t1,p1⟩] us K q (true :: path) ((x=true) :: cs) k E L) (e:G P tab d [⟨t0,q0⟩,⟨t1,q1⟩] us K q (false :: path) ((x=false) :: cs) k E L):G P tab d [⟨t0,if x=true then p0 else q0⟩,⟨t1,if x=true then p1 else q1⟩] us K q path cs k E L:=λo c=>by
 cases x
 ·exact e o ⟨c,rfl⟩
 ·exact t o ⟨c,rfl⟩
theorem e2k (t:x=true->G P tab d [⟨t0,p0⟩,⟨t1,p1⟩] us K q (true :: path) ((x=true) :: cs) k E L) (e:x=false->G P tab d [⟨t0,q0⟩,⟨t1,q1⟩] us K q (false :: path) ((x=false) :: cs) k E L):G P tab d [⟨t0,if x=true then p0 else q0⟩,⟨t1,if x=true then p1 else q1⟩] us K q path cs k E L:=λo c=>by
 cases x
 ·exact e rfl o ⟨c,rfl⟩
 ·exact t rfl o ⟨c,rfl⟩
theorem o3 (h:if x=true then A else B) (t:A->G P tab d [⟨t0,p0⟩,⟨t1,p1⟩] us K q (true :: path) ((x=true) :: cs) k E L) (e:B->G P tab d [⟨t0,q0⟩,⟨t1,q1⟩] us K q (false :: path) ((x=false) :: cs) k E L):G P tab d [⟨t0,if x=true then p0 else q0⟩,⟨t1,if x=true then p1 else q1⟩] us K q path cs k E L:=λo c=>by
 cases x
 ·exact e h o ⟨c,rfl⟩
 ·exact t h o ⟨c,rfl⟩
theorem OF (h:if x=true then A else B) (t:A->G P tab d [⟨t0,p0⟩,⟨t1,p1⟩] [some ⟨T,[y]⟩] K q (true :: path) ((x=true) :: cs) k E L) (e:B->G P tab d [⟨t0,q0⟩,⟨t1,q1⟩] [some ⟨T,[z]⟩] K q (false :: path) ((x=false) :: cs) k E L):G P tab d [⟨t0,if x=true then p0 else q0⟩,⟨t1,if x=true then p1 else q1⟩] [some ⟨T,[if x=true then y else z]⟩] K q path cs k E L:=λo c=>by
 cases x
 ·exact e h o ⟨c,rfl⟩
 ·exact t h o ⟨c,rfl⟩
theorem e3 (t:G P tab d [⟨t0,p0⟩,⟨t1,p1⟩,⟨t2,p2⟩] us K q (true :: path) ((x=true) :: cs) k E L) (e:G P tab d [⟨t0,q0⟩,⟨t1,q1⟩,⟨t2,q2⟩] us K q (false :: path) ((x=false) :: cs) k E L):G P tab d [⟨t0,if x=true then p0 else q0⟩,⟨t1,if x=true then p1 else q1⟩,⟨t2,if x=true then p2 else q2⟩] us K q path cs k E L:=λo c=>by
 cases x
 ·exact e o ⟨c,rfl⟩
 ·exact t o ⟨c,rfl⟩
theorem e3h (h:if x=true then A else B) (t:A->G P tab d [⟨t0,p0⟩,⟨t1,p1⟩,⟨t2,p2⟩] us K q (true :: path) ((x=true) :: cs) k E L) (e:B->G P tab d [⟨t0,q0⟩,⟨t1,q1⟩,⟨t2,q2⟩] us K q (false :: path) ((x=false) :: cs) k E L):G P tab d [⟨t0,if x=true then p0 else q0⟩,⟨t1,if x=true then p1 else q1⟩,⟨t2,if x=true then p2 else q2⟩] us K q path cs k E L:=λo c=>by
 cases x
 ·exact e h o ⟨c,rfl⟩
 ·exact t h o ⟨c,rfl⟩
theorem aQF (h:if x=true then A else B) (t:A->G P tab d [⟨t0,p0⟩,⟨t1,p1⟩,⟨t2,p2⟩] [some ⟨T,[y]⟩] K q (true :: path) ((x=true) :: cs) k E L) (e:B->G P tab d [⟨t0,q0⟩,⟨t1,q1⟩,⟨t2,q2⟩] [some ⟨T,[z]⟩] K q (false :: path) ((x=false) :: cs) k E L):G P tab d [⟨t0,if x=true then p0 else q0⟩,⟨t1,if x=true then p1 else q1⟩,⟨t2,if x=true then p2 else q2⟩] [some ⟨T,[if x=true then y else z]⟩] K q path cs k E L:=λo c=>by
 cases x
 ·exact e h o ⟨c,rfl⟩
 ·exact t h o ⟨c,rfl⟩
theorem e4 (t:G P tab d [⟨t0,p0⟩,⟨t1,p1⟩,⟨t2,p2⟩,⟨t3,p3⟩] us K q (true :: path) ((x=true) :: cs) k E L) (e:G P tab d [⟨t0,q0⟩,⟨t1,q1⟩,⟨t2,q2⟩,⟨t3,q3⟩] us K q (false :: path) ((x=false) :: cs) k E L):G P tab d [⟨t0,if x=true then p0 else q0⟩,⟨t1,if x=true then p1 else q1⟩,⟨t2,if x=true then p2 else q2⟩,⟨t3,if x=true then p3 else q3⟩] us K q path cs k E L:=λo c=>by
 cases x
 ·exact e o ⟨c,rfl⟩
 ·exact t o ⟨c,rfl⟩
theorem e4h (h:if x=true then A else B) (t:A->G P tab d [⟨t0,p0⟩,⟨t1,p1⟩,⟨t2,p2⟩,⟨t3,p3⟩] us K q (true :: path) ((x=true) :: cs) k E L) (e:B->G P tab d [⟨t0,q0⟩,⟨t1,q1⟩,⟨t2,q2⟩,⟨t3,q3⟩] us K q (false :: path) ((x=false) :: cs) k E L):G P tab d [⟨t0,if x=true then p0 else q0⟩,⟨t1,if x=true then p1 else q1⟩,⟨t2,if x=true then p2 else q2⟩,⟨t3,if x=true then p3 else q3⟩] us K q path cs k E L:=λo c=>by
 cases x
 ·exact e h o ⟨c,rfl⟩
 ·exact t h o ⟨c,rfl⟩
end
def fnB (fn : Func) : Bool := !(fn.name == "runtime.NumGoroutine") && fn.body.isSome
theorem yB {P:Program} {f:FuncId} {fn:Func} {S:Spec} (hf:P.funcs[f]? = some fn) (h:jC P f S) (hc:fnB fn=true:=by kernel_rfl):Con P f S:=by
 unfold fnB at hc;simp only [aJ,cW] at hc;exact ⟨⟨fn,hf,hc.1,by cases hb:fn.body with | none=>rw [hb] at hc;exact absurd hc.2 (by simp) | some c=>rfl⟩,h⟩
theorem dF {P:Program} {tab:List TI} {d:dB} {pre:fX d.sig->Prop} {upd:fX d.sig->List (Option BD)} {res:fX d.sig->List aY} (o:Fok P tab d)
  (h:∀ x,pre x->NV d.sig x->∀ K q,G P tab d (res x) (upd x) K q [] [] [.code (Ph d.fn)] (YK 0 0 d.sig x) (aMW d.sig x)) (hc:(fnB d.fn&&zC d.sig.length d.fn.ntmps)=true:=by kernel_rfl):Con P d.f ⟨d.sig,pre,upd,res,d.kds⟩:=by
 rw [aJ] at hc;obtain ⟨h1,h2⟩:=hc;have hb:d.fn.body=some (Ph d.fn):=by
  unfold fnB at h1;simp only [aJ] at h1;unfold Ph;cases hb:d.fn.body with
  | none=>rw [hb] at h1;exact absurd h1.2 (by simp)
  | some c=>rfl
 exact yB o.hf (YN o.hf hb (aZ h2) λx hp hw K q=>h x hp hw K q o trivial) h1
end Go.Am
set_option maxRecDepth 100000
namespace Go.Proofs.YtmhpnodnljbnjaaGreatDoor
open Go Go.Am Go.Proofs
def tab:List TI:=[bJ,
 aI (aU),
 aI (.int .i64),
 aI (.int .i64),
 aI (.bool),
 aI (.int .u8),
 aI (.int .u8),
 eC (.cons (.int .i64) (.cons (.int .i64) (.cons .bool (.cons (.int .u8) .unit)))),
 eC (.cons (.int .i64) (.cons (.int .i64) (.cons .bool (.cons (.int .u8) .unit)))),
 aI (.str),
 aI (.str),
 aI (.str),
 aI (.int .u64),
 bJ,
 bJ,
 bJ,
 bJ,
 bJ,
 bJ,
 bJ,
 bJ,
 aI (.int .i32),
 pL 5 (.int .u8) 1,
 aI (aU),
 aI (aU),
 bJ,
 aI (aU),
 pL 80 (.cons .str (.cons (.int .i64) (.cons (.int .i64) (.cons (.int .i64) .unit)))) 40,
 eC (.cons (.int .i64) (.cons (.int .i64) (.cons (.int .i64) (.cons (.int .i64) .unit)))),
 eC (.cons (.int .i64) (.cons (.int .i64) (.cons (.int .i64) (.cons (.int .i64) .unit)))),
 pL 83 (.cons (.int .i64) (.cons (.int .i64) (.cons (.int .i64) .unit))) 24,
 pL 86 (.cons (.int .i64) (.cons (.int .i64) (.cons (.int .i64) .unit))) 24,
 eC (.cons (.int .i64) (.cons (.int .i64) (.cons (.int .i64) .unit))),
 eC (.cons (.int .i64) (.cons (.int .i64) (.cons (.int .i64) .unit))),
 eC (.cons (.int .i64) (.cons (.int .i64) (.cons (.int .i64) .unit))),
 eC (.cons (.int .i64) (.cons (.int .i64) (.cons (.int .i64) .unit))),
 pL 89 (.cons .str (.cons (.int .i64) (.cons (.int .i64) .unit))) 32,
 eC (.cons (.int .i64) (.cons (.int .i64) (.cons (.int .i64) (.cons (.int .i64) .unit)))),
 eC (.cons (.int .i64) (.cons (.int .i64) (.cons (.int .i64) (.cons (.int .i64) .unit)))),
 pL 92 (.cons .str (.cons (.int .i64) (.cons (.int .i64) (.cons (.int .i64) .unit)))) 40,
 pL 95 (.cons (.int .i64) (.cons (.int .i64) (.cons (.int .i64) .unit))) 24,
 pL 98 (.cons .str (.cons (.int .i64) (.cons (.int .i64) .unit))) 32,
 pL 101 (.cons .str (.cons (.int .i64) (.cons (.int .i64) .unit))) 32,
 eC (.cons (.sl (.cons .str (.cons (.int .i64) (.cons (.int .i64) (.cons (.int .i64) .unit))))) (.cons (.cons (.int .i64) (.cons (.int .i64) (.cons (.int .i64) (.cons (.int .i64) .unit)))) (.cons (.sl (.cons (.int .i64) (.cons (.int .i64) (.cons (.int .i64) .unit)))) (.cons (.sl (.cons (.int .i64) (.cons (.int .i64) (.cons (.int .i64) .unit)))) (.cons (.cons (.int .i64) (.cons (.int .i64) (.cons (.int .i64) .unit))) (.cons (.cons (.int .i64) (.cons (.int .i64) (.cons (.int .i64) .unit))) (.cons (.sl (.cons .str (.cons (.int .i64) (.cons (.int .i64) .unit)))) (.cons (.cons (.int .i64) (.cons (.int .i64) (.cons (.int .i64) (.cons (.int .i64) .unit)))) (.cons (.sl (.cons .str (.cons (.int .i64) (.cons (.int .i64) (.cons (.int .i64) .unit))))) (.cons (.sl (.cons (.int .i64) (.cons (.int .i64) (.cons (.int .i64) .unit)))) (.cons (.sl (.cons .str (.cons (.int .i64) (.cons (.int .i64) .unit)))) (.cons (.sl (.cons .str (.cons (.int .i64) (.cons (.int .i64) .unit)))) .unit)))))))))))),
 eC (.cons (.sl (.cons .str (.cons (.int .i64) (.cons (.int .i64) (.cons (.int .i64) .unit))))) (.cons (.cons (.int .i64) (.cons (.int .i64) (.cons (.int .i64) (.cons (.int .i64) .unit)))) (.cons (.sl (.cons (.int .i64) (.cons (.int .i64) (.cons (.int .i64) .unit)))) (.cons (.sl (.cons (.int .i64) (.cons (.int .i64) (.cons (.int .i64) .unit)))) (.cons (.cons (.int .i64) (.cons (.int .i64) (.cons (.int .i64) .unit))) (.cons (.cons (.int .i64) (.cons (.int .i64) (.cons (.int .i64) .unit))) (.cons (.sl (.cons .str (.cons (.int .i64) (.cons (.int .i64) .unit)))) (.cons (.cons (.int .i64) (.cons (.int .i64) (.cons (.int .i64) (.cons (.int .i64) .unit)))) (.cons (.sl (.cons .str (.cons (.int .i64) (.cons (.int .i64) (.cons (.int .i64) .unit))))) (.cons (.sl (.cons (.int .i64) (.cons (.int .i64) (.cons (.int .i64) .unit)))) (.cons (.sl (.cons .str (.cons (.int .i64) (.cons (.int .i64) .unit)))) (.cons (.sl (.cons .str (.cons (.int .i64) (.cons (.int .i64) .unit)))) .unit)))))))))))),
 aI (aU),
 pL 9 (.str) 16,
 bJ,
 aI (aU),
 aI (aU),
 aI (aU),
 bJ,
 aI (aU),
 aI (aU),
 aI (aU),
 aI (aU),
 aI (aU),
 pL 2 (.int .i64) 8,
 bJ,
 aI (aU),
 bJ,
 bJ,
 bJ,
 bJ,
 bJ,
 bJ,
 aI (aU),
 aI (aU),
 eC (.cons .str (.cons .str (.cons (.sl (.int .i64)) (.cons (.sl (.int .i64)) .unit)))),
 eC (.cons .str (.cons .str (.cons (.sl (.int .i64)) (.cons (.sl (.int .i64)) .unit)))),
 bJ,
 aI (aU),
 aI (aU),
 bJ,
 aI (aU),
 aI (aU),
 aI (aU),
 bJ,
 aI (aU),
 eC (.cons .str (.cons (.int .i64) (.cons (.int .i64) (.cons (.int .i64) .unit)))),
 eC (.cons .str (.cons (.int .i64) (.cons (.int .i64) (.cons (.int .i64) .unit)))),
 aI (aU),
 eC (.cons (.int .i64) (.cons (.int .i64) (.cons (.int .i64) .unit))),
 eC (.cons (.int .i64) (.cons (.int .i64) (.cons (.int .i64) .unit))),
 aI (aU),
 eC (.cons (.int .i64) (.cons (.int .i64) (.cons (.int .i64) .unit))),
 eC (.cons (.int .i64) (.cons (.int .i64) (.cons (.int .i64) .unit))),
 aI (aU),
 eC (.cons .str (.cons (.int .i64) (.cons (.int .i64) .unit))),
 eC (.cons .str (.cons (.int .i64) (.cons (.int .i64) .unit))),
 aI (aU),
 eC (.cons .str (.cons (.int .i64) (.cons (.int .i64) (.cons (.int .i64) .unit)))),
 eC (.cons .str (.cons (.int .i64) (.cons (.int .i64) (.cons (.int .i64) .unit)))),
 aI (aU),
 eC (.cons (.int .i64) (.cons (.int .i64) (.cons (.int .i64) .unit))),
 eC (.cons (.int .i64) (.cons (.int .i64) (.cons (.int .i64) .unit))),
 aI (aU),
 eC (.cons .str (.cons (.int .i64) (.cons (.int .i64) .unit))),
 eC (.cons .str (.cons (.int .i64) (.cons (.int .i64) .unit))),
 aI (aU),
 eC (.cons .str (.cons (.int .i64) (.cons (.int .i64) .unit))),
 eC (.cons .str (.cons (.int .i64) (.cons (.int .i64) .unit))),
 aI (.int .u64),
 eC (.cons (.sl (.int .u8)) (.cons (.int .i64) (.cons (.int .u64) .unit))),
 eC (.cons (.sl (.int .u8)) (.cons (.int .i64) (.cons (.int .u64) .unit))),
 aI (aU),
 aI (aU),
 aI (aU),
 aI (aU),
 bJ,
 aI (aU),
 aI (aU),
 bJ,
 aI (aU),
 aI (aU),
 bJ,
 aI (aU),
 aI (aU),
 bJ,
 aI (aU),
 aI (aU),
 bJ,
 aI (aU),
 aI (aU),
 bJ,
 aI (aU),
 aI (aU),
 bJ,
 aI (aU),
 aI (aU),
 bJ,
 aI (aU),
 aI (aU),
 bJ,
 aI (aU),
 aI (aU),
 bJ,
 aI (aU),
 bJ,
 aI (aU),
 aI (aU),
 aI (aU),
 aI (aU),
 aI (aU),
 aI (aU),
 aI (aU),
 aI (aU),
 aI (aU),
 aI (aU),
 aI (aU),
 aI (aU),
 aI (aU),
 aI (aU),
 aI (aU),
 bJ,
 aI (aU),
 bJ,
 aI (aU),
 bJ,
 aI (aU),
 aI (aU),
 aI (aU),
 aI (aU),
 aI (aU),
 aI (aU),
 aI (aU),
 aI (aU),
 aI (aU),
 bJ,
 aI (aU),
 bJ,
 aI (aU),
 aI (aU),
 aI (aU),
 aI (aU),
 bJ,
 aI (aU),
 aI (.int .u64),
 aI (aU),
 aI (aU),
 aI (aU),
 bJ,
 aI (aU),
 aI (aU),
 aI (aU),
 aI (aU),
 aI (aU),
 aI (aU),
 aI (aU),
 aI (aU),
 aI (aU),
 aI (aU),
 aI (aU),
 aI (aU),
 aI (aU),
 aI (aU),
 bJ,
 aI (aU),
 aI (aU),
 bJ,
 aI (aU),
 bJ,
 aI (aU),
 aI (aU),
 bJ,
 aI (aU),
 bJ,
 aI (aU),
 aI (aU),
 bJ,
 aI (aU),
 bJ,
 aI (aU),
 aI (aU),
 bJ,
 aI (aU),
 bJ,
 aI (aU),
 aI (aU),
 bJ,
 aI (aU),
 bJ,
 aI (aU),
 aI (aU),
 bJ,
 aI (aU),
 bJ,
 aI (aU),
 bJ,
 aI (aU),
 bJ,
 aI (aU),
 bJ,
 aI (aU),
 bJ,
 aI (aU),
 bJ,
 aI (aU),
 bJ,
 aI (aU),
 aI (aU),
 bJ,
 aI (aU),
 bJ,
 aI (aU),
 bJ,
 aI (aU),
 bJ,
 aI (aU),
 aI (aU),
 aI (aU),
 aI (aU),
 aI (aU),
 aI (aU),
 bJ,
 aI (aU),
 aI (aU),
 aI (aU),
 aI (aU),
 bJ,
 aI (aU),
 aI (aU),
 aI (aU),
 aI (aU),
 aI (aU),
 aI (aU),
 aI (aU),
 aI (aU),
 aI (aU),
 aI (aU),
 aI (aU),
 bJ,
 aI (aU),
 bJ,
 aI (aU),
 aI (aU),
 aI (aU),
 aI (aU),
 aI (aU),
 aI (aU),
 aI (aU),
 aI (aU),
 aI (aU),
 aI (aU),
 bJ,
 aI (aU),
 aI (aU),
 aI (aU),
 aI (aU),
 aI (aU),
 aI (aU),
 aI (aU),
 aI (aU),
 aI (aU),
 bJ,
 aI (aU),
 aI (aU),
 aI (aU),
 aI (aU),
 aI (aU),
 aI (aU),
 aI (aU),
 aI (aU),
 aI (aU),
 aI (aU),
 aI (aU),
 pL 3 (.int .i64) 8,
 aI (aU),
 aI (aU),
 pL 46 (.sl .str) 24,
 aI (aU),
 aI (aU),
 aI (aU),
 aI (aU),
 aI (aU),
 aI (aU),
 aI (aU),
 aI (aU),
 aI (aU),
 aI (aU),
 aI (aU),
 bJ,
 aI (aU),
 aI (aU),
 aI (aU),
 aI (aU),
 aI (.int .i64),
 bJ,
 aI (aU),
 bJ,
 aI (aU),
 aI (aU),
 aI (aU),
 aI (aU),
 aI (aU),
 aI (aU),
 aI (aU),
 aI (aU),
 aI (aU),
 aI (aU),
 aI (aU),
 aI (aU),
 aI (aU),
 aI (aU),
 aI (aU),
 aI (aU),
 aI (aU),
 aI (aU),
 aI (aU),
 aI (aU),
 aI (aU),
 aI (aU),
 aI (aU),
 aI (aU),
 aI (aU),
 aI (aU),
 aI (aU),
 aI (aU),
 aI (aU),
 aI (aU),
 aI (aU),
 aI (aU),
 aI (aU),
 aI (aU),
 aI (aU),
 aI (aU),
 aI (aU),
 aI (aU),
 aI (aU),
 aI (.int .u32),
 bJ,
 aI (aU),
 aI (aU),
 bJ,
 bJ,
 aI (aU),
 aI (aU),
 bJ,
 aI (aU),
 aI (aU),
 bJ,
 aI (aU),
 aI (aU),
 aI (aU),
 aI (aU),
 aI (aU),
 aI (aU),
 aI (aU),
 aI (aU),
 bJ,
 aI (aU),
 aI (aU),
 aI (aU),
 aI (aU),
 aI (aU),
 aI (aU),
 bJ,
 bJ,
 bJ,
 aI (aU),
 aI (aU),
 bJ,
 bJ,
 eC (.cons (.int .u8) (.cons (.int .u8) .unit)),
 eC (.cons (.int .u8) (.cons (.int .u8) .unit)),
 bJ,
 bJ,
 eC (.cons .str .unit),
 eC (.cons .str .unit),
 aI (aU),
 bJ,
 bJ,
 aI (aU),
 aI (aU),
 aI (aU),
 aI (aU),
 aI (aU),
 aI (aU),
 aI (aU),
 aI (aU),
 aI (aU),
 aI (aU),
 aI (aU),
 aI (aU),
 bJ,
 aI (aU),
 aI (aU),
 aI (aU),
 aI (aU),
 aI (aU),
 aI (aU),
 bJ,
 bJ,
 aI (aU),
 bJ,
 bJ,
 bJ,
 bJ,
 bJ,
 aI (.int .u8),
 aI (.int .u8),
 aI (aU),
 aI (.int .i32),
 aI (.int .i32)]
theorem vO:jP aL tab:=Om (by kernel_rfl)
theorem mixed:Tryz.prog.follows .mixedOrders=true:=by kernel_rfl
theorem VQ (E:eD) (L:bG):aPA E L E L:=rfl
@[reducible] def eI (k:Nat) (v:Int):Nat×PV:=(k,.a (.val (.int .i64 v)))
@[reducible] def eB (k:Nat) (v:Bool):Nat×PV:=(k,.a (.val (.bool v)))
@[reducible] def eS (k:Nat) (v:ByteArray):Nat×PV:=(k,.a (.val (.string v)))
@[reducible] def eL (k:Nat) (T:Ty) (v:List T.den):Nat×PV:=(k,.a (.sl T v))
@[reducible] def eT (k:Nat) (T:Ty) (v:T.den):Nat×PV:=(k,.a (.st T v))
@[reducible] def eO (k a b:Nat) (p:List Nat):Nat×PV:=(k,.a (.optr a b p))
@[reducible] def eP (k a b:Nat) (T:Ty):Nat×PV:=(k,.a (.bptr a b T))
@[reducible] def eW (k a:Nat):Nat×PV:=(k,.a (.osl a none))
@[reducible] def O9 (v:Int):dD:=.val (.int .i64 v)
@[reducible] def N2 (v:Bool):dD:=.val (.bool v)
@[reducible] def lM (v:Int):fT:=.val (.int .i64 v)
@[reducible] def vI (a:Nat):fT:=.osl a none
@[reducible] def jB (T:Ty) (v:List T.den):Option hY:=some (hY.mk T v false none none)
@[reducible] def hB_ (T:Ty) (l:List fT):Option hY:=some (hY.mk T [] false (some l) none)
@[reducible] def dR (d:dB) (p:fX d.sig->Prop) (r:fX d.sig->List aY):Am.Spec:=⟨d.sig,p,λ_=>[],r,d.kds⟩
@[reducible] def wD (d:dB) (p:fX d.sig->Prop) (u:fX d.sig->List (Option BD)) (r:fX d.sig->List aY):Am.Spec:=⟨d.sig,p,u,r,d.kds⟩
abbrev FO (d:dB):Prop:=Fok aL tab d
theorem mo {d:dB} (h:aL.funcs[d.f]? = some d.fn) (x:nQ aL d.ext):Fok aL tab d:=⟨h,vO,x,mixed⟩
abbrev c7 (f:FuncId) (S:Am.Spec):Prop:=Con aL f S
abbrev St (d:dB) (x:fX d.sig) (ds:List aY) (us:List (Option BD)) (K:jK) (q:Nat->Value):Prop:=G aL tab d ds us K q [] [] [.code (Ph d.fn)] (YK 0 0 d.sig x) (aMW d.sig x)
abbrev Cu (d:dB) (c:Nat) (z:eD×bG) (ds:List aY) (us:List (Option BD)) (K:jK) (q:Nat->Value):Prop:=G aL tab d ds us K q [] [] (aXy (Ph d.fn) c) z.1 z.2
theorem gv0 {W:World} (h:CR W):vS W 0 (.int .i64):=h.1
theorem aQG (W:World) (h:W.ShapedOpen aL):∃ m,W.cell? ⟨0,0,none⟩=some (.int .i64 m) :=
 Go.Proofs.cell_of_shapedOpen_int (zero := #[.int .i64 0]) (t:=3) h (of_decide_eq_true (by kernel_rfl)) (by kernel_rfl) rfl (by kernel_rfl) (by kernel_rfl) eG
theorem gv1 {W:World} (h:CR W):vS W 1 (.ifc):=h.2.1
theorem gv2 {W:World} (h:CR W):vS W 2 (.ifc):=h.2.2.1
theorem gv5 {W:World} (h:CR W):vS W 5 (.tab .u64 zB):=h.2.2.2.1
theorem aEL {W:World} (h:CR W):∃ m,W.cell? ⟨0,0,none⟩=some (.int .i64 m):=gv0 h
theorem aQH {W : World} (h : CR W) : Lib.TabIs aL W "internal/strconv.uint64pow10" .u64 zB := vS.tab (by kernel_rfl) (gv5 h)
theorem aB9 {W:World} (h:CR W):∃ ev,W.cell? ⟨1,0,none⟩=some ev/\(ev = .nilIface\/∃ te pe,ev = .iface te pe):=vS.ifc_cell (gv1 h)
theorem aGo {W:World} (h:CR W):∃ ev,W.cell? ⟨2,0,none⟩=some ev/\(ev = .nilIface\/∃ te pe,ev = .iface te pe):=vS.ifc_cell (gv2 h)
theorem ginv (W:World) (h:W.ShapedOpen aL) (h1:vS W 1 (.ifc)) (h2:vS W 2 (.ifc)) (h5:vS W 5 (.tab .u64 zB)):CR W:=⟨aQG W h,h1,h2,h5,trivial⟩
@[reducible] def fV:Type:=List (ByteArray×Int×Int×Int×Unit)×(Int×Int×Int×Int×Unit)×List (Int×Int×Int×Unit)×List (Int×Int×Int×Unit)×(Int×Int×Int×Unit)×(Int×Int×Int×Unit)×List (ByteArray×Int×Int×Unit)×(Int×Int×Int×Int×Unit)×List (ByteArray×Int×Int×Int×Unit)×List (Int×Int×Int×Unit)×List (ByteArray×Int×Int×Unit)×List (ByteArray×Int×Int×Unit)×Unit
@[reducible] def dG:Type:=ByteArray×Int×Int×Int×Unit
@[reducible] def bX:Type:=ByteArray×Int×Int×Unit
@[reducible] def cU:Type:=Int×Int×Int×Unit
@[reducible] def vP:Ty := .cons (.sl (.cons .str (.cons (.int .i64) (.cons (.int .i64) (.cons (.int .i64) .unit))))) (.cons (.cons (.int .i64) (.cons (.int .i64) (.cons (.int .i64) (.cons (.int .i64) .unit)))) (.cons (.sl (.cons (.int .i64) (.cons (.int .i64) (.cons (.int .i64) .unit)))) (.cons (.sl (.cons (.int .i64) (.cons (.int .i64) (.cons (.int .i64) .unit)))) (.cons (.cons (.int .i64) (.cons (.int .i64) (.cons (.int .i64) .unit))) (.cons (.cons (.int .i64) (.cons (.int .i64) (.cons (.int .i64) .unit))) (.cons (.sl (.cons .str (.cons (.int .i64) (.cons (.int .i64) .unit)))) (.cons (.cons (.int .i64) (.cons (.int .i64) (.cons (.int .i64) (.cons (.int .i64) .unit)))) (.cons (.sl (.cons .str (.cons (.int .i64) (.cons (.int .i64) (.cons (.int .i64) .unit))))) (.cons (.sl (.cons (.int .i64) (.cons (.int .i64) (.cons (.int .i64) .unit)))) (.cons (.sl (.cons .str (.cons (.int .i64) (.cons (.int .i64) .unit)))) (.cons (.sl (.cons .str (.cons (.int .i64) (.cons (.int .i64) .unit)))) .unit)))))))))))
@[reducible] def YA1:Ty := .cons (.cons (.int .i64) (.cons (.int .i64) (.cons (.int .i64) (.cons (.int .i64) .unit)))) (.cons (.sl (.cons (.int .i64) (.cons (.int .i64) (.cons (.int .i64) .unit)))) (.cons (.sl (.cons (.int .i64) (.cons (.int .i64) (.cons (.int .i64) .unit)))) (.cons (.cons (.int .i64) (.cons (.int .i64) (.cons (.int .i64) .unit))) (.cons (.cons (.int .i64) (.cons (.int .i64) (.cons (.int .i64) .unit))) (.cons (.sl (.cons .str (.cons (.int .i64) (.cons (.int .i64) .unit)))) (.cons (.cons (.int .i64) (.cons (.int .i64) (.cons (.int .i64) (.cons (.int .i64) .unit)))) (.cons (.sl (.cons .str (.cons (.int .i64) (.cons (.int .i64) (.cons (.int .i64) .unit))))) (.cons (.sl (.cons (.int .i64) (.cons (.int .i64) (.cons (.int .i64) .unit)))) (.cons (.sl (.cons .str (.cons (.int .i64) (.cons (.int .i64) .unit)))) (.cons (.sl (.cons .str (.cons (.int .i64) (.cons (.int .i64) .unit)))) .unit))))))))))
@[reducible] def Gl:Ty := .cons .str (.cons .str (.cons (.sl (.int .i64)) (.cons (.sl (.int .i64)) .unit)))
@[reducible] def X1:Ty := .cons (.int .i64) (.cons (.int .i64) (.cons (.int .i64) (.cons (.int .i64) .unit)))
@[reducible] def gT:Ty := .cons .str (.cons (.int .i64) (.cons (.int .i64) (.cons (.int .i64) .unit)))
@[reducible] def Y3:Ty := .cons (.sl (.int .u8)) (.cons (.int .i64) (.cons (.int .u64) .unit))
@[reducible] def fL:Ty := .cons (.int .i64) (.cons (.int .i64) (.cons (.int .i64) .unit))
@[reducible] def fP:Ty := .cons .str (.cons (.int .i64) (.cons (.int .i64) .unit))
@[reducible] def X2:Ty := .cons (.int .i64) (.cons (.int .u64) .unit)
@[reducible] def JZ:Ty := .cons (.int .i64) (.cons (.int .i64) .unit)
theorem bl_ {a b:Nat} (h:zC a b=true):a<=b:=aZ h
theorem BE {b:Bool} (h:¬ b=true):b=false:=bN.2 h
abbrev Cb (f:FuncId):Prop:=uS aL f
abbrev Ct (f:FuncId) (S:Am.Spec):Prop:=jC aL f S
noncomputable section
noncomputable def d4:dB:=⟨4,Tryz.f4,[.v (.sl (.int .u8))],[.bool],[],[],false,[]⟩
theorem o4:FO d4:=mo Tryz.func4 trivial
def P4 (x0:List Int):Prop:=True
def aQI (x0:List Int):Bool:=decide ((x0.length:Int)>1048576)
def S4:=dR d4 (λ⟨x0,_⟩=>P4 x0) λ⟨x0,_⟩=>[⟨.bool,aQI x0⟩]
theorem bGl:c7 4 S4:=dF o4 λ⟨x0,_⟩ h _ K q=>rt
noncomputable def d11:dB:=⟨11,Tryz.f11,[.v (.sl (.int .u8))],[.cons (.sl (.int .u8)) X2],[.bx],[],false,[]⟩
theorem o11:FO d11:=mo Tryz.func11 trivial
def P11 (x0:List Int):Prop:=True
def Tq (x0:List Int):List Int×Int×Int×Unit:=(x0,0,0,())
def S11:=dR d11 (λ⟨x0,_⟩=>P11 x0) λ⟨x0,_⟩=>[⟨.cons (.sl (.int .u8)) X2,Tq x0⟩]
theorem aX4:c7 11 S11:=dF o11 λ⟨x0,_⟩ h _ K q=>rt
noncomputable def d33:dB:=⟨33,Tryz.f33,[.pb Y3],[.int .i64],[],[],true,[]⟩
theorem o33:FO d33:=mo Tryz.func33 trivial
def P33 (x0:List Int×Int×Int×Unit):Prop:=(if (decide (x0.2.1<(x0.1.length:Int)))=true then ((0<=x0.2.1)/\(x0.2.1<(x0.1.length:Int))/\(if (decide (bD cN (x0.2.1+1)<=(x0.1.length:Int)))=true then True else ((cC .u64 (cQ (bD cL (bD cL (bD cL (x0.2.2.1*6364136223846793005)+bD cL (bD cN (aD x0.1 (aE x0.2.1) 0)))+1442695040888963407)) 1099511627776))/\True))) else (if (decide (bD cN (x0.2.1+1)<=(x0.1.length:Int)))=true then True else ((cC .u64 (cQ (bD cL (bD cL (bD cL (x0.2.2.1*6364136223846793005)+0)+1442695040888963407)) 1099511627776))/\True)))
def yS (x0:List Int×Int×Int×Unit):Int:=(if (decide (x0.2.1<(x0.1.length:Int)))=true then (if (decide (bD cN (x0.2.1+1)<=(x0.1.length:Int)))=true then bD cN (aD x0.1 (aE x0.2.1) 0) else bD cN (bD cL (↑(j3 (dX 64 (cQ (bD cL (bD cL (bD cL (x0.2.2.1*6364136223846793005)+bD cL (bD cN (aD x0.1 (aE x0.2.1) 0)))+1442695040888963407)) 1099511627776) &&& dX 64 255)):Int))) else (if (decide (bD cN (x0.2.1+1)<=(x0.1.length:Int)))=true then 0 else bD cN (bD cL (↑(j3 (dX 64 (cQ (bD cL (bD cL (bD cL (x0.2.2.1*6364136223846793005)+0)+1442695040888963407)) 1099511627776) &&& dX 64 255)):Int))))
def FQ (x0:List Int×Int×Int×Unit):List Int×Int×Int×Unit:=(if (decide (x0.2.1<(x0.1.length:Int)))=true then (if (decide (bD cN (x0.2.1+1)<=(x0.1.length:Int)))=true then (x0.1,bD cN (x0.2.1+1),bD cL (bD cL (bD cL (x0.2.2.1*6364136223846793005)+bD cL (bD cN (aD x0.1 (aE x0.2.1) 0)))+1442695040888963407),()) else (x0.1,bD cN (x0.2.1+1),bD cL (bD cL (bD cL (x0.2.2.1*6364136223846793005)+bD cL (bD cN (aD x0.1 (aE x0.2.1) 0)))+1442695040888963407),())) else (if (decide (bD cN (x0.2.1+1)<=(x0.1.length:Int)))=true then (x0.1,bD cN (x0.2.1+1),bD cL (bD cL (bD cL (x0.2.2.1*6364136223846793005)+0)+1442695040888963407),()) else (x0.1,bD cN (x0.2.1+1),bD cL (bD cL (bD cL (x0.2.2.1*6364136223846793005)+0)+1442695040888963407),())))
def S33:=wD d33 (λ⟨x0,_⟩=>P33 x0) (λ⟨x0,_⟩=>[some ⟨.cons (.sl (.int .u8)) X2,[FQ x0]⟩]) λ⟨x0,_⟩=>[⟨.int .i64,yS x0⟩]
theorem aX6:c7 33 S33:=dF o33 λ⟨x0,_⟩ h _ K q=>yA h (λh=>c2 h λh=>yA h (λh=>rt) λh=>tP ((by decide):(0:Int)<=(40:Int))<|c1 h λh=>rt) λh=>yA h (λh=>rt) λh=>tP ((by decide):(0:Int)<=(40:Int))<|c1 h λh=>rt
noncomputable def d12:dB:=⟨12,Tryz.f12,[.pb Y3,.v (.int .i64)],[.int .i64],[],[(33,S33)],false,[]⟩
theorem o12:FO d12:=mo Tryz.func12 ⟨aX6,trivial⟩
def Ee (x0:List Int×Int×Int×Unit) (x1:Int):Prop:=(if (decide (x1<=1))=true then True else ((P33 x0)/\(if (decide (x1>200))=true then ((cC .i64 (yS x0*256))/\((P33 (FQ x0))/\((cC .i64 (yS x0*256+yS (FQ x0)))/\((x1≠0)/\(cC .i64 (c8 (yS x0*256+yS (FQ x0)) x1))/\True)))) else ((x1≠0)/\(cC .i64 (c8 (yS x0) x1))/\True))))
def aV (x0:List Int×Int×Int×Unit) (x1:Int):Int:=(if (decide (x1<=1))=true then 0 else (if (decide (x1>200))=true then c8 (yS x0*256+yS (FQ x0)) x1 else c8 (yS x0) x1))
def aG (x0:List Int×Int×Int×Unit) (x1:Int):List Int×Int×Int×Unit:=(if (decide (x1<=1))=true then x0 else (if (decide (x1>200))=true then FQ (FQ x0) else FQ x0))
def S12:=wD d12 (λ⟨x0,x1,_⟩=>Ee x0 x1) (λ⟨x0,x1,_⟩=>[some ⟨.cons (.sl (.int .u8)) X2,[aG x0 x1]⟩]) λ⟨x0,x1,_⟩=>[⟨.int .i64,aV x0 x1⟩]
theorem AJ:c7 12 S12:=dF o12 λ⟨x0,x1,_⟩ h _ K q=>yA h (λh=>rt) λh=>c1 h λh=>yA h (λh=>c1 h λh=>c1 h λh=>c1 h λh=>c2 h λh=>rt) λh=>c2 h λh=>rt
noncomputable def d35:dB:=⟨35,Tryz.f35,[.pb Y3,.v (.sl .str)],[.str],[],[(12,S12)],false,[]⟩
theorem o35:FO d35:=mo Tryz.func35 ⟨AJ,trivial⟩
def Tr (x0:List Int×Int×Int×Unit) (x1:List ByteArray):Prop:=((Ee x0 (x1.length:Int))/\((0<=aV x0 (x1.length:Int))/\(aV x0 (x1.length:Int)<(x1.length:Int))/\True))
def jQ (x0:List Int×Int×Int×Unit) (x1:List ByteArray):ByteArray:=aD x1 (aE (aV x0 (x1.length:Int))) aC
def fE (x0:List Int×Int×Int×Unit) (x1:List ByteArray):List Int×Int×Int×Unit:=aG x0 (x1.length:Int)
def S35:=wD d35 (λ⟨x0,x1,_⟩=>Tr x0 x1) (λ⟨x0,x1,_⟩=>[some ⟨.cons (.sl (.int .u8)) X2,[fE x0 x1]⟩]) λ⟨x0,x1,_⟩=>[⟨.str,jQ x0 x1⟩]
theorem aX7:c7 35 S35:=dF o35 λ⟨x0,x1,_⟩ h _ K q=>c1 h λh=>c2 h λh=>rt
noncomputable def d34:dB:=⟨34,Tryz.f34,[.pb Y3,.v (.str)],[.cons .str fL],[],[(12,S12)],false,[]⟩
theorem o34:FO d34:=mo Tryz.func34 ⟨AJ,trivial⟩
def P34 (x0:List Int×Int×Int×Unit) (x1:ByteArray):Prop:=((Ee x0 800)/\((cC .i64 (500*aV x0 800))/\((cC .i64 (10000+500*aV x0 800))/\((Ee (aG x0 800) 400)/\((cC .i64 (250*aV (aG x0 800) 400))/\((cC .i64 (1000+250*aV (aG x0 800) 400))/\((Ee (aG (aG x0 800) 400) 25)/\((cC .i64 (5*aV (aG (aG x0 800) 400) 25))/\True))))))))
def aIj (x0:List Int×Int×Int×Unit) (x1:ByteArray):ByteArray×Int×Int×Int×Unit:=(x1,10000+500*aV x0 800,1000+250*aV (aG x0 800) 400,5*aV (aG (aG x0 800) 400) 25,())
def aIk (x0:List Int×Int×Int×Unit) (x1:ByteArray):List Int×Int×Int×Unit:=aG (aG (aG x0 800) 400) 25
def S34:=wD d34 (λ⟨x0,x1,_⟩=>P34 x0 x1) (λ⟨x0,x1,_⟩=>[some ⟨.cons (.sl (.int .u8)) X2,[aIk x0 x1]⟩]) λ⟨x0,x1,_⟩=>[⟨.cons .str fL,aIj x0 x1⟩]
theorem aX8:c7 34 S34:=dF o34 λ⟨x0,x1,_⟩ h _ K q=>c1 h λh=>c1 h λh=>c1 h λh=>c1 h λh=>c1 h λh=>c1 h λh=>c1 h λh=>c1 h λh=>rt
noncomputable def aIl:dB:=⟨104,Tryz.f104,[.v (.int .i64)],[.str],[],[],false,[]⟩
theorem bGn:FO aIl:=mo Tryz.func104 trivial
def aQJ (v4:Int) (h0:List Int) (x0:Int):eD×bG:=([eI 0 x0,eW 3 0,eI 4 v4],[jB (.int .u8) h0])
def aNe (v7:Int) (h0:List Int) (h1:List Int):eD×bG:=([eW 3 0,eW 6 1,eI 7 v7],[jB (.int .u8) h0,jB (.int .u8) h1])
mutual
def aNf:Nat->Int->List aY->Prop
 | 0,_,_=>False
 | n+1,x0,ds=>(if (x0==0)=true then (ds=[aP .str (aA #[48])]) else (Bq n (x0) ([]) (x0) ds))
def Bq:Nat->Int->List Int->Int->List aY->Prop
 | 0,_,_,_,_=>False
 | n+1,v4,h0,x0,ds=>(if (v4 != 0)=true then ((cC .i64 (c8 v4 10))/\(if (decide (c8 v4 10<0))=true then ((cC .i64 (0 - c8 v4 10))/\((cC .i64 (48+(0 - c8 v4 10)))/\((cC .u8 (48+(0 - c8 v4 10)))/\(((aN h0+1)*1<=140737488355328)/\((cC .i64 (bM v4 10))/\(Bq n (bM v4 10) (h0++[48+(0 - c8 v4 10)]) (x0) ds)))))) else ((cC .i64 (48+c8 v4 10))/\((cC .u8 (48+c8 v4 10))/\(((aN h0+1)*1<=140737488355328)/\((cC .i64 (bM v4 10))/\(Bq n (bM v4 10) (h0++[48+c8 v4 10]) (x0) ds))))))) else (if (decide (x0<0))=true then (((aN h0+1)*1<=140737488355328)/\((cC .i64 ((↑(aN (h0++[45])):Int) - 1))/\(DU n ((↑(aN (h0++[45])):Int) - 1) (h0++[45]) ([]) ds))) else ((cC .i64 ((h0.length:Int) - 1))/\(DU n ((h0.length:Int) - 1) (h0) ([]) ds))))
def DU:Nat->Int->List Int->List Int->List aY->Prop
 | 0,_,_,_,_=>False
 | n+1,v7,h0,h1,ds=>(if (decide (v7>=0))=true then ((0<=v7)/\(v7<(h0.length:Int))/\(((aN h1+1)*1<=140737488355328)/\((cC .i64 (v7 - 1))/\(DU n (v7 - 1) (h0) (h1++[aD h0 (aE v7) 0]) ds)))) else (ds=[aP .str (lU h1)]))
end
theorem aQK (ds:List aY) (K:jK) (q:Nat->Value):∀ n,(∀ {x0},aNf n x0 ds->St aIl (x0,()) ds [] K q)/\(∀ {v4 h0 x0},Bq n v4 h0 x0 ds->Cu aIl 5 (aQJ v4 h0 x0) ds [] K q)/\(∀ {v7 h0 h1},DU n v7 h0 h1 ds->Cu aIl 15 (aNe v7 h0 h1) ds [] K q):=by
 intro n
 induction n with
 | zero=>exact ⟨λh=>h.elim,λh=>h.elim,λh=>h.elim⟩
 | succ n ih =>
 obtain ⟨i,i5,i15⟩:=ih;exact ⟨λh=>bR h (λh=>rh h) λh=>jp (i5 h),
  λ{v4} {h0} {x0} h=>bR h (λh=>tP ((by decide):(10:Int)≠(0:Int))<|c1 h λh=>bR h (λh=>c1 h λh=>c1 h λh=>c1 h λh=>c1 h λh=>tP ((by decide):(10:Int)≠(0:Int))<|c1 h λh=>jp (i5 h)) λh=>c1 h λh=>c1 h λh=>c1 h λh=>tP ((by decide):(10:Int)≠(0:Int))<|c1 h λh=>jp (i5 h)) λh=>bR h (λh=>c1 h λh=>c1 h λh=>jp (i15 h)) λh=>c1 h λh=>jp (i15 h),
  λh=>bR h (λh=>c2 h λh=>c1 h λh=>c1 h λh=>jp (i15 h)) λh=>rh h⟩
def jN (x0:Int):ByteArray:=C0 x0
def bGo (x0:Int):Prop:=True
theorem VR (xs:List Int):lU xs=⟨⟨xs.map λn=>kP n.toNat⟩⟩:=by
 have key:∀ (xs:List Int) (s:ByteArray),(xs.foldl (λr n=>r.push (kP n.toNat)) s).data.toList=s.data.toList++xs.map λn=>kP n.toNat:=by
  intro xs
  induction xs with
  | nil=>intro s;simp
  | cons a r ih =>
   intro s;rw [List.foldl_cons,ih];show (s.data.push _).toList++_=_;rw [Array.toList_push];simp
 apply Sn;apply Array.ext';have:=key xs aC;unfold lU;rw [this];rfl
theorem aIm (l:List UInt8):lU (l.map λb=>(b.toNat:Int))=⟨⟨l⟩⟩:=by
 rw [VR,zE]
 congr 2
 conv=>rhs;rw [<- List.map_id l]
 refine List.map_congr_left λb _ => ?_;show kP ((b.toNat:Int)).toNat=b;rw [aF,UInt8.ofNat_toNat]
def pH (m:Nat):List Int:=if h:m=0 then [] else ((48+m % 10:Nat):Int) :: pH (m / 10)
termination_by m
decreasing_by omega
theorem VS:pH 0=[]:=by rw [pH,dif_pos rfl]
theorem aBA {m:Nat} (h:m≠0):pH m=((48+m % 10:Nat):Int) :: pH (m / 10):=by rw [pH,dif_neg h]
theorem aIn : ∀ (k m : Nat), m < 10 ^ k -> (pH m).length <= k
  | 0, m, h => by obtain rfl : m = 0 := by simpa using h
                  rw [VS]; exact aT _
  | k + 1, m, h => by
    by_cases h0 : m = 0
    · rw [h0, VS]; exact bW _
    · rw [aBA h0, bA]
      have := aIn k (m / 10) (by rw [Nat.pow_succ] at h; omega);omega
theorem aIo (m:Nat) (h:m≠0):lU (pH m).reverse=⟨⟨dQ m⟩⟩:=by
 have key:∀ m:Nat,m≠0->(pH m).reverse=(dQ m).map λb=>(b.toNat:Int):=by
  intro m
  induction m using E6 with
  | _ m ih =>
   intro h;rw [aBA h,List.reverse_cons,dQ];have e:(kP (48+m % 10)).toNat=48+m % 10:=by rw [tX];omega
   split
   ·rename_i hs;rw [show m / 10=0 by omega,VS];have e':(kP (48+m)).toNat=48+m % 10:=by rw [tX];omega
    rw [JK,e'];rfl
   ·rw [ih (m / 10) (by omega) (by omega),gQ,JK,e]
 rw [key m h];exact aIm _
theorem VT (h0:List Int):∀ (j:Nat) (h1:List Int),j<=h0.length->h1.length+j<=64->DU (j+1) ((j:Int) - 1) h0 h1 [⟨.str,lU (h1++(h0.take j).reverse)⟩]
 | 0,h1,_,_=>by
  rw [DU,if_neg (by decide)];simp
 | j+1,h1,hj,hl=>by
  have ih:=VT h0 j (h1++[h0.getD j 0]) (by omega) (by rw [aO,cP];omega);have e:((j+1:Nat):Int) - 1=(j:Int):=by omega
  rw [DU,e,if_pos (by simp only [decide_eq_true_eq];omega),aF];refine ⟨by omega,by omega,by omega,by rw [aK];omega,?_⟩;have et:(h0.take (j+1)).reverse=h0.getD j 0 :: (h0.take j).reverse:=by
   have hlt:j<h0.length:=by omega
   rw [gY,bC hlt,H6,bL,bC hlt];rfl
  rw [et];rw [bS] at ih;exact ih
theorem aNg (x0:Int) (h0:List Int) (hl:h0.length<=20):Bq ((if x0<0 then h0.length+1 else h0.length)+1+1) 0 h0 x0 [⟨.str,lU ((if x0<0 then h0++[45] else h0)).reverse⟩]:=by
 rw [Bq,if_neg (by decide)];by_cases hx:x0<0
 ·have b:=VT (h0++[45]) (h0.length+1) [] (by rw [aO,cP];omega) (by simp;omega);have e:(h0++[(45:Int)]).length=h0.length+1:=by rw [aO,cP]
  rw [fR (by omega)] at b;simp only [hx,decide_true,if_true];rw [e];exact ⟨by omega,by rw [aK];omega,b⟩
 ·have b:=VT h0 h0.length [] (aT _) (by simp;omega);rw [fR (aT _)] at b;simp only [hx,decide_false,dJ,if_false];exact ⟨by rw [aK];omega,b⟩
theorem aQL (x0:Int) (ds:List aY) (F:List Int) (K:Nat) (hF:Bq K 0 F x0 ds):∀ (m:Nat) (v:Int) (h0:List Int),(v=(m:Int)\/v = -(m:Int))->m<=9223372036854775808->cC .i64 v->h0.length+(pH m).length<=20->h0++pH m=F->Bq ((pH m).length+K) v h0 x0 ds:=by
 intro m
 induction m using E6 with
 | _ m ih =>
  intro v h0 hv hm hi hl he;by_cases h:m=0
  ·subst h;obtain rfl:v=0:=by omega
   rw [VS] at he ⊢;rw [List.append_nil] at he;rw [he,List.length_nil,cV];exact hF
  ·have hr:=aBA h;rw [hr] at he hl ⊢;rw [bA] at hl ⊢;have hne:(v != 0)=true:=by
    have:v≠0:=by omega
    simpa using this
   rw [aK] at hi;have e1:(pH (m / 10)).length+1+K=((pH (m / 10)).length+K)+1:=by omega
   have next:∀ v',(v'=((m / 10:Nat):Int)\/v' = -((m / 10:Nat):Int))->Bq ((pH (m / 10)).length+K) v' (h0++[((48+m % 10:Nat):Int)]) x0 ds:=λv' hv' =>
    ih (m / 10) (by omega) v' _ hv' (by omega) (by rw [aK];omega) (by rw [aO,cP];omega) (by rw [bS];exact he)
   rw [e1,Bq,if_pos hne];rcases hv with rfl | rfl
   ·have t1:c8 (m:Int) 10=((m % 10:Nat):Int):=rfl;have t2:bM (m:Int) 10=((m / 10:Nat):Int):=rfl;rw [t1,t2];refine ⟨by rw [aK];omega,?_⟩;rw [if_neg (by simp only [decide_eq_true_eq];omega)];have e2:48+((m % 10:Nat):Int)=((48+m % 10:Nat):Int):=by omega
    rw [e2];exact ⟨by rw [aK];omega,by rw [Pk];omega,by omega,by rw [aK];omega,next _ (.inl rfl)⟩
   ·have t1:c8 (-(m:Int)) 10 = -((m % 10:Nat):Int):=by rw [Int.neg_tmod];rfl
    have t2:bM (-(m:Int)) 10 = -((m / 10:Nat):Int):=by rw [Int.neg_tdiv];rfl
    rw [t1,t2];refine ⟨by rw [aK];omega,?_⟩;by_cases hz:m % 10=0
    ·rw [if_neg (by simp only [decide_eq_true_eq];omega)];have e2:48 + -((m % 10:Nat):Int)=((48+m % 10:Nat):Int):=by omega
     rw [e2];exact ⟨by rw [aK];omega,by rw [Pk];omega,by omega,by rw [aK];omega,next _ (.inr rfl)⟩
    ·rw [if_pos (by simp only [decide_eq_true_eq];omega)];have e2:48+(0 - -((m % 10:Nat):Int))=((48+m % 10:Nat):Int):=by omega
     rw [e2];exact ⟨by rw [aK];omega,by rw [aK];omega,by rw [Pk];omega,by omega,by rw [aK];omega,next _ (.inr rfl)⟩
theorem aQM (x0:Int) (hi:cC .i64 x0):∃ n,aNf n x0 [⟨.str,jN x0⟩]:=by
 unfold jN C0 Ck;by_cases h:x0=0
 ·subst h;refine ⟨1,?_⟩;rw [aNf,if_pos (by rfl),if_neg (by decide)];have e:dQ (aE 0)=[48]:=by rw [dQ,dif_pos (by decide)];rfl
  rw [e]
 ·have hi':=hi;rw [aK] at hi';have hn:x0.natAbs≠0:=by omega
  have hl:=aIn 19 x0.natAbs (by omega);refine ⟨(pH x0.natAbs).length+((if x0<0 then (pH x0.natAbs).length+1 else (pH x0.natAbs).length)+1+1)+1,?_⟩;rw [aNf,if_neg (by simpa using h)];have hlast:=aNg x0 (pH x0.natAbs) (by omega);have hrun:=aQL x0 _ (pH x0.natAbs) _ hlast x0.natAbs x0 [] (by omega) (by omega) hi (by simp;omega) rfl;have e:lU (if x0<0 then pH x0.natAbs++[45] else pH x0.natAbs).reverse=⟨(if x0<0 then 45 :: dQ x0.natAbs else dQ x0.toNat).toArray⟩:=by
   by_cases hx:x0<0
   ·rw [if_pos hx,if_pos hx,H6];show lU ((45:Int) :: (pH x0.natAbs).reverse)=_;have:=aIo x0.natAbs hn;have e0:lU ((45:Int) :: (pH x0.natAbs).reverse)=⟨⟨45 :: (lU (pH x0.natAbs).reverse).data.toList⟩⟩:=by rw [VR,VR];rfl
    rw [e0,this]
   ·rw [if_neg hx,if_neg hx,aIo x0.natAbs hn,show x0.natAbs=x0.toNat by omega]
  rw [e] at hrun;exact hrun
def aGp:=dR aIl (λ⟨x0,_⟩=>bGo x0) λ⟨x0,_⟩=>[⟨.str,jN x0⟩]
theorem Pu:c7 104 aGp:=dF bGn (λ⟨x0,_⟩ h hwf K q=>by
 obtain ⟨n,hn⟩:=aQM x0 hwf.1;exact (aQK _ K q n).1 hn)
noncomputable def d99:dB:=⟨99,Tryz.f99,[.v (.sl (.int .i64))],[.str],[],[(104,aGp)],false,[]⟩
theorem o99:FO d99:=mo Tryz.func99 ⟨Pu,trivial⟩
def aX9 (v3:ByteArray) (v4:Int) (x0:List Int):eD×bG:=([eL 0 (.int .i64) x0,eS 3 v3,eI 4 v4],[])
mutual
def R99:Nat->List Int->List aY->Prop
 | 0,_,_=>False
 | n+1,x0,ds=>(if ((x0.length:Int)==0)=true then (ds=[aP .str (aA #[45])]) else (Pv n (aA #[]) (0) (x0) ds))
def Pv:Nat->ByteArray->Int->List Int->List aY->Prop
 | 0,_,_,_,_=>False
 | n+1,v3,v4,x0,ds=>(if (decide (v4<(x0.length:Int)))=true then (if (decide (v4>0))=true then ((aH v3+1<=9223372036854775807)/\((0<=v4)/\(v4<(x0.length:Int))/\((aH (v3++aA #[44])+aH (jN (aD x0 (aE v4) 0))<=9223372036854775807)/\((cC .i64 (v4+1))/\(Pv n (v3++aA #[44]++jN (aD x0 (aE v4) 0)) (v4+1) (x0) ds))))) else ((0<=v4)/\(v4<(x0.length:Int))/\((aH v3+aH (jN (aD x0 (aE v4) 0))<=9223372036854775807)/\((cC .i64 (v4+1))/\(Pv n (v3++jN (aD x0 (aE v4) 0)) (v4+1) (x0) ds))))) else (ds=[aP .str v3]))
end
theorem aXA (ds:List aY) (K:jK) (q:Nat->Value):∀ n,(∀ {x0},R99 n x0 ds->St d99 (x0,()) ds [] K q)/\(∀ {v3 v4 x0},Pv n v3 v4 x0 ds->Cu d99 5 (aX9 v3 v4 x0) ds [] K q):=by
 intro n
 induction n with
 | zero=>exact ⟨λh=>h.elim,λh=>h.elim⟩
 | succ n ih =>
 obtain ⟨i,i5⟩:=ih;exact ⟨λh=>bR h (λh=>rh h) λh=>jp (i5 h),
  λh=>bR h (λh=>bR h (λh=>c1 h λh=>c2 h λh=>tv<|c1 h λh=>c1 h λh=>jp (i5 h)) λh=>c2 h λh=>tv<|c1 h λh=>c1 h λh=>jp (i5 h)) λh=>rh h⟩
def aBB:Nat->ByteArray->List Int->ByteArray
 | _,o,[]=>o
 | i,o,x :: r=>aBB (i+1) ((if 0<i then o++aA #[44] else o)++jN x) r
def xT (x0:List Int):ByteArray:=if x0.length=0 then aA #[45] else aBB 0 (aA #[]) x0
def P99 (x0:List Int):Prop:=x0.length<=1000/\∀ x∈x0,cC .i64 x
theorem aXB (x0:List Int) (hm:x0.length<=1000) (hx:∀ x∈x0,cC .i64 x):∀ (k i:Nat) (o:ByteArray),i+k=x0.length->o.size<=22*i ->
  Pv (k+1) o (i:Int) x0 [⟨.str,aBB i o (x0.drop i)⟩]:=by
 intro k
 induction k with
 | zero =>
  intro i o hi ho;rw [Pv,if_neg (by simp;omega),gW x0 i (by omega)];rfl
 | succ k ih =>
  intro i o hi ho;have hlt:i<x0.length:=by omega
  have hr:=hx (x0.getD i 0) (dN x0 i 0 hlt);have hup:cC .i64 ((i:Int)+1):=fC (xs:=x0) (by unfold maxLen;omega) hlt;rw [aK] at hr;have hs:(jN (x0.getD i 0)).size<=21:=wC _ (by omega) (by omega);rw [Pv,if_pos (by simp;omega),eH x0 i 0 hlt];simp only [aF];unfold aBB;have i44:(aA #[44]).size=1:=rfl;by_cases h0:0<i
  ·rw [if_pos (by simp;omega),if_pos h0];have hs1:(o++aA #[44]).size=o.size+1:=by rw [aS,i44]
   refine ⟨by omega,by omega,by omega,by rw [hs1];omega,hup,?_⟩;exact ih (i+1) _ (by omega) (by rw [aS,hs1];omega)
  ·rw [if_neg (by simp;omega),if_neg h0];refine ⟨by omega,by omega,by omega,hup,?_⟩;exact ih (i+1) _ (by omega) (by rw [aS];omega)
theorem aXC (x0:List Int) (h:P99 x0):R99 (x0.length+1+1) x0 [⟨.str,xT x0⟩]:=by
 rw [R99];unfold xT;by_cases h0:x0.length=0
 ·rw [if_pos (by simp [h0]),if_pos h0]
 ·rw [if_neg (by simp only [beq_iff_eq];omega),if_neg h0];exact aXB x0 h.1 h.2 x0.length 0 (aA #[]) (by omega) (by decide)
def S99:=dR d99 (λ⟨x0,_⟩=>P99 x0) λ⟨x0,_⟩=>[⟨.str,xT x0⟩]
theorem Pw:c7 99 S99:=dF o99 (λ⟨x0,_⟩ h hwf K q =>
 (aXA _ K q _).1 (aXC x0 h))
noncomputable def d36:dB:=⟨36,Tryz.f36,[.p gT],[.str],[],[(99,S99)],false,[]⟩
theorem o36:FO d36:=mo Tryz.func36 ⟨Pw,trivial⟩
def P36 (x0:ByteArray×Int×Int×Int×Unit):Prop:=((aH x0.1+1<=9223372036854775807)/\((P99 [x0.2.1,x0.2.2.1,x0.2.2.2.1])/\((aH (x0.1++aA #[32])+aH (xT [x0.2.1,x0.2.2.1,x0.2.2.2.1])<=9223372036854775807)/\True)))
def aEM (x0:ByteArray×Int×Int×Int×Unit):ByteArray:=x0.1++aA #[32]++xT [x0.2.1,x0.2.2.1,x0.2.2.2.1]
def S36:=dR d36 (λ⟨x0,_⟩=>P36 x0) λ⟨x0,_⟩=>[⟨.str,aEM x0⟩]
theorem aXD:c7 36 S36:=dF o36 λ⟨x0,_⟩ h _ K q=>c1 h λh=>c1 h λh=>c1 h λh=>rt
noncomputable def d37:dB:=⟨37,Tryz.f37,[.pb Y3],[.cons (.int .i64) fL],[],[(12,S12)],false,[]⟩
theorem o37:FO d37:=mo Tryz.func37 ⟨AJ,trivial⟩
def P37 (x0:List Int×Int×Int×Unit):Prop:=((Ee x0 2000)/\((cC .i64 (1+aV x0 2000))/\((cC .i64 (1000*(1+aV x0 2000)))/\((Ee (aG x0 2000) 60)/\((cC .i64 (100*aV (aG x0 2000) 60))/\((cC .i64 (500+100*aV (aG x0 2000) 60))/\((Ee (aG (aG x0 2000) 60) 200)/\((cC .i64 (6+aV (aG (aG x0 2000) 60) 200))/\((Ee (aG (aG (aG x0 2000) 60) 200) 900)/\((cC .i64 (1+aV (aG (aG (aG x0 2000) 60) 200) 900))/\((cC .i64 (1000*(1+aV (aG (aG (aG x0 2000) 60) 200) 900)))/\True)))))))))))
def aIq (x0:List Int×Int×Int×Unit):Int×Int×Int×Int×Unit:=(1000*(1+aV x0 2000),500+100*aV (aG x0 2000) 60,6+aV (aG (aG x0 2000) 60) 200,1000*(1+aV (aG (aG (aG x0 2000) 60) 200) 900),())
def aIr (x0:List Int×Int×Int×Unit):List Int×Int×Int×Unit:=aG (aG (aG (aG x0 2000) 60) 200) 900
def S37:=wD d37 (λ⟨x0,_⟩=>P37 x0) (λ⟨x0,_⟩=>[some ⟨.cons (.sl (.int .u8)) X2,[aIr x0]⟩]) λ⟨x0,_⟩=>[⟨.cons (.int .i64) fL,aIq x0⟩]
theorem aXE:c7 37 S37:=dF o37 λ⟨x0,_⟩ h _ K q=>c1 h λh=>c1 h λh=>c1 h λh=>c1 h λh=>c1 h λh=>c1 h λh=>c1 h λh=>c1 h λh=>c1 h λh=>c1 h λh=>c1 h λh=>rt
noncomputable def d38:dB:=⟨38,Tryz.f38,[.p X1],[.str],[],[(99,S99)],false,[]⟩
theorem o38:FO d38:=mo Tryz.func38 ⟨Pw,trivial⟩
def P38 (x0:Int×Int×Int×Int×Unit):Prop:=((P99 [x0.1,x0.2.1,x0.2.2.1,x0.2.2.2.1])/\True)
def aEN (x0:Int×Int×Int×Int×Unit):ByteArray:=xT [x0.1,x0.2.1,x0.2.2.1,x0.2.2.2.1]
def S38:=dR d38 (λ⟨x0,_⟩=>P38 x0) λ⟨x0,_⟩=>[⟨.str,aEN x0⟩]
theorem aXF:c7 38 S38:=dF o38 λ⟨x0,_⟩ h _ K q=>c1 h λh=>rt
noncomputable def d15:dB:=⟨15,Tryz.f15,[.pb Y3,.v (.sl (.int .i64))],[.int .i64],[],[(12,S12)],false,[]⟩
theorem o15:FO d15:=mo Tryz.func15 ⟨AJ,trivial⟩
def P15 (x0:List Int×Int×Int×Unit) (x1:List Int):Prop:=((Ee x0 (x1.length:Int))/\((0<=aV x0 (x1.length:Int))/\(aV x0 (x1.length:Int)<(x1.length:Int))/\True))
def j6 (x0:List Int×Int×Int×Unit) (x1:List Int):Int:=aD x1 (aE (aV x0 (x1.length:Int))) 0
def mO (x0:List Int×Int×Int×Unit) (x1:List Int):List Int×Int×Int×Unit:=aG x0 (x1.length:Int)
def S15:=wD d15 (λ⟨x0,x1,_⟩=>P15 x0 x1) (λ⟨x0,x1,_⟩=>[some ⟨.cons (.sl (.int .u8)) X2,[mO x0 x1]⟩]) λ⟨x0,x1,_⟩=>[⟨.int .i64,j6 x0 x1⟩]
theorem aEO:c7 15 S15:=dF o15 λ⟨x0,x1,_⟩ h _ K q=>c1 h λh=>c2 h λh=>rt
noncomputable def d39:dB:=⟨39,Tryz.f39,[.pb Y3],[.cons (.int .i64) JZ],[],[(12,S12),(15,S15)],false,[]⟩
theorem o39:FO d39:=mo Tryz.func39 ⟨AJ,aEO,trivial⟩
def P39 (x0:List Int×Int×Int×Unit):Prop:=((Ee x0 2)/\((Ee (aG x0 2) 80)/\((cC .i64 (aV x0 2*aV (aG x0 2) 80))/\((P15 (aG (aG x0 2) 80) [-150, -101, -100, -20,0,10,11,80,200])/\((P15 (mO (aG (aG x0 2) 80) [-150, -101, -100, -20,0,10,11,80,200]) [0,40,150,151,300])/\True)))))
def aIs (x0:List Int×Int×Int×Unit):Int×Int×Int×Unit:=(aV x0 2*aV (aG x0 2) 80,j6 (aG (aG x0 2) 80) [-150, -101, -100, -20,0,10,11,80,200],j6 (mO (aG (aG x0 2) 80) [-150, -101, -100, -20,0,10,11,80,200]) [0,40,150,151,300],())
def aEP (x0:List Int×Int×Int×Unit):List Int×Int×Int×Unit:=mO (mO (aG (aG x0 2) 80) [-150, -101, -100, -20,0,10,11,80,200]) [0,40,150,151,300]
def S39:=wD d39 (λ⟨x0,_⟩=>P39 x0) (λ⟨x0,_⟩=>[some ⟨.cons (.sl (.int .u8)) X2,[aEP x0]⟩]) λ⟨x0,_⟩=>[⟨.cons (.int .i64) JZ,aIs x0⟩]
theorem aXH:c7 39 S39:=dF o39 λ⟨x0,_⟩ h _ K q=>c1 h λh=>c1 h λh=>c1 h λh=>c1 h λh=>c1 h λh=>rt
noncomputable def d40:dB:=⟨40,Tryz.f40,[.p fL],[.str],[],[(99,S99)],false,[]⟩
theorem o40:FO d40:=mo Tryz.func40 ⟨Pw,trivial⟩
def P40 (x0:Int×Int×Int×Unit):Prop:=((P99 [x0.1,x0.2.1,x0.2.2.1])/\True)
def Tt (x0:Int×Int×Int×Unit):ByteArray:=xT [x0.1,x0.2.1,x0.2.2.1]
def S40:=dR d40 (λ⟨x0,_⟩=>P40 x0) λ⟨x0,_⟩=>[⟨.str,Tt x0⟩]
theorem aXI:c7 40 S40:=dF o40 λ⟨x0,_⟩ h _ K q=>c1 h λh=>rt
noncomputable def d41:dB:=⟨41,Tryz.f41,[.pb Y3],[.cons (.int .i64) JZ],[],[(12,S12)],false,[]⟩
theorem o41:FO d41:=mo Tryz.func41 ⟨AJ,trivial⟩
def P41 (x0:List Int×Int×Int×Unit):Prop:=((Ee x0 300)/\((cC .i64 (1+aV x0 300))/\((cC .i64 (1000*(1+aV x0 300)))/\((Ee (aG x0 300) 100)/\((cC .i64 (500*aV (aG x0 300) 100))/\((cC .i64 (1000+500*aV (aG x0 300) 100))/\((Ee (aG (aG x0 300) 100) 20)/\((cC .i64 (20*aV (aG (aG x0 300) 100) 20))/\True))))))))
def aIt (x0:List Int×Int×Int×Unit):Int×Int×Int×Unit:=(1000*(1+aV x0 300),1000+500*aV (aG x0 300) 100,20*aV (aG (aG x0 300) 100) 20,())
def aIu (x0:List Int×Int×Int×Unit):List Int×Int×Int×Unit:=aG (aG (aG x0 300) 100) 20
def S41:=wD d41 (λ⟨x0,_⟩=>P41 x0) (λ⟨x0,_⟩=>[some ⟨.cons (.sl (.int .u8)) X2,[aIu x0]⟩]) λ⟨x0,_⟩=>[⟨.cons (.int .i64) JZ,aIt x0⟩]
theorem aXJ:c7 41 S41:=dF o41 λ⟨x0,_⟩ h _ K q=>c1 h λh=>c1 h λh=>c1 h λh=>c1 h λh=>c1 h λh=>c1 h λh=>c1 h λh=>c1 h λh=>rt
noncomputable def d42:dB:=⟨42,Tryz.f42,[.p fL],[.str],[],[(99,S99)],false,[]⟩
theorem o42:FO d42:=mo Tryz.func42 ⟨Pw,trivial⟩
def P42 (x0:Int×Int×Int×Unit):Prop:=((P99 [x0.1,x0.2.1,x0.2.2.1])/\True)
def aEQ (x0:Int×Int×Int×Unit):ByteArray:=xT [x0.1,x0.2.1,x0.2.2.1]
def S42:=dR d42 (λ⟨x0,_⟩=>P42 x0) λ⟨x0,_⟩=>[⟨.str,aEQ x0⟩]
theorem aXK:c7 42 S42:=dF o42 λ⟨x0,_⟩ h _ K q=>c1 h λh=>rt
noncomputable def aXL:dB:=⟨100,Tryz.f100,[.v (.int .i64),.v (.int .i64)],[.int .i64],[],[],false,[]⟩
theorem bGv:FO aXL:=mo Tryz.func100 trivial
def bGw (x0:Int) (x1:Int):Prop:=True
def AK (x0:Int) (x1:Int):Int:=(if (decide (x0<x1))=true then x0 else x1)
def aQN:=dR aXL (λ⟨x0,x1,_⟩=>bGw x0 x1) λ⟨x0,x1,_⟩=>[⟨.int .i64,AK x0 x1⟩]
theorem aIv:c7 100 aQN:=dF bGv λ⟨x0,x1,_⟩ h _ K q=>e1 (rt) (rt)
noncomputable def d43:dB:=⟨43,Tryz.f43,[.pb Y3,.v (.str)],[.cons .str JZ],[],[(12,S12),(100,aQN)],false,[]⟩
theorem o43:FO d43:=mo Tryz.func43 ⟨AJ,aIv,trivial⟩
def P43 (x0:List Int×Int×Int×Unit) (x1:ByteArray):Prop:=((Ee x0 40)/\((cC .i64 (30*aV x0 40))/\((Ee (aG x0 40) 16)/\((cC .i64 (1+aV (aG x0 40) 16))/\((cC .i64 (30*(1+aV (aG x0 40) 16)))/\((cC .i64 (30*aV x0 40+30*(1+aV (aG x0 40) 16)))/\True))))))
def FR (x0:List Int×Int×Int×Unit) (x1:ByteArray):ByteArray×Int×Int×Unit:=(x1,30*aV x0 40,AK 1440 (30*aV x0 40+30*(1+aV (aG x0 40) 16)),())
def aIw (x0:List Int×Int×Int×Unit) (x1:ByteArray):List Int×Int×Int×Unit:=aG (aG x0 40) 16
def S43:=wD d43 (λ⟨x0,x1,_⟩=>P43 x0 x1) (λ⟨x0,x1,_⟩=>[some ⟨.cons (.sl (.int .u8)) X2,[aIw x0 x1]⟩]) λ⟨x0,x1,_⟩=>[⟨.cons .str JZ,FR x0 x1⟩]
theorem aXM:c7 43 S43:=dF o43 λ⟨x0,x1,_⟩ h _ K q=>c1 h λh=>c1 h λh=>c1 h λh=>c1 h λh=>c1 h λh=>c1 h λh=>tv<|rt
noncomputable def aXN:dB:=⟨163,Tryz.f163,[.v (.int .i64),.v (.int .i64),.v (.int .i64)],[.bool],[],[],false,[]⟩
theorem bGy:FO aXN:=mo Tryz.func163 trivial
def bGz (x0:Int) (x1:Int) (x2:Int):Prop:=True
def fM (x0:Int) (x1:Int) (x2:Int):Bool:=(if (decide (x0>=x1))=true then decide (x0<=x2) else false)
def Ef:=dR aXN (λ⟨x0,x1,x2,_⟩=>bGz x0 x1 x2) λ⟨x0,x1,x2,_⟩=>[⟨.bool,fM x0 x1 x2⟩]
theorem qI:c7 163 Ef:=dF bGy λ⟨x0,x1,x2,_⟩ h _ K q=>e1 (rt) (rt)
noncomputable def aXO:dB:=⟨173,Tryz.f173,[.v (.int .i64)],[.str],[],[(104,aGp)],false,[]⟩
theorem bG0:FO aXO:=mo Tryz.func173 ⟨Pu,trivial⟩
def VU (x0:Int):Prop:=(if (decide (x0<10))=true then ((1+aH (jN x0)<=9223372036854775807)/\True) else True)
def nM (x0:Int):ByteArray:=(if (decide (x0<10))=true then aA #[48]++jN x0 else jN x0)
def aQO:=dR aXO (λ⟨x0,_⟩=>VU x0) λ⟨x0,_⟩=>[⟨.str,nM x0⟩]
theorem aIx:c7 173 aQO:=dF bG0 λ⟨x0,_⟩ h _ K q=>N1 h (λh=>tv<|c1 h λh=>rt) λh=>tv<|rt
noncomputable def aXP:dB:=⟨257,Tryz.f257,[.v (.int .i64)],[.str],[],[(173,aQO)],false,[]⟩
theorem bG1:FO aXP:=mo Tryz.func257 ⟨aIx,trivial⟩
def aQP (x0:Int):Prop:=((cC .i64 (bM x0 60))/\((VU (bM x0 60))/\((aH (nM (bM x0 60))+1<=9223372036854775807)/\((cC .i64 (c8 x0 60))/\((VU (c8 x0 60))/\((aH (nM (bM x0 60)++aA #[58])+aH (nM (c8 x0 60))<=9223372036854775807)/\True))))))
def aBC (x0:Int):ByteArray:=nM (bM x0 60)++aA #[58]++nM (c8 x0 60)
def aXQ:=dR aXP (λ⟨x0,_⟩=>aQP x0) λ⟨x0,_⟩=>[⟨.str,aBC x0⟩]
theorem aQQ:c7 257 aXQ:=dF bG1 λ⟨x0,_⟩ h _ K q=>tP ((by decide):(60:Int)≠(0:Int))<|c1 h λh=>c1 h λh=>c1 h λh=>tP ((by decide):(60:Int)≠(0:Int))<|c1 h λh=>c1 h λh=>c1 h λh=>rt
noncomputable def aXR:dB:=⟨171,Tryz.f171,[.v (.int .i64)],[.str],[],[(163,Ef),(257,aXQ)],false,[]⟩
theorem bG2:FO aXR:=mo Tryz.func171 ⟨qI,aQQ,trivial⟩
def aQR (x0:Int):Prop:=(if (!fM x0 0 1439)=true then True else ((aQP x0)/\True))
def aBD (x0:Int):ByteArray:=(if (!fM x0 0 1439)=true then aA #[] else aBC x0)
def aXS:=dR aXR (λ⟨x0,_⟩=>aQR x0) λ⟨x0,_⟩=>[⟨.str,aBD x0⟩]
theorem aQS:c7 171 aXS:=dF bG2 λ⟨x0,_⟩ h _ K q=>tv<|N1 h (λh=>rt) λh=>c1 h λh=>rt
noncomputable def aXT:dB:=⟨101,Tryz.f101,[.v (.int .i64)],[.str],[],[(171,aXS)],false,[]⟩
theorem bG3:FO aXT:=mo Tryz.func101 ⟨aQS,trivial⟩
def aIy (x0:Int):Prop:=(if (x0==1440)=true then True else ((aQR x0)/\True))
def yC (x0:Int):ByteArray:=(if (x0==1440)=true then aA #[50,52,58,48,48] else aBD x0)
def aXU:=dR aXT (λ⟨x0,_⟩=>aIy x0) λ⟨x0,_⟩=>[⟨.str,yC x0⟩]
theorem aQT:c7 101 aXU:=dF bG3 λ⟨x0,_⟩ h _ K q=>N1 h (λh=>rt) λh=>c1 h λh=>rt
noncomputable def d44:dB:=⟨44,Tryz.f44,[.p fP],[.str],[],[(101,aXU)],false,[]⟩
theorem o44:FO d44:=mo Tryz.func44 ⟨aQT,trivial⟩
def P44 (x0:ByteArray×Int×Int×Unit):Prop:=((aH x0.1+1<=9223372036854775807)/\((aIy x0.2.1)/\((aH (x0.1++aA #[32])+aH (yC x0.2.1)<=9223372036854775807)/\((aH (x0.1++aA #[32]++yC x0.2.1)+1<=9223372036854775807)/\((aIy x0.2.2.1)/\((aH (x0.1++aA #[32]++yC x0.2.1++aA #[32])+aH (yC x0.2.2.1)<=9223372036854775807)/\True))))))
def Y4 (x0:ByteArray×Int×Int×Unit):ByteArray:=x0.1++aA #[32]++yC x0.2.1++aA #[32]++yC x0.2.2.1
def S44:=dR d44 (λ⟨x0,_⟩=>P44 x0) λ⟨x0,_⟩=>[⟨.str,Y4 x0⟩]
theorem aXV:c7 44 S44:=dF o44 λ⟨x0,_⟩ h _ K q=>c1 h λh=>c1 h λh=>c1 h λh=>c1 h λh=>c1 h λh=>c1 h λh=>rt
noncomputable def d45:dB:=⟨45,Tryz.f45,[.pb Y3],[.cons (.int .i64) fL],[],[(12,S12)],false,[]⟩
theorem o45:FO d45:=mo Tryz.func45 ⟨AJ,trivial⟩
def P45 (x0:List Int×Int×Int×Unit):Prop:=((Ee x0 12)/\((cC .i64 (500*aV x0 12))/\((cC .i64 (1000+500*aV x0 12))/\((Ee (aG x0 12) 20)/\((cC .i64 (5*aV (aG x0 12) 20))/\((cC .i64 (5+5*aV (aG x0 12) 20))/\((Ee (aG (aG x0 12) 20) 90)/\((cC .i64 (1000*aV (aG (aG x0 12) 20) 90))/\((Ee (aG (aG (aG x0 12) 20) 90) 20)/\((cC .i64 (20*aV (aG (aG (aG x0 12) 20) 90) 20))/\True))))))))))
def aIz (x0:List Int×Int×Int×Unit):Int×Int×Int×Int×Unit:=(1000+500*aV x0 12,5+5*aV (aG x0 12) 20,1000*aV (aG (aG x0 12) 20) 90,20*aV (aG (aG (aG x0 12) 20) 90) 20,())
def aI0 (x0:List Int×Int×Int×Unit):List Int×Int×Int×Unit:=aG (aG (aG (aG x0 12) 20) 90) 20
def S45:=wD d45 (λ⟨x0,_⟩=>P45 x0) (λ⟨x0,_⟩=>[some ⟨.cons (.sl (.int .u8)) X2,[aI0 x0]⟩]) λ⟨x0,_⟩=>[⟨.cons (.int .i64) fL,aIz x0⟩]
theorem aXW:c7 45 S45:=dF o45 λ⟨x0,_⟩ h _ K q=>c1 h λh=>c1 h λh=>c1 h λh=>c1 h λh=>c1 h λh=>c1 h λh=>c1 h λh=>c1 h λh=>c1 h λh=>c1 h λh=>rt
noncomputable def d46:dB:=⟨46,Tryz.f46,[.p X1],[.str],[],[(99,S99)],false,[]⟩
theorem o46:FO d46:=mo Tryz.func46 ⟨Pw,trivial⟩
def P46 (x0:Int×Int×Int×Int×Unit):Prop:=((P99 [x0.1,x0.2.1,x0.2.2.1,x0.2.2.2.1])/\True)
def aER (x0:Int×Int×Int×Int×Unit):ByteArray:=xT [x0.1,x0.2.1,x0.2.2.1,x0.2.2.2.1]
def S46:=dR d46 (λ⟨x0,_⟩=>P46 x0) λ⟨x0,_⟩=>[⟨.str,aER x0⟩]
theorem aXX:c7 46 S46:=dF o46 λ⟨x0,_⟩ h _ K q=>c1 h λh=>rt
noncomputable def d47:dB:=⟨47,Tryz.f47,[.pb Y3,.v (.str)],[.cons .str fL],[],[(12,S12),(15,S15)],false,[]⟩
theorem o47:FO d47:=mo Tryz.func47 ⟨AJ,aEO,trivial⟩
def P47 (x0:List Int×Int×Int×Unit) (x1:ByteArray):Prop:=((Ee x0 60)/\((cC .i64 (50*aV x0 60))/\((cC .i64 (100+50*aV x0 60))/\((P15 (aG x0 60) [1,1,2,5,10,40])/\((P15 (mO (aG x0 60) [1,1,2,5,10,40]) [1,3,7,30,400])/\True)))))
def aI1 (x0:List Int×Int×Int×Unit) (x1:ByteArray):ByteArray×Int×Int×Int×Unit:=(x1,100+50*aV x0 60,j6 (aG x0 60) [1,1,2,5,10,40],j6 (mO (aG x0 60) [1,1,2,5,10,40]) [1,3,7,30,400],())
def aI2 (x0:List Int×Int×Int×Unit) (x1:ByteArray):List Int×Int×Int×Unit:=mO (mO (aG x0 60) [1,1,2,5,10,40]) [1,3,7,30,400]
def S47:=wD d47 (λ⟨x0,x1,_⟩=>P47 x0 x1) (λ⟨x0,x1,_⟩=>[some ⟨.cons (.sl (.int .u8)) X2,[aI2 x0 x1]⟩]) λ⟨x0,x1,_⟩=>[⟨.cons .str fL,aI1 x0 x1⟩]
theorem aXY:c7 47 S47:=dF o47 λ⟨x0,x1,_⟩ h _ K q=>c1 h λh=>c1 h λh=>c1 h λh=>c1 h λh=>c1 h λh=>rt
noncomputable def d48:dB:=⟨48,Tryz.f48,[.p gT],[.str],[],[(99,S99)],false,[]⟩
theorem o48:FO d48:=mo Tryz.func48 ⟨Pw,trivial⟩
def P48 (x0:ByteArray×Int×Int×Int×Unit):Prop:=((aH x0.1+1<=9223372036854775807)/\((P99 [x0.2.1,x0.2.2.1,x0.2.2.2.1])/\((aH (x0.1++aA #[32])+aH (xT [x0.2.1,x0.2.2.1,x0.2.2.2.1])<=9223372036854775807)/\True)))
def aES (x0:ByteArray×Int×Int×Int×Unit):ByteArray:=x0.1++aA #[32]++xT [x0.2.1,x0.2.2.1,x0.2.2.2.1]
def S48:=dR d48 (λ⟨x0,_⟩=>P48 x0) λ⟨x0,_⟩=>[⟨.str,aES x0⟩]
theorem aXZ:c7 48 S48:=dF o48 λ⟨x0,_⟩ h _ K q=>c1 h λh=>c1 h λh=>c1 h λh=>rt
noncomputable def d49:dB:=⟨49,Tryz.f49,[.pb Y3,.v (.int .i64),.v (.int .i64),.v (.int .i64)],[.cons (.int .i64) JZ],[],[(12,S12),(100,aQN)],false,[]⟩
theorem o49:FO d49:=mo Tryz.func49 ⟨AJ,aIv,trivial⟩
def P49 (x0:List Int×Int×Int×Unit) (x1:Int) (x2:Int) (x3:Int):Prop:=((Ee x0 12)/\((cC .i64 (30*aV x0 12))/\((cC .i64 (x1+30*aV x0 12))/\((Ee (aG x0 12) 9)/\((cC .i64 (x2+aV (aG x0 12) 9))/\((Ee (aG (aG x0 12) 9) 20)/\((cC .i64 (x3+aV (aG (aG x0 12) 9) 20))/\True)))))))
def BU (x0:List Int×Int×Int×Unit) (x1:Int) (x2:Int) (x3:Int):Int×Int×Int×Unit:=(x1+30*aV x0 12,x2+aV (aG x0 12) 9,AK 1000 (x3+aV (aG (aG x0 12) 9) 20),())
def aI3 (x0:List Int×Int×Int×Unit) (x1:Int) (x2:Int) (x3:Int):List Int×Int×Int×Unit:=aG (aG (aG x0 12) 9) 20
def S49:=wD d49 (λ⟨x0,x1,x2,x3,_⟩=>P49 x0 x1 x2 x3) (λ⟨x0,x1,x2,x3,_⟩=>[some ⟨.cons (.sl (.int .u8)) X2,[aI3 x0 x1 x2 x3]⟩]) λ⟨x0,x1,x2,x3,_⟩=>[⟨.cons (.int .i64) JZ,BU x0 x1 x2 x3⟩]
theorem aYa:c7 49 S49:=dF o49 λ⟨x0,x1,x2,x3,_⟩ h _ K q=>c1 h λh=>c1 h λh=>c1 h λh=>c1 h λh=>c1 h λh=>c1 h λh=>c1 h λh=>tv<|rt
noncomputable def aYb:dB:=⟨258,Tryz.f258,[.v (.int .i64),.v (.int .i64)],[.int .i64],[],[],false,[]⟩
theorem bG9:FO aYb:=mo Tryz.func258 trivial
def aI4 (x0:Int) (x1:Int):Prop:=(if (x1==2)=true then ((cC .i64 (c8 x0 4))/\(if (c8 x0 4==0)=true then True else ((cC .i64 (x1 - 1))/\((0<=x1 - 1)/\(x1 - 1<12)/\True)))) else ((cC .i64 (x1 - 1))/\((0<=x1 - 1)/\(x1 - 1<12)/\True)))
def yD (x0:Int) (x1:Int):Int:=(if (x1==2)=true then (if (c8 x0 4==0)=true then 29 else aD [31,28,31,30,31,30,31,31,30,31,30,31] (aE (x1 - 1)) 0) else aD [31,28,31,30,31,30,31,31,30,31,30,31] (aE (x1 - 1)) 0)
def aYc:=dR aYb (λ⟨x0,x1,_⟩=>aI4 x0 x1) λ⟨x0,x1,_⟩=>[⟨.int .i64,yD x0 x1⟩]
theorem aQU:c7 258 aYc:=dF bG9 λ⟨x0,x1,_⟩ h _ K q=>N1 h (λh=>tP ((by decide):(4:Int)≠(0:Int))<|c1 h λh=>N1 h (λh=>rt) λh=>c1 h λh=>c2 h λh=>rt) λh=>tF<|c1 h λh=>c2 h λh=>rt
noncomputable def aNi:dB:=⟨172,Tryz.f172,[.v (.int .i64)],[.int .i64,.int .i64,.int .i64],[],[(258,aYc)],false,[]⟩
theorem bGA:FO aNi:=mo Tryz.func172 ⟨aQU,trivial⟩
def aQV (v5:Int) (v6:Int) (x0:Int):eD×bG:=([eI 0 x0,eI 5 v5,eI 6 v6],[])
mutual
def aQW:Nat->Int->List aY->Prop
 | 0,_,_=>False
 | n+1,x0,ds=>(MQ n (2000) (1) (x0) ds)
def MQ:Nat->Int->Int->Int->List aY->Prop
 | 0,_,_,_,_=>False
 | n+1,v5,v6,x0,ds=>((aI4 v5 v6)/\(if (decide (x0>=yD v5 v6))=true then ((aI4 v5 v6)/\((cC .i64 (x0 - yD v5 v6))/\((cC .i64 (v6+1))/\(if (decide (v6+1>12))=true then ((cC .i64 (v5+1))/\(MQ n (v5+1) (1) (x0 - yD v5 v6) ds)) else (MQ n (v5) (v6+1) (x0 - yD v5 v6) ds))))) else ((cC .i64 (x0+1))/\(ds=[aP (.int .i64) v5,aP (.int .i64) v6,aP (.int .i64) (x0+1)]))))
end
theorem aQX (ds:List aY) (K:jK) (q:Nat->Value):∀ n,(∀ {x0},aQW n x0 ds->St aNi (x0,()) ds [] K q)/\(∀ {v5 v6 x0},MQ n v5 v6 x0 ds->Cu aNi 3 (aQV v5 v6 x0) ds [] K q):=by
 intro n
 induction n with
 | zero=>exact ⟨λh=>h.elim,λh=>h.elim⟩
 | succ n ih =>
 obtain ⟨i,i3⟩:=ih;exact ⟨λh=>jp (i3 h),
  λh=>c1 h λh=>bR h (λh=>c1 h λh=>c1 h λh=>c1 h λh=>bR h (λh=>c1 h λh=>jp (i3 h)) λh=>jp (i3 h)) λh=>c1 h λh=>rh h⟩
def uF:Nat->Int->Int->Int->Int×Int×Int
 | 0,d,y,m=>(y,m,d+1)
 | k+1,d,y,m=>if yD y m<=d then (if m=12 then uF k (d - yD y m) (y+1) 1 else uF k (d - yD y m) y (m+1)) else (y,m,d+1)
def aQY (x0:Int):Prop:=0<=x0/\x0<=36524
def yE (x0:Int):Int:=(uF 1305 x0 2000 1).1
def yF (x0:Int):Int:=(uF 1305 x0 2000 1).2.1
def IW (x0:Int):Int:=(uF 1305 x0 2000 1).2.2
theorem aPI {y m:Int} (hy:2000<=y/\y<=4000) (h:1<=m/\m<=12):aI4 y m/\28<=yD y m/\yD y m<=31:=by
 have e:c8 y 4=y % 4:=iC (by omega);have hm:m=1\/m=2\/m=3\/m=4\/m=5\/m=6\/m=7\/m=8\/m=9\/m=10\/m=11\/m=12:=by omega
 unfold aI4 yD;rw [e];have hi:cC .i64 (y % 4):=by rw [aK];omega
 by_cases hz:(y % 4==0)=true
 ·rcases hm with rfl | rfl | rfl | rfl | rfl | rfl | rfl | rfl | rfl | rfl | rfl | rfl <;> simp [hz,hi] <;> decide
 ·rcases hm with rfl | rfl | rfl | rfl | rfl | rfl | rfl | rfl | rfl | rfl | rfl | rfl <;> simp [hz,hi] <;> decide
theorem aQZ:∀ (k:Nat) (d y m:Int),0<=d->d<28*(k:Int)->2000<=y->y+(k:Int)<=3305->1<=m/\m<=12 ->
  MQ (k+1) y m d [⟨.int .i64,(uF k d y m).1⟩,⟨.int .i64,(uF k d y m).2.1⟩,⟨.int .i64,(uF k d y m).2.2⟩]:=by
 intro k
 induction k with
 | zero=>intro d y m h0 h1;omega
 | succ k ih =>
  intro d y m h0 h1 h2 h3 h4;obtain ⟨p,l1,l2⟩:=aPI (y:=y) (m:=m) (by omega) h4;rw [MQ];refine ⟨p,?_⟩;unfold uF;by_cases hc:yD y m<=d
  ·rw [if_pos (by simpa using hc),if_pos hc];refine ⟨p,by rw [aK];omega,by rw [aK];omega,?_⟩;by_cases hm:m=12
   ·subst hm;rw [if_pos rfl,if_pos (by decide)];exact ⟨by rw [aK];omega,ih _ _ 1 (by omega) (by omega) (by omega) (by omega) (by omega)⟩
   ·rw [if_neg hm,if_neg (by simp only [decide_eq_true_eq];omega)];exact ih _ _ _ (by omega) (by omega) (by omega) (by omega) (by omega)
  ·rw [if_neg (by simpa using hc),if_neg hc];exact ⟨by rw [aK];omega,rfl⟩
theorem aRa (x0:Int) (h:aQY x0):aQW (1305+1+1) x0 [⟨.int .i64,yE x0⟩,⟨.int .i64,yF x0⟩,⟨.int .i64,IW x0⟩]:=by
 rw [aQW];exact aQZ 1305 x0 2000 1 h.1 (by have:=h.2;omega) (by omega) (by omega) (by omega)
def aYd:=dR aNi (λ⟨x0,_⟩=>aQY x0) λ⟨x0,_⟩=>[⟨.int .i64,yE x0⟩,⟨.int .i64,yF x0⟩,⟨.int .i64,IW x0⟩]
theorem aRb:c7 172 aYd:=dF bGA (λ⟨x0,_⟩ h hwf K q =>
 (aQX _ K q _).1 (aRa x0 h))
noncomputable def aYe:dB:=⟨102,Tryz.f102,[.v (.int .i64)],[.str],[],[(172,aYd),(104,aGp),(173,aQO)],false,[]⟩
theorem bGB:FO aYe:=mo Tryz.func102 ⟨aRb,Pu,aIx,trivial⟩
def aNj (x0:Int):Prop:=((aQY x0)/\((aH (jN (yE x0))+1<=9223372036854775807)/\((VU (yF x0))/\((aH (jN (yE x0)++aA #[45])+aH (nM (yF x0))<=9223372036854775807)/\((aH (jN (yE x0)++aA #[45]++nM (yF x0))+1<=9223372036854775807)/\((VU (IW x0))/\((aH (jN (yE x0)++aA #[45]++nM (yF x0)++aA #[45])+aH (nM (IW x0))<=9223372036854775807)/\True)))))))
def IX (x0:Int):ByteArray:=jN (yE x0)++aA #[45]++nM (yF x0)++aA #[45]++nM (IW x0)
def aYf:=dR aYe (λ⟨x0,_⟩=>aNj x0) λ⟨x0,_⟩=>[⟨.str,IX x0⟩]
theorem aRc:c7 102 aYf:=dF bGB λ⟨x0,_⟩ h _ K q=>c1 h λh=>tv<|c1 h λh=>c1 h λh=>c1 h λh=>c1 h λh=>c1 h λh=>c1 h λh=>rt
noncomputable def d50:dB:=⟨50,Tryz.f50,[.p fL],[.str],[],[(102,aYf),(99,S99)],false,[]⟩
theorem o50:FO d50:=mo Tryz.func50 ⟨aRc,Pw,trivial⟩
def P50 (x0:Int×Int×Int×Unit):Prop:=((aNj x0.1)/\((aH (IX x0.1)+1<=9223372036854775807)/\((P99 [x0.2.1,x0.2.2.1])/\((aH (IX x0.1++aA #[32])+aH (xT [x0.2.1,x0.2.2.1])<=9223372036854775807)/\True))))
def Y5 (x0:Int×Int×Int×Unit):ByteArray:=IX x0.1++aA #[32]++xT [x0.2.1,x0.2.2.1]
def S50:=dR d50 (λ⟨x0,_⟩=>P50 x0) λ⟨x0,_⟩=>[⟨.str,Y5 x0⟩]
theorem aYg:c7 50 S50:=dF o50 λ⟨x0,_⟩ h _ K q=>c1 h λh=>c1 h λh=>c1 h λh=>c1 h λh=>rt
noncomputable def d51:dB:=⟨51,Tryz.f51,[.pb Y3,.v (.str)],[.cons .str JZ],[],[(12,S12)],false,[]⟩
theorem o51:FO d51:=mo Tryz.func51 ⟨AJ,trivial⟩
def P51 (x0:List Int×Int×Int×Unit) (x1:ByteArray):Prop:=((Ee x0 8)/\((Ee (aG x0 8) 12)/\((cC .i64 (5*aV (aG x0 8) 12))/\True)))
def Tu (x0:List Int×Int×Int×Unit) (x1:ByteArray):ByteArray×Int×Int×Unit:=(x1,aV x0 8,5*aV (aG x0 8) 12,())
def aI5 (x0:List Int×Int×Int×Unit) (x1:ByteArray):List Int×Int×Int×Unit:=aG (aG x0 8) 12
def S51:=wD d51 (λ⟨x0,x1,_⟩=>P51 x0 x1) (λ⟨x0,x1,_⟩=>[some ⟨.cons (.sl (.int .u8)) X2,[aI5 x0 x1]⟩]) λ⟨x0,x1,_⟩=>[⟨.cons .str JZ,Tu x0 x1⟩]
theorem aYh:c7 51 S51:=dF o51 λ⟨x0,x1,_⟩ h _ K q=>c1 h λh=>c1 h λh=>c1 h λh=>rt
noncomputable def aNk:dB:=⟨103,Tryz.f103,[.v (.int .i64)],[.str],[],[],false,[]⟩
theorem bGD:FO aNk:=mo Tryz.func103 trivial
def aRd (v3:ByteArray) (v5:Int) (x0:Int):eD×bG:=([eI 0 x0,eS 3 v3,eW 4 0,eI 5 v5],[jB .str [aA #[114,111,112,101],aA #[102,105,114,115,116],aA #[114,97,100,105,111]]])
mutual
def aYi:Nat->Int->List aY->Prop
 | 0,_,_=>False
 | n+1,x0,ds=>(FT n (aA #[]) (0) (x0) ds)
def FT:Nat->ByteArray->Int->Int->List aY->Prop
 | 0,_,_,_,_=>False
 | n+1,v3,v5,x0,ds=>(if (decide (v5<3))=true then ((cC .u64 v5)/\((0<=v5)/\(cC .i64 (cQ x0 (2 ^ sX (aE v5) 64)))/\(if (bD cN (↑(j3 (dX 64 (cQ x0 (2 ^ sX (aE v5) 64)) &&& dX 64 1)):Int)==1)=true then (if (!aB v3==aB (aA #[]))=true then ((aH v3+1<=9223372036854775807)/\((0<=v5)/\(v5<3)/\((aH (v3++aA #[43])+aH (aD [aA #[114,111,112,101],aA #[102,105,114,115,116],aA #[114,97,100,105,111]] (aE v5) aC)<=9223372036854775807)/\((cC .i64 (v5+1))/\(FT n (v3++aA #[43]++aD [aA #[114,111,112,101],aA #[102,105,114,115,116],aA #[114,97,100,105,111]] (aE v5) aC) (v5+1) (x0) ds))))) else ((0<=v5)/\(v5<3)/\((aH v3+aH (aD [aA #[114,111,112,101],aA #[102,105,114,115,116],aA #[114,97,100,105,111]] (aE v5) aC)<=9223372036854775807)/\((cC .i64 (v5+1))/\(FT n (v3++aD [aA #[114,111,112,101],aA #[102,105,114,115,116],aA #[114,97,100,105,111]] (aE v5) aC) (v5+1) (x0) ds))))) else ((cC .i64 (v5+1))/\(FT n (v3) (v5+1) (x0) ds))))) else (if (aB v3==aB (aA #[]))=true then (ds=[aP .str (aA #[110,111,110,101])]) else (ds=[aP .str v3])))
end
theorem aRe (ds:List aY) (K:jK) (q:Nat->Value):∀ n,(∀ {x0},aYi n x0 ds->St aNk (x0,()) ds [] K q)/\(∀ {v3 v5 x0},FT n v3 v5 x0 ds->Cu aNk 4 (aRd v3 v5 x0) ds [] K q):=by
 intro n
 induction n with
 | zero=>exact ⟨λh=>h.elim,λh=>h.elim⟩
 | succ n ih =>
 obtain ⟨i,i4⟩:=ih;exact ⟨λh=>jp (i4 h),
  λh=>bR h (λh=>c1 h λh=>c2 h λh=>bR h (λh=>bR h (λh=>c1 h λh=>c2 h λh=>c1 h λh=>c1 h λh=>jp (i4 h)) λh=>c2 h λh=>c1 h λh=>c1 h λh=>jp (i4 h)) λh=>c1 h λh=>jp (i4 h)) λh=>bR h (λh=>rh h) λh=>rh h⟩
abbrev aET:List ByteArray:=[aA #[114,111,112,101],aA #[102,105,114,115,116],aA #[114,97,100,105,111]]
def VV (x0:Int) (i:Nat):Bool:=bD cN (↑(j3 (dX 64 (cQ x0 (2 ^ sX i 64)) &&& dX 64 1)):Int)==1
def Px (s w:ByteArray):ByteArray:=if (!aB s==aB (aA #[]))=true then s++aA #[43]++w else s++w
def Br (x0:Int):Nat->Nat->ByteArray->ByteArray
 | 0,_,s=>s
 | k+1,i,s=>Br x0 k (i+1) (if VV x0 i=true then Px s (aET.getD i aC) else s)
def pQ (x0:Int):ByteArray:=if (aB (Br x0 3 0 (aA #[]))==aB (aA #[]))=true then aA #[110,111,110,101] else Br x0 3 0 (aA #[])
def bGE (x0:Int):Prop:=True
theorem aRf {x0:Int} (h:cC .i64 x0) (i:Nat):cC .i64 (cQ x0 (2 ^ sX i 64)):=by
 have hp:(0:Int)<2 ^ sX i 64:=Int.pow_pos (by decide);rw [aK] at h;rw [fG _ (by omega),aK];refine ⟨(Int.le_ediv_iff_mul_le hp).2 ?_,?_⟩
 ·have:(-9223372036854775808:Int)*2 ^ sX i 64 <= -9223372036854775808*1:=Int.mul_le_mul_of_nonpos_left (by omega) (by omega);omega
 ·rcases Wc x0 0 with c | c
  ·have:=Int.ediv_neg_of_neg_of_pos c hp;omega
  ·have:=Int.ediv_le_self (2 ^ sX i 64) c;omega
theorem aI6 (i:Nat):(aET.getD i aC).size<=5:=by
 rcases i with _ | _ | _ | i
 ·decide
 ·decide
 ·decide
 ·show aC.size<=5;decide
theorem aRg (x0:Int) (h:cC .i64 x0):∀ (k i:Nat) (s:ByteArray),i+k=3->s.size<=6*i->FT (k+1) s (i:Int) x0 [⟨.str,if (aB (Br x0 k i s)==aB (aA #[]))=true then aA #[110,111,110,101] else Br x0 k i s⟩]:=by
 intro k
 induction k with
 | zero =>
  intro i s hi hs;rw [FT,if_neg (by simp only [decide_eq_true_eq];omega),Br];by_cases c:(aB s==aB (aA #[]))=true
  ·rw [if_pos c,if_pos c]
  ·rw [if_neg c,if_neg c]
 | succ k ih =>
  intro i s hi hs;have e3:(i:Int)+1=((i+1:Nat):Int):=by omega
  have hw:(aD [aA #[114,111,112,101],aA #[102,105,114,115,116],aA #[114,97,100,105,111]] i aC).size<=5:=aI6 i;have e1:(s++aA #[43]).size=s.size+1:=by rw [aS];rfl
  have u64:cC .u64 (i:Int):=by
   have e1:(cL).min=0:=by decide
   have e2:(cL).max=18446744073709551615:=by decide
   simp only [cC,e1,e2];omega
  rw [Br,FT,if_pos (by simp only [decide_eq_true_eq];omega),e3,aF];refine ⟨u64,by omega,aRf h i,?_⟩;unfold Px;by_cases c:VV x0 i=true
  ·refine (if_pos c).mpr ?_;rw [if_pos c];by_cases d:(!aB s==aB (aA #[]))=true
   ·refine (if_pos d).mpr ?_;rw [if_pos d];exact ⟨by omega,by omega,by omega,by omega,by rw [aK];omega,ih (i+1) _ (by omega) (by rw [aS,e1];omega)⟩
   ·refine (if_neg d).mpr ?_;rw [if_neg d];exact ⟨by omega,by omega,by omega,by rw [aK];omega,ih (i+1) _ (by omega) (by rw [aS];omega)⟩
  ·refine (if_neg c).mpr ?_;rw [if_neg c];exact ⟨by rw [aK];omega,ih (i+1) _ (by omega) (by omega)⟩
def aRh:=dR aNk (λ⟨x0,_⟩=>bGE x0) λ⟨x0,_⟩=>[⟨.str,pQ x0⟩]
theorem aI7:c7 103 aRh:=dF bGD (λ⟨x0,_⟩ h hwf K q =>
 (aRe _ K q 5).1 (by rw [aYi];exact aRg x0 hwf.1 3 0 (aA #[]) rfl (aT _)))
noncomputable def d52:dB:=⟨52,Tryz.f52,[.p fP],[.str],[],[(103,aRh),(104,aGp)],false,[]⟩
theorem o52:FO d52:=mo Tryz.func52 ⟨aI7,Pu,trivial⟩
def P52 (x0:ByteArray×Int×Int×Unit):Prop:=((aH x0.1+1<=9223372036854775807)/\((aH (x0.1++aA #[32])+aH (pQ x0.2.1)<=9223372036854775807)/\((aH (x0.1++aA #[32]++pQ x0.2.1)+1<=9223372036854775807)/\((aH (x0.1++aA #[32]++pQ x0.2.1++aA #[32])+aH (jN x0.2.2.1)<=9223372036854775807)/\True))))
def aEU (x0:ByteArray×Int×Int×Unit):ByteArray:=x0.1++aA #[32]++pQ x0.2.1++aA #[32]++jN x0.2.2.1
def S52:=dR d52 (λ⟨x0,_⟩=>P52 x0) λ⟨x0,_⟩=>[⟨.str,aEU x0⟩]
theorem aYj:c7 52 S52:=dF o52 λ⟨x0,_⟩ h _ K q=>c1 h λh=>tv<|c1 h λh=>c1 h λh=>tv<|c1 h λh=>rt
noncomputable def d53:dB:=⟨53,Tryz.f53,[.pb Y3,.v (.str)],[.cons .str JZ],[],[(15,S15),(12,S12)],false,[]⟩
theorem o53:FO d53:=mo Tryz.func53 ⟨aEO,AJ,trivial⟩
def P53 (x0:List Int×Int×Int×Unit) (x1:ByteArray):Prop:=((P15 x0 [0,1,2,4,3,5,6])/\((Ee (mO x0 [0,1,2,4,3,5,6]) 12)/\((cC .i64 (5*aV (mO x0 [0,1,2,4,3,5,6]) 12))/\((cC .i64 (10+5*aV (mO x0 [0,1,2,4,3,5,6]) 12))/\True))))
def Tv (x0:List Int×Int×Int×Unit) (x1:ByteArray):ByteArray×Int×Int×Unit:=(x1,j6 x0 [0,1,2,4,3,5,6],10+5*aV (mO x0 [0,1,2,4,3,5,6]) 12,())
def aI8 (x0:List Int×Int×Int×Unit) (x1:ByteArray):List Int×Int×Int×Unit:=aG (mO x0 [0,1,2,4,3,5,6]) 12
def S53:=wD d53 (λ⟨x0,x1,_⟩=>P53 x0 x1) (λ⟨x0,x1,_⟩=>[some ⟨.cons (.sl (.int .u8)) X2,[aI8 x0 x1]⟩]) λ⟨x0,x1,_⟩=>[⟨.cons .str JZ,Tv x0 x1⟩]
theorem aYk:c7 53 S53:=dF o53 λ⟨x0,x1,_⟩ h _ K q=>c1 h λh=>c1 h λh=>c1 h λh=>c1 h λh=>rt
noncomputable def d54:dB:=⟨54,Tryz.f54,[.p fP],[.str],[],[(103,aRh),(104,aGp)],false,[]⟩
theorem o54:FO d54:=mo Tryz.func54 ⟨aI7,Pu,trivial⟩
def P54 (x0:ByteArray×Int×Int×Unit):Prop:=((aH x0.1+1<=9223372036854775807)/\((aH (x0.1++aA #[32])+aH (pQ x0.2.1)<=9223372036854775807)/\((aH (x0.1++aA #[32]++pQ x0.2.1)+1<=9223372036854775807)/\((aH (x0.1++aA #[32]++pQ x0.2.1++aA #[32])+aH (jN x0.2.2.1)<=9223372036854775807)/\True))))
def aEV (x0:ByteArray×Int×Int×Unit):ByteArray:=x0.1++aA #[32]++pQ x0.2.1++aA #[32]++jN x0.2.2.1
def S54:=dR d54 (λ⟨x0,_⟩=>P54 x0) λ⟨x0,_⟩=>[⟨.str,aEV x0⟩]
theorem aYl:c7 54 S54:=dF o54 λ⟨x0,_⟩ h _ K q=>c1 h λh=>tv<|c1 h λh=>c1 h λh=>tv<|c1 h λh=>rt
noncomputable def d13:dB:=⟨13,Tryz.f13,[.pb Y3],[.str],[],[(12,S12),(35,S35),(34,S34),(36,S36),(37,S37),(38,S38),(39,S39),(40,S40),(41,S41),(42,S42),(43,S43),(44,S44),(45,S45),(46,S46),(47,S47),(48,S48),(49,S49),(50,S50),(51,S51),(52,S52),(53,S53),(54,S54)],false,[]⟩
theorem o13:FO d13:=mo Tryz.func13 ⟨AJ,aX7,aX8,aXD,aXE,aXF,aXH,aXI,aXJ,aXK,aXM,aXV,aXW,aXX,aXY,aXZ,aYa,aYg,aYh,aYj,aYk,aYl,trivial⟩
def P13 (x0:List Int×Int×Int×Unit):Prop:=((Ee x0 21)/\(if (aV x0 21==0)=true then ((Tr (aG x0 21) [aA #[98,97],aA #[98,98],aA #[98,99]])/\((P34 (fE (aG x0 21) [aA #[98,97],aA #[98,98],aA #[98,99]]) (jQ (aG x0 21) [aA #[98,97],aA #[98,98],aA #[98,99]]))/\((P36 (jQ (aG x0 21) [aA #[98,97],aA #[98,98],aA #[98,99]],10000+500*aV (fE (aG x0 21) [aA #[98,97],aA #[98,98],aA #[98,99]]) 800,1000+250*aV (aG (fE (aG x0 21) [aA #[98,97],aA #[98,98],aA #[98,99]]) 800) 400,5*aV (aG (aG (fE (aG x0 21) [aA #[98,97],aA #[98,98],aA #[98,99]]) 800) 400) 25,()))/\((5+aH (aEM (jQ (aG x0 21) [aA #[98,97],aA #[98,98],aA #[98,99]],10000+500*aV (fE (aG x0 21) [aA #[98,97],aA #[98,98],aA #[98,99]]) 800,1000+250*aV (aG (fE (aG x0 21) [aA #[98,97],aA #[98,98],aA #[98,99]]) 800) 400,5*aV (aG (aG (fE (aG x0 21) [aA #[98,97],aA #[98,98],aA #[98,99]]) 800) 400) 25,()))<=9223372036854775807)/\True)))) else (if (aV x0 21==1)=true then ((Tr (aG x0 21) [aA #[115,108,111,119,101,115,116,32,53,48,48],aA #[115,108,111,119,101,115,116,32,48],aA #[115,108,111,119,101,115,116,32,53,48,48,49],aA #[115,108,111,119,101,115,116],aA #[114,101,115,101,114,118,101,32,51,48,48,48,48],aA #[114,101,115,101,114,118,101,32,49],aA #[114,101,115,101,114,118,101,32,48]])/\True) else (if (aV x0 21==2)=true then ((P37 (aG x0 21))/\((P38 (1000*(1+aV (aG x0 21) 2000),500+100*aV (aG (aG x0 21) 2000) 60,6+aV (aG (aG (aG x0 21) 2000) 60) 200,1000*(1+aV (aG (aG (aG (aG x0 21) 2000) 60) 200) 900),()))/\((5+aH (aEN (1000*(1+aV (aG x0 21) 2000),500+100*aV (aG (aG x0 21) 2000) 60,6+aV (aG (aG (aG x0 21) 2000) 60) 200,1000*(1+aV (aG (aG (aG (aG x0 21) 2000) 60) 200) 900),()))<=9223372036854775807)/\True))) else (if (aV x0 21==3)=true then ((P39 (aG x0 21))/\((P40 (aV (aG x0 21) 2*aV (aG (aG x0 21) 2) 80,j6 (aG (aG (aG x0 21) 2) 80) [-150, -101, -100, -20,0,10,11,80,200],j6 (mO (aG (aG (aG x0 21) 2) 80) [-150, -101, -100, -20,0,10,11,80,200]) [0,40,150,151,300],()))/\((5+aH (Tt (aV (aG x0 21) 2*aV (aG (aG x0 21) 2) 80,j6 (aG (aG (aG x0 21) 2) 80) [-150, -101, -100, -20,0,10,11,80,200],j6 (mO (aG (aG (aG x0 21) 2) 80) [-150, -101, -100, -20,0,10,11,80,200]) [0,40,150,151,300],()))<=9223372036854775807)/\True))) else (if (aV x0 21==4)=true then ((P39 (aG x0 21))/\((P40 (aV (aG x0 21) 2*aV (aG (aG x0 21) 2) 80,j6 (aG (aG (aG x0 21) 2) 80) [-150, -101, -100, -20,0,10,11,80,200],j6 (mO (aG (aG (aG x0 21) 2) 80) [-150, -101, -100, -20,0,10,11,80,200]) [0,40,150,151,300],()))/\((5+aH (Tt (aV (aG x0 21) 2*aV (aG (aG x0 21) 2) 80,j6 (aG (aG (aG x0 21) 2) 80) [-150, -101, -100, -20,0,10,11,80,200],j6 (mO (aG (aG (aG x0 21) 2) 80) [-150, -101, -100, -20,0,10,11,80,200]) [0,40,150,151,300],()))<=9223372036854775807)/\True))) else (if (aV x0 21==5)=true then ((Tr (aG x0 21) [aA #[108,105,109,105,116,32,49,32,50,48,32,51,48,48,48],aA #[108,105,109,105,116,32,50,32,48,32,48],aA #[108,105,109,105,116,32,51,32,50,48,48,32,48],aA #[108,105,109,105,116,32,53,32,48,32,48],aA #[108,105,109,105,116,32,49,32,48],aA #[114,117,110,110,105,110,103]])/\True) else (if (aV x0 21==6)=true then ((P41 (aG x0 21))/\((P42 (1000*(1+aV (aG x0 21) 300),1000+500*aV (aG (aG x0 21) 300) 100,20*aV (aG (aG (aG x0 21) 300) 100) 20,()))/\((6+aH (aEQ (1000*(1+aV (aG x0 21) 300),1000+500*aV (aG (aG x0 21) 300) 100,20*aV (aG (aG (aG x0 21) 300) 100) 20,()))<=9223372036854775807)/\True))) else (if (aV x0 21==7)=true then ((Tr (aG x0 21) [aA #[112,111,119,101,114,32,53,48,48,48,32,50,48,48,48],aA #[112,111,119,101,114,32,45,53,48,48,48,32,51,48,48,48],aA #[112,111,119,101,114,32,51,48,48,48,48,32,49],aA #[112,111,119,101,114,32,50,48,48,48,48,32,57,48,48,48],aA #[112,111,119,101,114,32,49]])/\True) else (if (aV x0 21==8)=true then ((Tr (aG x0 21) [aA #[118,111,116,101,32,53,44,53,44,57,32,48],aA #[118,111,116,101,32,49,44,50,44,51,32,49],aA #[118,111,116,101,32,49,44,57,44,50,48,32,48],aA #[118,111,116,101,32,49,44,50,32,53],aA #[118,111,116,101,32,45,32,48],aA #[118,111,116,101,32,53,44,53,44,57]])/\True) else (if (aV x0 21==9)=true then ((Tr (aG x0 21) [aA #[101,118,101,110,116,32,49],aA #[101,118,101,110,116,32,50],aA #[101,118,101,110,116,32,51],aA #[101,118,101,110,116,32,52],aA #[101,118,101,110,116,32,52],aA #[101,118,101,110,116,32,52],aA #[101,118,101,110,116,32,53],aA #[101,118,101,110,116]])/\True) else (if (aV x0 21==10)=true then ((Tr (aG x0 21) [aA #[101,118,101,110,116,32,49],aA #[101,118,101,110,116,32,50],aA #[101,118,101,110,116,32,51],aA #[101,118,101,110,116,32,52],aA #[101,118,101,110,116,32,52],aA #[101,118,101,110,116,32,52],aA #[101,118,101,110,116,32,53],aA #[101,118,101,110,116]])/\True) else (if (aV x0 21==11)=true then ((Tr (aG x0 21) [aA #[119,97],aA #[119,98],aA #[119,99]])/\((P43 (fE (aG x0 21) [aA #[119,97],aA #[119,98],aA #[119,99]]) (jQ (aG x0 21) [aA #[119,97],aA #[119,98],aA #[119,99]]))/\((P44 (jQ (aG x0 21) [aA #[119,97],aA #[119,98],aA #[119,99]],30*aV (fE (aG x0 21) [aA #[119,97],aA #[119,98],aA #[119,99]]) 40,AK 1440 (30*aV (fE (aG x0 21) [aA #[119,97],aA #[119,98],aA #[119,99]]) 40+30*(1+aV (aG (fE (aG x0 21) [aA #[119,97],aA #[119,98],aA #[119,99]]) 40) 16)),()))/\((7+aH (Y4 (jQ (aG x0 21) [aA #[119,97],aA #[119,98],aA #[119,99]],30*aV (fE (aG x0 21) [aA #[119,97],aA #[119,98],aA #[119,99]]) 40,AK 1440 (30*aV (fE (aG x0 21) [aA #[119,97],aA #[119,98],aA #[119,99]]) 40+30*(1+aV (aG (fE (aG x0 21) [aA #[119,97],aA #[119,98],aA #[119,99]]) 40) 16)),()))<=9223372036854775807)/\True)))) else (if (aV x0 21==12)=true then ((Tr (aG x0 21) [aA #[99,111,118,101,114,32,51,48,48,32,54,48,48],aA #[99,111,118,101,114,32,48,32,49,48],aA #[99,111,118,101,114,32,54,48,48,32,51,48,48],aA #[99,111,118,101,114,32,52,56,48,32,52,56,48],aA #[99,111,118,101,114]])/\True) else (if (aV x0 21==13)=true then ((P45 (aG x0 21))/\((P46 (1000+500*aV (aG x0 21) 12,5+5*aV (aG (aG x0 21) 12) 20,1000*aV (aG (aG (aG x0 21) 12) 20) 90,20*aV (aG (aG (aG (aG x0 21) 12) 20) 90) 20,()))/\((6+aH (aER (1000+500*aV (aG x0 21) 12,5+5*aV (aG (aG x0 21) 12) 20,1000*aV (aG (aG (aG x0 21) 12) 20) 90,20*aV (aG (aG (aG (aG x0 21) 12) 20) 90) 20,()))<=9223372036854775807)/\True))) else (if (aV x0 21==14)=true then ((Tr (aG x0 21) [aA #[119,97,116,101,114,32,53,48,48,48,32,53,53,48,48,32,51,48,48,32,52,56,48,32,49,48,48,48],aA #[119,97,116,101,114,32,53,48,48,48,32,57,53,48,48,32,51,48,48,32,52,56,48,32,49,48,48,48],aA #[119,97,116,101,114,32,53,48,48,48,32,52,48,48,48,32,48,32,52,56,48,32,49,48,48],aA #[119,97,116,101,114,32,49,32,50,32,51],aA #[119,97,116,101,114,32,45,49,32,48,32,48,32,53,32,53]])/\True) else (if (aV x0 21==15)=true then ((Tr (aG x0 21) [aA #[100,97,121],aA #[115,105,110,103,108,101],aA #[116,101,110]])/\((P47 (fE (aG x0 21) [aA #[100,97,121],aA #[115,105,110,103,108,101],aA #[116,101,110]]) (jQ (aG x0 21) [aA #[100,97,121],aA #[115,105,110,103,108,101],aA #[116,101,110]]))/\((P48 (jQ (aG x0 21) [aA #[100,97,121],aA #[115,105,110,103,108,101],aA #[116,101,110]],100+50*aV (fE (aG x0 21) [aA #[100,97,121],aA #[115,105,110,103,108,101],aA #[116,101,110]]) 60,j6 (aG (fE (aG x0 21) [aA #[100,97,121],aA #[115,105,110,103,108,101],aA #[116,101,110]]) 60) [1,1,2,5,10,40],j6 (mO (aG (fE (aG x0 21) [aA #[100,97,121],aA #[115,105,110,103,108,101],aA #[116,101,110]]) 60) [1,1,2,5,10,40]) [1,3,7,30,400],()))/\((5+aH (aES (jQ (aG x0 21) [aA #[100,97,121],aA #[115,105,110,103,108,101],aA #[116,101,110]],100+50*aV (fE (aG x0 21) [aA #[100,97,121],aA #[115,105,110,103,108,101],aA #[116,101,110]]) 60,j6 (aG (fE (aG x0 21) [aA #[100,97,121],aA #[115,105,110,103,108,101],aA #[116,101,110]]) 60) [1,1,2,5,10,40],j6 (mO (aG (fE (aG x0 21) [aA #[100,97,121],aA #[115,105,110,103,108,101],aA #[116,101,110]]) 60) [1,1,2,5,10,40]) [1,3,7,30,400],()))<=9223372036854775807)/\True)))) else (if (aV x0 21==16)=true then ((Tr (aG x0 21) [aA #[116,114,105,112,115,32,57,48,48,48,44,57,48,48,48,44,57,48,48,51],aA #[116,114,105,112,115,32,57,48,48,48,44,57,48,48,49,44,57,48,48,50,44,57,48,48,57,44,57,48,51,48],aA #[116,114,105,112,115,32,45],aA #[116,114,105,112,115,32,53,44,52],aA #[116,114,105,112,115,32,120],aA #[113,117,101,117,101,32,53,43,57,43,48,43,50,48,32,50,32,56],aA #[113,117,101,117,101,32,52,48,32,49,32,53],aA #[113,117,101,117,101,32,53,32,54,49,32,53],aA #[113,117,101,117,101,32,53]])/\True) else (if (aV x0 21==17)=true then ((Ee (aG x0 21) 9)/\((cC .i64 (40*aV (aG x0 21) 9))/\((cC .i64 (8000+40*aV (aG x0 21) 9))/\((Ee (aG (aG x0 21) 9) 6)/\((cC .i64 (3*aV (aG (aG x0 21) 9) 6))/\((Ee (aG (aG (aG x0 21) 9) 6) 20)/\((P49 (aG (aG (aG (aG x0 21) 9) 6) 20) (8000+40*aV (aG x0 21) 9) (3*aV (aG (aG x0 21) 9) 6) (aV (aG (aG (aG x0 21) 9) 6) 20))/\((P50 (8000+40*aV (aG x0 21) 9+30*aV (aG (aG (aG (aG x0 21) 9) 6) 20) 12,3*aV (aG (aG x0 21) 9) 6+aV (aG (aG (aG (aG (aG x0 21) 9) 6) 20) 12) 9,AK 1000 (aV (aG (aG (aG x0 21) 9) 6) 20+aV (aG (aG (aG (aG (aG (aG x0 21) 9) 6) 20) 12) 9) 20),()))/\((5+aH (Y5 (8000+40*aV (aG x0 21) 9+30*aV (aG (aG (aG (aG x0 21) 9) 6) 20) 12,3*aV (aG (aG x0 21) 9) 6+aV (aG (aG (aG (aG (aG x0 21) 9) 6) 20) 12) 9,AK 1000 (aV (aG (aG (aG x0 21) 9) 6) 20+aV (aG (aG (aG (aG (aG (aG x0 21) 9) 6) 20) 12) 9) 20),()))<=9223372036854775807)/\True))))))))) else (if (aV x0 21==18)=true then ((Tr (aG x0 21) [aA #[104,97],aA #[104,98],aA #[104,99]])/\((P51 (fE (aG x0 21) [aA #[104,97],aA #[104,98],aA #[104,99]]) (jQ (aG x0 21) [aA #[104,97],aA #[104,98],aA #[104,99]]))/\((P52 (jQ (aG x0 21) [aA #[104,97],aA #[104,98],aA #[104,99]],aV (fE (aG x0 21) [aA #[104,97],aA #[104,98],aA #[104,99]]) 8,5*aV (aG (fE (aG x0 21) [aA #[104,97],aA #[104,98],aA #[104,99]]) 8) 12,()))/\((7+aH (aEU (jQ (aG x0 21) [aA #[104,97],aA #[104,98],aA #[104,99]],aV (fE (aG x0 21) [aA #[104,97],aA #[104,98],aA #[104,99]]) 8,5*aV (aG (fE (aG x0 21) [aA #[104,97],aA #[104,98],aA #[104,99]]) 8) 12,()))<=9223372036854775807)/\True)))) else (if (aV x0 21==19)=true then ((Tr (aG x0 21) [aA #[116,97],aA #[116,98]])/\((P53 (fE (aG x0 21) [aA #[116,97],aA #[116,98]]) (jQ (aG x0 21) [aA #[116,97],aA #[116,98]]))/\((P54 (jQ (aG x0 21) [aA #[116,97],aA #[116,98]],j6 (fE (aG x0 21) [aA #[116,97],aA #[116,98]]) [0,1,2,4,3,5,6],10+5*aV (mO (fE (aG x0 21) [aA #[116,97],aA #[116,98]]) [0,1,2,4,3,5,6]) 12,()))/\((5+aH (aEV (jQ (aG x0 21) [aA #[116,97],aA #[116,98]],j6 (fE (aG x0 21) [aA #[116,97],aA #[116,98]]) [0,1,2,4,3,5,6],10+5*aV (mO (fE (aG x0 21) [aA #[116,97],aA #[116,98]]) [0,1,2,4,3,5,6]) 12,()))<=9223372036854775807)/\True)))) else ((Tr (aG x0 21) [aA #[100,117,101,32,53,48,32,57,48],aA #[100,117,101,32,48,32,51,48],aA #[100,117,101,32,50,52,48,48,49,32,53],aA #[102,105,108,108],aA #[114,117,110,110,105,110,103],aA #[114,101,112,111,114,116],aA #[115,104,111,119],aA #[104,101,108,112],aA #[],aA #[72,101,108,112],aA #[104,101,108,112,32]])/\True))))))))))))))))))))))
def xU (x0:List Int×Int×Int×Unit):ByteArray:=(if (aV x0 21==0)=true then aA #[98,101,110,100,32]++aEM (jQ (aG x0 21) [aA #[98,97],aA #[98,98],aA #[98,99]],10000+500*aV (fE (aG x0 21) [aA #[98,97],aA #[98,98],aA #[98,99]]) 800,1000+250*aV (aG (fE (aG x0 21) [aA #[98,97],aA #[98,98],aA #[98,99]]) 800) 400,5*aV (aG (aG (fE (aG x0 21) [aA #[98,97],aA #[98,98],aA #[98,99]]) 800) 400) 25,()) else (if (aV x0 21==1)=true then jQ (aG x0 21) [aA #[115,108,111,119,101,115,116,32,53,48,48],aA #[115,108,111,119,101,115,116,32,48],aA #[115,108,111,119,101,115,116,32,53,48,48,49],aA #[115,108,111,119,101,115,116],aA #[114,101,115,101,114,118,101,32,51,48,48,48,48],aA #[114,101,115,101,114,118,101,32,49],aA #[114,101,115,101,114,118,101,32,48]] else (if (aV x0 21==2)=true then aA #[114,111,112,101,32]++aEN (1000*(1+aV (aG x0 21) 2000),500+100*aV (aG (aG x0 21) 2000) 60,6+aV (aG (aG (aG x0 21) 2000) 60) 200,1000*(1+aV (aG (aG (aG (aG x0 21) 2000) 60) 200) 900),()) else (if (aV x0 21==3)=true then aA #[104,111,117,114,32]++Tt (aV (aG x0 21) 2*aV (aG (aG x0 21) 2) 80,j6 (aG (aG (aG x0 21) 2) 80) [-150, -101, -100, -20,0,10,11,80,200],j6 (mO (aG (aG (aG x0 21) 2) 80) [-150, -101, -100, -20,0,10,11,80,200]) [0,40,150,151,300],()) else (if (aV x0 21==4)=true then aA #[104,111,117,114,32]++Tt (aV (aG x0 21) 2*aV (aG (aG x0 21) 2) 80,j6 (aG (aG (aG x0 21) 2) 80) [-150, -101, -100, -20,0,10,11,80,200],j6 (mO (aG (aG (aG x0 21) 2) 80) [-150, -101, -100, -20,0,10,11,80,200]) [0,40,150,151,300],()) else (if (aV x0 21==5)=true then jQ (aG x0 21) [aA #[108,105,109,105,116,32,49,32,50,48,32,51,48,48,48],aA #[108,105,109,105,116,32,50,32,48,32,48],aA #[108,105,109,105,116,32,51,32,50,48,48,32,48],aA #[108,105,109,105,116,32,53,32,48,32,48],aA #[108,105,109,105,116,32,49,32,48],aA #[114,117,110,110,105,110,103]] else (if (aV x0 21==6)=true then aA #[109,111,116,111,114,32]++aEQ (1000*(1+aV (aG x0 21) 300),1000+500*aV (aG (aG x0 21) 300) 100,20*aV (aG (aG (aG x0 21) 300) 100) 20,()) else (if (aV x0 21==7)=true then jQ (aG x0 21) [aA #[112,111,119,101,114,32,53,48,48,48,32,50,48,48,48],aA #[112,111,119,101,114,32,45,53,48,48,48,32,51,48,48,48],aA #[112,111,119,101,114,32,51,48,48,48,48,32,49],aA #[112,111,119,101,114,32,50,48,48,48,48,32,57,48,48,48],aA #[112,111,119,101,114,32,49]] else (if (aV x0 21==8)=true then jQ (aG x0 21) [aA #[118,111,116,101,32,53,44,53,44,57,32,48],aA #[118,111,116,101,32,49,44,50,44,51,32,49],aA #[118,111,116,101,32,49,44,57,44,50,48,32,48],aA #[118,111,116,101,32,49,44,50,32,53],aA #[118,111,116,101,32,45,32,48],aA #[118,111,116,101,32,53,44,53,44,57]] else (if (aV x0 21==9)=true then jQ (aG x0 21) [aA #[101,118,101,110,116,32,49],aA #[101,118,101,110,116,32,50],aA #[101,118,101,110,116,32,51],aA #[101,118,101,110,116,32,52],aA #[101,118,101,110,116,32,52],aA #[101,118,101,110,116,32,52],aA #[101,118,101,110,116,32,53],aA #[101,118,101,110,116]] else (if (aV x0 21==10)=true then jQ (aG x0 21) [aA #[101,118,101,110,116,32,49],aA #[101,118,101,110,116,32,50],aA #[101,118,101,110,116,32,51],aA #[101,118,101,110,116,32,52],aA #[101,118,101,110,116,32,52],aA #[101,118,101,110,116,32,52],aA #[101,118,101,110,116,32,53],aA #[101,118,101,110,116]] else (if (aV x0 21==11)=true then aA #[119,111,114,107,101,114,32]++Y4 (jQ (aG x0 21) [aA #[119,97],aA #[119,98],aA #[119,99]],30*aV (fE (aG x0 21) [aA #[119,97],aA #[119,98],aA #[119,99]]) 40,AK 1440 (30*aV (fE (aG x0 21) [aA #[119,97],aA #[119,98],aA #[119,99]]) 40+30*(1+aV (aG (fE (aG x0 21) [aA #[119,97],aA #[119,98],aA #[119,99]]) 40) 16)),()) else (if (aV x0 21==12)=true then jQ (aG x0 21) [aA #[99,111,118,101,114,32,51,48,48,32,54,48,48],aA #[99,111,118,101,114,32,48,32,49,48],aA #[99,111,118,101,114,32,54,48,48,32,51,48,48],aA #[99,111,118,101,114,32,52,56,48,32,52,56,48],aA #[99,111,118,101,114]] else (if (aV x0 21==13)=true then aA #[98,97,115,105,110,32]++aER (1000+500*aV (aG x0 21) 12,5+5*aV (aG (aG x0 21) 12) 20,1000*aV (aG (aG (aG x0 21) 12) 20) 90,20*aV (aG (aG (aG (aG x0 21) 12) 20) 90) 20,()) else (if (aV x0 21==14)=true then jQ (aG x0 21) [aA #[119,97,116,101,114,32,53,48,48,48,32,53,53,48,48,32,51,48,48,32,52,56,48,32,49,48,48,48],aA #[119,97,116,101,114,32,53,48,48,48,32,57,53,48,48,32,51,48,48,32,52,56,48,32,49,48,48,48],aA #[119,97,116,101,114,32,53,48,48,48,32,52,48,48,48,32,48,32,52,56,48,32,49,48,48],aA #[119,97,116,101,114,32,49,32,50,32,51],aA #[119,97,116,101,114,32,45,49,32,48,32,48,32,53,32,53]] else (if (aV x0 21==15)=true then aA #[102,97,114,101,32]++aES (jQ (aG x0 21) [aA #[100,97,121],aA #[115,105,110,103,108,101],aA #[116,101,110]],100+50*aV (fE (aG x0 21) [aA #[100,97,121],aA #[115,105,110,103,108,101],aA #[116,101,110]]) 60,j6 (aG (fE (aG x0 21) [aA #[100,97,121],aA #[115,105,110,103,108,101],aA #[116,101,110]]) 60) [1,1,2,5,10,40],j6 (mO (aG (fE (aG x0 21) [aA #[100,97,121],aA #[115,105,110,103,108,101],aA #[116,101,110]]) 60) [1,1,2,5,10,40]) [1,3,7,30,400],()) else (if (aV x0 21==16)=true then jQ (aG x0 21) [aA #[116,114,105,112,115,32,57,48,48,48,44,57,48,48,48,44,57,48,48,51],aA #[116,114,105,112,115,32,57,48,48,48,44,57,48,48,49,44,57,48,48,50,44,57,48,48,57,44,57,48,51,48],aA #[116,114,105,112,115,32,45],aA #[116,114,105,112,115,32,53,44,52],aA #[116,114,105,112,115,32,120],aA #[113,117,101,117,101,32,53,43,57,43,48,43,50,48,32,50,32,56],aA #[113,117,101,117,101,32,52,48,32,49,32,53],aA #[113,117,101,117,101,32,53,32,54,49,32,53],aA #[113,117,101,117,101,32,53]] else (if (aV x0 21==17)=true then aA #[116,101,115,116,32]++Y5 (8000+40*aV (aG x0 21) 9+30*aV (aG (aG (aG (aG x0 21) 9) 6) 20) 12,3*aV (aG (aG x0 21) 9) 6+aV (aG (aG (aG (aG (aG x0 21) 9) 6) 20) 12) 9,AK 1000 (aV (aG (aG (aG x0 21) 9) 6) 20+aV (aG (aG (aG (aG (aG (aG x0 21) 9) 6) 20) 12) 9) 20),()) else (if (aV x0 21==18)=true then aA #[104,101,108,112,101,114,32]++aEU (jQ (aG x0 21) [aA #[104,97],aA #[104,98],aA #[104,99]],aV (fE (aG x0 21) [aA #[104,97],aA #[104,98],aA #[104,99]]) 8,5*aV (aG (fE (aG x0 21) [aA #[104,97],aA #[104,98],aA #[104,99]]) 8) 12,()) else (if (aV x0 21==19)=true then aA #[116,97,115,107,32]++aEV (jQ (aG x0 21) [aA #[116,97],aA #[116,98]],j6 (fE (aG x0 21) [aA #[116,97],aA #[116,98]]) [0,1,2,4,3,5,6],10+5*aV (mO (fE (aG x0 21) [aA #[116,97],aA #[116,98]]) [0,1,2,4,3,5,6]) 12,()) else jQ (aG x0 21) [aA #[100,117,101,32,53,48,32,57,48],aA #[100,117,101,32,48,32,51,48],aA #[100,117,101,32,50,52,48,48,49,32,53],aA #[102,105,108,108],aA #[114,117,110,110,105,110,103],aA #[114,101,112,111,114,116],aA #[115,104,111,119],aA #[104,101,108,112],aA #[],aA #[72,101,108,112],aA #[104,101,108,112,32]]))))))))))))))))))))
def Hg (x0:List Int×Int×Int×Unit):List Int×Int×Int×Unit:=(if (aV x0 21==0)=true then aIk (fE (aG x0 21) [aA #[98,97],aA #[98,98],aA #[98,99]]) (jQ (aG x0 21) [aA #[98,97],aA #[98,98],aA #[98,99]]) else (if (aV x0 21==1)=true then fE (aG x0 21) [aA #[115,108,111,119,101,115,116,32,53,48,48],aA #[115,108,111,119,101,115,116,32,48],aA #[115,108,111,119,101,115,116,32,53,48,48,49],aA #[115,108,111,119,101,115,116],aA #[114,101,115,101,114,118,101,32,51,48,48,48,48],aA #[114,101,115,101,114,118,101,32,49],aA #[114,101,115,101,114,118,101,32,48]] else (if (aV x0 21==2)=true then aIr (aG x0 21) else (if (aV x0 21==3)=true then aEP (aG x0 21) else (if (aV x0 21==4)=true then aEP (aG x0 21) else (if (aV x0 21==5)=true then fE (aG x0 21) [aA #[108,105,109,105,116,32,49,32,50,48,32,51,48,48,48],aA #[108,105,109,105,116,32,50,32,48,32,48],aA #[108,105,109,105,116,32,51,32,50,48,48,32,48],aA #[108,105,109,105,116,32,53,32,48,32,48],aA #[108,105,109,105,116,32,49,32,48],aA #[114,117,110,110,105,110,103]] else (if (aV x0 21==6)=true then aIu (aG x0 21) else (if (aV x0 21==7)=true then fE (aG x0 21) [aA #[112,111,119,101,114,32,53,48,48,48,32,50,48,48,48],aA #[112,111,119,101,114,32,45,53,48,48,48,32,51,48,48,48],aA #[112,111,119,101,114,32,51,48,48,48,48,32,49],aA #[112,111,119,101,114,32,50,48,48,48,48,32,57,48,48,48],aA #[112,111,119,101,114,32,49]] else (if (aV x0 21==8)=true then fE (aG x0 21) [aA #[118,111,116,101,32,53,44,53,44,57,32,48],aA #[118,111,116,101,32,49,44,50,44,51,32,49],aA #[118,111,116,101,32,49,44,57,44,50,48,32,48],aA #[118,111,116,101,32,49,44,50,32,53],aA #[118,111,116,101,32,45,32,48],aA #[118,111,116,101,32,53,44,53,44,57]] else (if (aV x0 21==9)=true then fE (aG x0 21) [aA #[101,118,101,110,116,32,49],aA #[101,118,101,110,116,32,50],aA #[101,118,101,110,116,32,51],aA #[101,118,101,110,116,32,52],aA #[101,118,101,110,116,32,52],aA #[101,118,101,110,116,32,52],aA #[101,118,101,110,116,32,53],aA #[101,118,101,110,116]] else (if (aV x0 21==10)=true then fE (aG x0 21) [aA #[101,118,101,110,116,32,49],aA #[101,118,101,110,116,32,50],aA #[101,118,101,110,116,32,51],aA #[101,118,101,110,116,32,52],aA #[101,118,101,110,116,32,52],aA #[101,118,101,110,116,32,52],aA #[101,118,101,110,116,32,53],aA #[101,118,101,110,116]] else (if (aV x0 21==11)=true then aIw (fE (aG x0 21) [aA #[119,97],aA #[119,98],aA #[119,99]]) (jQ (aG x0 21) [aA #[119,97],aA #[119,98],aA #[119,99]]) else (if (aV x0 21==12)=true then fE (aG x0 21) [aA #[99,111,118,101,114,32,51,48,48,32,54,48,48],aA #[99,111,118,101,114,32,48,32,49,48],aA #[99,111,118,101,114,32,54,48,48,32,51,48,48],aA #[99,111,118,101,114,32,52,56,48,32,52,56,48],aA #[99,111,118,101,114]] else (if (aV x0 21==13)=true then aI0 (aG x0 21) else (if (aV x0 21==14)=true then fE (aG x0 21) [aA #[119,97,116,101,114,32,53,48,48,48,32,53,53,48,48,32,51,48,48,32,52,56,48,32,49,48,48,48],aA #[119,97,116,101,114,32,53,48,48,48,32,57,53,48,48,32,51,48,48,32,52,56,48,32,49,48,48,48],aA #[119,97,116,101,114,32,53,48,48,48,32,52,48,48,48,32,48,32,52,56,48,32,49,48,48],aA #[119,97,116,101,114,32,49,32,50,32,51],aA #[119,97,116,101,114,32,45,49,32,48,32,48,32,53,32,53]] else (if (aV x0 21==15)=true then aI2 (fE (aG x0 21) [aA #[100,97,121],aA #[115,105,110,103,108,101],aA #[116,101,110]]) (jQ (aG x0 21) [aA #[100,97,121],aA #[115,105,110,103,108,101],aA #[116,101,110]]) else (if (aV x0 21==16)=true then fE (aG x0 21) [aA #[116,114,105,112,115,32,57,48,48,48,44,57,48,48,48,44,57,48,48,51],aA #[116,114,105,112,115,32,57,48,48,48,44,57,48,48,49,44,57,48,48,50,44,57,48,48,57,44,57,48,51,48],aA #[116,114,105,112,115,32,45],aA #[116,114,105,112,115,32,53,44,52],aA #[116,114,105,112,115,32,120],aA #[113,117,101,117,101,32,53,43,57,43,48,43,50,48,32,50,32,56],aA #[113,117,101,117,101,32,52,48,32,49,32,53],aA #[113,117,101,117,101,32,53,32,54,49,32,53],aA #[113,117,101,117,101,32,53]] else (if (aV x0 21==17)=true then aI3 (aG (aG (aG (aG x0 21) 9) 6) 20) (8000+40*aV (aG x0 21) 9) (3*aV (aG (aG x0 21) 9) 6) (aV (aG (aG (aG x0 21) 9) 6) 20) else (if (aV x0 21==18)=true then aI5 (fE (aG x0 21) [aA #[104,97],aA #[104,98],aA #[104,99]]) (jQ (aG x0 21) [aA #[104,97],aA #[104,98],aA #[104,99]]) else (if (aV x0 21==19)=true then aI8 (fE (aG x0 21) [aA #[116,97],aA #[116,98]]) (jQ (aG x0 21) [aA #[116,97],aA #[116,98]]) else fE (aG x0 21) [aA #[100,117,101,32,53,48,32,57,48],aA #[100,117,101,32,48,32,51,48],aA #[100,117,101,32,50,52,48,48,49,32,53],aA #[102,105,108,108],aA #[114,117,110,110,105,110,103],aA #[114,101,112,111,114,116],aA #[115,104,111,119],aA #[104,101,108,112],aA #[],aA #[72,101,108,112],aA #[104,101,108,112,32]]))))))))))))))))))))
def S13:=wD d13 (λ⟨x0,_⟩=>P13 x0) (λ⟨x0,_⟩=>[some ⟨.cons (.sl (.int .u8)) X2,[Hg x0]⟩]) λ⟨x0,_⟩=>[⟨.str,xU x0⟩]
theorem aYm:c7 13 S13:=dF o13 λ⟨x0,_⟩ h _ K q=>c1 h λh=>yA h (λh=>c1 h λh=>c1 h λh=>c1 h λh=>c1 h λh=>rt) λh=>yA h (λh=>c1 h λh=>rt) λh=>yA h (λh=>c1 h λh=>c1 h λh=>c1 h λh=>rt) λh=>yA h (λh=>c1 h λh=>c1 h λh=>c1 h λh=>rt) λh=>yA h (λh=>c1 h λh=>c1 h λh=>c1 h λh=>rt) λh=>yA h (λh=>c1 h λh=>rt) λh=>yA h (λh=>c1 h λh=>c1 h λh=>c1 h λh=>rt) λh=>yA h (λh=>c1 h λh=>rt) λh=>yA h (λh=>c1 h λh=>rt) λh=>yA h (λh=>c1 h λh=>rt) λh=>yA h (λh=>c1 h λh=>rt) λh=>yA h (λh=>c1 h λh=>c1 h λh=>c1 h λh=>c1 h λh=>rt) λh=>yA h (λh=>c1 h λh=>rt) λh=>yA h (λh=>c1 h λh=>c1 h λh=>c1 h λh=>rt) λh=>yA h (λh=>c1 h λh=>rt) λh=>yA h (λh=>c1 h λh=>c1 h λh=>c1 h λh=>c1 h λh=>rt) λh=>yA h (λh=>c1 h λh=>rt) λh=>yA h (λh=>c1 h λh=>c1 h λh=>c1 h λh=>c1 h λh=>c1 h λh=>c1 h λh=>c1 h λh=>c1 h λh=>c1 h λh=>rt) λh=>yA h (λh=>c1 h λh=>c1 h λh=>c1 h λh=>c1 h λh=>rt) λh=>yA h (λh=>c1 h λh=>c1 h λh=>c1 h λh=>c1 h λh=>rt) λh=>c1 h λh=>rt
noncomputable def d14:dB:=⟨14,Tryz.f14,[.pb Y3,.v (.int .i64)],[.bool],[],[(12,S12)],false,[]⟩
theorem o14:FO d14:=mo Tryz.func14 ⟨AJ,trivial⟩
def P14 (x0:List Int×Int×Int×Unit) (x1:Int):Prop:=((Ee x0 x1)/\True)
def Y6 (x0:List Int×Int×Int×Unit) (x1:Int):Bool:=aV x0 x1==0
def Jr (x0:List Int×Int×Int×Unit) (x1:Int):List Int×Int×Int×Unit:=aG x0 x1
def S14:=wD d14 (λ⟨x0,x1,_⟩=>P14 x0 x1) (λ⟨x0,x1,_⟩=>[some ⟨.cons (.sl (.int .u8)) X2,[Jr x0 x1]⟩]) λ⟨x0,x1,_⟩=>[⟨.bool,Y6 x0 x1⟩]
theorem aYn:c7 14 S14:=dF o14 λ⟨x0,x1,_⟩ h _ K q=>c1 h λh=>rt
end
end Go.Proofs.YtmhpnodnljbnjaaGreatDoor
set_option maxRecDepth 100000
namespace Go.Proofs.YtmhpnodnljbnjaaGreatDoor
open Go Go.Am Go.Proofs
def fZ (n:Int) (s:List Int×Int×Int×Unit):Prop:=(∀ b∈s.1,0<=b/\b<=255)/\0<=s.2.1/\s.2.1<=n
theorem fZ.up {n m:Int} {s:List Int×Int×Int×Unit} (h:fZ n s) (hm:n<=m):fZ m s:=⟨h.1,h.2.1,Int.le_trans h.2.2 hm⟩
theorem aGq {x:List Int} (hw:Wf (.sl (.int .u8)) x):fZ 0 (x,0,0,()):=by
 refine ⟨λb hb => ?_,gA _,gA _⟩;have:=hw.2 b hb;exact (Pk b).1 this
theorem IY {n:Int} (h1 : -9223372036854775808<=n) (h2:n<=9223372036854775807):bD .i64 n=n:=lJ ((aK n).2 ⟨h1,h2⟩)
theorem VW (n:Int):cC .u64 n↔0<=n/\n<=18446744073709551615:=by
 have e1:(cL).min=0:=by decide
 have e2:(cL).max=18446744073709551615:=by decide
 simp only [cC,e1,e2]
theorem aNl (z:Int):cC .u64 (cQ (bD .u64 z) 1099511627776):=by
 have h:=(VW _).1 (qA .u64 z);rw [VW,fG _ (by decide)];omega
theorem aI9 (z:Int):0<=bD .i64 (bD .u64 ((j3 (dX 64 z &&& dX 64 255):Nat):Int))/\bD .i64 (bD .u64 ((j3 (dX 64 z &&& dX 64 255):Nat):Int))<=255:=by
 have h:j3 (dX 64 z &&& dX 64 255)<=255:=by
  rw [BitVec.toNat_and];exact cO Nat.and_le_right (by decide)
 have e:bD .u64 ((j3 (dX 64 z &&& dX 64 255):Nat):Int)=((j3 (dX 64 z &&& dX 64 255):Nat):Int):=lJ ((VW _).2 (by omega));rw [e,IY (by omega) (by omega)];omega
theorem aEW {n:Int} {s:List Int×Int×Int×Unit} (h:fZ n s) (hn:n<=4611686018427387904) :
  P33 s/\fZ (n+1) (FQ s)/\0<=yS s/\yS s<=255:=by
 obtain ⟨h1,h2,h3⟩:=h;have e:bD .i64 (s.2.1+1)=s.2.1+1:=IY (by omega) (by omega);unfold P33 FQ yS fZ;by_cases hc:s.2.1<(s.1.length:Int)
 ·have hb:=h1 _ (dN s.1 s.2.1.toNat 0 (by omega));have eb:bD .i64 (s.1.getD s.2.1.toNat 0)=s.1.getD s.2.1.toNat 0:=IY (by omega) (by omega);by_cases hd:s.2.1+1<=(s.1.length:Int)
  ·simp only [hc,e,hd,decide_true,if_true,eb];exact ⟨⟨h2,trivial,trivial⟩,⟨h1,by omega,by omega⟩,hb⟩
  ·omega
 ·by_cases hd:s.2.1+1<=(s.1.length:Int)
  ·omega
  ·simp only [hc,e,hd,decide_false,dJ,if_false];exact ⟨⟨aNl _,trivial⟩,⟨h1,by omega,by omega⟩,aI9 _⟩
theorem aEX {x m:Int} (hx:0<=x) (hx2:x<=65535) (hm:1<=m):cC .i64 (c8 x m)/\0<=c8 x m/\c8 x m<m:=by
 rw [iC hx,aK];have h1:=Int.emod_nonneg x (show m≠0 by omega);have h2:=Int.emod_lt_of_pos x (show 0<m by omega);have h3:x % m<=x:=by
  rcases Wc x m with h | h
  ·rw [Int.emod_eq_of_lt hx h];exact gA _
  ·omega
 exact ⟨⟨by omega,by omega⟩,h1,h2⟩
theorem Oa {n:Int} {s:List Int×Int×Int×Unit} (h:fZ n s) (m:Int) (hn:n<=4611686018427387902) :
  Ee s m/\fZ (n+2) (aG s m)/\0<=aV s m/\(1<=m->aV s m<m)/\(m<=1->aV s m=0):=by
 obtain ⟨p1,s1,a1,b1⟩:=aEW h (by omega);obtain ⟨p2,s2,a2,b2⟩:=aEW s1 (by omega);unfold Ee aG aV;by_cases hm:m<=1
 ·simp only [hm,decide_true,if_true];exact ⟨trivial,h.up (by omega),by omega,λ_=>by omega,by first | trivial | exact λ_=>rfl⟩
 ·by_cases hb:m>200
  ·simp only [hm,hb,decide_true,decide_false,dJ,if_true,if_false];obtain ⟨t1,t2,t3⟩:=aEX (x:=yS s*256+yS (FQ s)) (m:=m) (by omega) (by omega) (by omega);exact ⟨⟨p1,by rw [aK];omega,p2,by rw [aK];omega,by omega,t1,trivial⟩,s2.up (by omega),t2,λ_=>t3,by first | trivial | exact λh=>absurd h (by simp)⟩
  ·simp only [hm,hb,decide_true,decide_false,dJ,if_true,if_false];obtain ⟨t1,t2,t3⟩:=aEX (x:=yS s) (m:=m) a1 (by omega) (by omega);exact ⟨⟨p1,by omega,t1,trivial⟩,s1.up (by omega),t2,λ_=>t3,by first | trivial | exact λh=>absurd h (by simp)⟩
theorem aNm {n:Int} {s:(List Int×Int×Int×Unit)} (h:fZ n s) (l:List ByteArray) (hl:1<=l.length) (hn:n<=4611686018427387902) :
  Tr s l/\fZ (n+2) (fE s l)/\jQ s l∈l:=by
 obtain ⟨p,s1,a,b,_⟩:=Oa h (l.length:Int) hn;have b:=b (by omega);exact ⟨⟨p,a,b,trivial⟩,s1,dN l _ aC (by omega)⟩
theorem Y7 {n:Int} {s:List Int×Int×Int×Unit} (h:fZ n s) (l:List Int) (hl:1<=l.length) (hn:n<=4611686018427387902) :
  P15 s l/\fZ (n+2) (mO s l)/\j6 s l∈l:=by
 obtain ⟨p,s1,a,b,_⟩:=Oa h (l.length:Int) hn;have b:=b (by omega);exact ⟨⟨p,a,b,trivial⟩,s1,dN l _ 0 (by omega)⟩
theorem C3 {c:Prop} [Decidable c] {P1 P2:Prop} {u1 u2:(List Int×Int×Int×Unit)} {g1 g2:ByteArray} {m:Int} {K:Nat} (h1:P1/\fZ m u1/\g1.size<=K) (h2:P2/\fZ m u2/\g2.size<=K) :
  (if c then P1 else P2)/\fZ m (if c then u1 else u2)/\(if c then g1 else g2).size<=K:=by
 split <;> assumption
theorem Js {x:Int} (h : -1000000000<=x/\x<=1000000000):(jN x).size<=21:=wC x (by omega) (by omega)
theorem bGJ (o:ByteArray):(o++aA #[44]).size=o.size+1:=by rw [aS];rfl
theorem aGr (o:ByteArray):(o++aA #[32]).size=o.size+1:=by rw [aS];rfl
theorem aEY:∀ (l:List Int) (i:Nat) (o:ByteArray),(∀ x∈l, -1000000000<=x/\x<=1000000000)->(aBB i o l).size<=o.size+22*l.length
 | [],_,o,_=>by unfold aBB;omega
 | x :: r,i,o,h=>by
  unfold aBB;have h1:=aEY r (i+1) ((if 0<i then o++aA #[44] else o)++jN x) (λy hy=>h y (aM _ hy));have h2:=Js (h x aQ);have h3:(if 0<i then o++aA #[44] else o).size<=o.size+1:=by
   split
   ·rw [bGJ];omega
   ·omega
  rw [aS] at h1;rw [bA];omega
theorem zT {l:List Int} (hl:l.length<=4) (h:∀ x∈l, -1000000000<=x/\x<=1000000000):P99 l/\(xT l).size<=88:=by
 refine ⟨⟨by omega,λx hx=>by have:=h x hx;rw [aK];omega⟩,?_⟩;unfold xT;split
 ·exact aZ rfl
 ·have:=aEY l 0 (aA #[]) h;have e:(aA #[]).size=0:=rfl;omega
theorem pk {n:Int} {s:(List Int×Int×Int×Unit)} (h:fZ n s) (hn:n<=4000000000000000000) (m:Int) (hm:1<=m) :
  Ee s m/\fZ (n+2) (aG s m)/\0<=aV s m/\aV s m<m:=by
 obtain ⟨p,s1,a,b,_⟩:=Oa h m (by omega);exact ⟨p,s1,a,b hm⟩
theorem am {n:Int} {s:(List Int×Int×Int×Unit)} (h:fZ n s) (hn:n<=4000000000000000000) (l:List Int) (hl:1<=l.length) (hb:(l.all λx=>decide (-1000<=x/\x<=1000))=true) :
  P15 s l/\fZ (n+2) (mO s l) /\ -1000<=j6 s l/\j6 s l<=1000:=by
 obtain ⟨p,s1,m⟩:=Y7 h l hl (by omega);have:=of_decide_eq_true (jH.1 hb _ m);exact ⟨p,s1,this.1,this.2⟩
theorem tx {n:Int} {s:(List Int×Int×Int×Unit)} (h:fZ n s) (hn:n<=4000000000000000000) (l:List ByteArray) (hl:1<=l.length) (hb:(l.all λx=>decide (x.size<=40))=true) :
  Tr s l/\fZ (n+2) (fE s l)/\(jQ s l).size<=40:=by
 obtain ⟨p,s1,m⟩:=aNm h l hl (by omega);exact ⟨p,s1,of_decide_eq_true (jH.1 hb _ m)⟩
theorem aYo {n:Int} {s:(List Int×Int×Int×Unit)} (h:fZ n s) (hn:n<=4000000000000000000) (l:List ByteArray) (hl:1<=l.length) (hb:(l.all λx=>decide (x.size<=40))=true) :
  (Tr s l/\True)/\fZ (n+40) (fE s l)/\(jQ s l).size<=200:=by
 obtain ⟨p,s1,m⟩:=tx h hn l hl hb;exact ⟨⟨p,trivial⟩,s1.up (by omega),by omega⟩
theorem Tw {w:ByteArray} {l:List Int} (hw:w.size<=40) (hl:l.length<=4) (h:∀ x∈l, -1000000000<=x/\x<=1000000000) :
  (w.size+1<=9223372036854775807/\P99 l/\(w++aA #[32]).size+(xT l).size<=9223372036854775807/\True)/\(w++aA #[32]++xT l).size<=190:=by
 obtain ⟨q,z⟩:=zT hl h;have e:=aGr w;exact ⟨⟨by omega,q,by omega,trivial⟩,by rw [aS];omega⟩
theorem aRi {n:Int} {s:(List Int×Int×Int×Unit)} (h:fZ n s) (hn:n<=3000000000000000000) (w:ByteArray) (hw:w.size<=40) :
  P34 s w/\P36 (aIj s w)/\(aEM (aIj s w)).size<=190/\fZ (n+6) (aIk s w):=by
 obtain ⟨p0,s0,a0,b0⟩:=pk h (by omega) 800 (by omega);obtain ⟨p1,s1,a1,b1⟩:=pk s0 (by omega) 400 (by omega);obtain ⟨p2,s2,a2,b2⟩:=pk s1 (by omega) 25 (by omega);obtain ⟨q,z⟩:=Tw (l:=[10000+500*(aV s 800),1000+250*(aV (aG s 800) 400),5*(aV (aG (aG s 800) 400) 25)]) hw (aZ rfl) (by
  simp only [aR,lR,or_false];rintro x (rfl | rfl | rfl) <;> omega)
 exact ⟨⟨p0,by rw [aK];omega,by rw [aK];omega,p1,by rw [aK];omega,by rw [aK];omega,p2,by rw [aK];omega,trivial⟩,q,z,s2.up (by omega)⟩
theorem aRj {n:Int} {s:(List Int×Int×Int×Unit)} (h:fZ n s) (hn:n<=3000000000000000000) :
  P37 s/\P38 (aIq s)/\(aEN (aIq s)).size<=190/\fZ (n+8) (aIr s):=by
 obtain ⟨p0,s0,a0,b0⟩:=pk h (by omega) 2000 (by omega);obtain ⟨p1,s1,a1,b1⟩:=pk s0 (by omega) 60 (by omega);obtain ⟨p2,s2,a2,b2⟩:=pk s1 (by omega) 200 (by omega);obtain ⟨p3,s3,a3,b3⟩:=pk s2 (by omega) 900 (by omega);obtain ⟨q,z⟩:=zT (l:=[1000*(1+(aV s 2000)),500+100*(aV (aG s 2000) 60),6+(aV (aG (aG s 2000) 60) 200),1000*(1+(aV (aG (aG (aG s 2000) 60) 200) 900))]) (aZ rfl) (by
  simp only [aR,lR,or_false];rintro x (rfl | rfl | rfl | rfl) <;> omega)
 exact ⟨⟨p0,by rw [aK];omega,by rw [aK];omega,p1,by rw [aK];omega,by rw [aK];omega,p2,by rw [aK];omega,p3,by rw [aK];omega,by rw [aK];omega,trivial⟩,⟨q,trivial⟩,cO z (by decide),s3.up (by omega)⟩
theorem aRk {n:Int} {s:(List Int×Int×Int×Unit)} (h:fZ n s) (hn:n<=3000000000000000000) :
  P39 s/\P40 (aIs s)/\(Tt (aIs s)).size<=190/\fZ (n+8) (aEP s):=by
 obtain ⟨p0,s0,a0,b0⟩:=pk h (by omega) 2 (by omega);obtain ⟨p1,s1,a1,b1⟩:=pk s0 (by omega) 80 (by omega);obtain ⟨p2,s2,a2,b2⟩:=am s1 (by omega) [-150, -101, -100, -20,0,10,11,80,200] (by decide) (by decide);obtain ⟨p3,s3,a3,b3⟩:=am s2 (by omega) [0,40,150,151,300] (by decide) (by decide);have hm:0<=(aV s 2)*(aV (aG s 2) 80)/\(aV s 2)*(aV (aG s 2) 80)<=160:=by
  have c:(aV s 2)=0\/(aV s 2)=1:=by omega
  rcases c with c | c <;> rw [c] <;> omega
 obtain ⟨q,z⟩:=zT (l:=[(aV s 2)*(aV (aG s 2) 80),(j6 (aG (aG s 2) 80) [-150, -101, -100, -20,0,10,11,80,200]),(j6 (mO (aG (aG s 2) 80) [-150, -101, -100, -20,0,10,11,80,200]) [0,40,150,151,300])]) (aZ rfl) (by
  simp only [aR,lR,or_false];rintro x (rfl | rfl | rfl) <;> omega)
 exact ⟨⟨p0,p1,by rw [aK];omega,p2,p3,trivial⟩,⟨q,trivial⟩,cO z (by decide),s3.up (by omega)⟩
theorem aNn {n:Int} {s:(List Int×Int×Int×Unit)} (h:fZ n s) (hn:n<=3000000000000000000) :
  P41 s/\P42 (aIt s)/\(aEQ (aIt s)).size<=190/\fZ (n+6) (aIu s):=by
 obtain ⟨p0,s0,a0,b0⟩:=pk h (by omega) 300 (by omega);obtain ⟨p1,s1,a1,b1⟩:=pk s0 (by omega) 100 (by omega);obtain ⟨p2,s2,a2,b2⟩:=pk s1 (by omega) 20 (by omega);obtain ⟨q,z⟩:=zT (l:=[1000*(1+(aV s 300)),1000+500*(aV (aG s 300) 100),20*(aV (aG (aG s 300) 100) 20)]) (aZ rfl) (by
  simp only [aR,lR,or_false];rintro x (rfl | rfl | rfl) <;> omega)
 exact ⟨⟨p0,by rw [aK];omega,by rw [aK];omega,p1,by rw [aK];omega,by rw [aK];omega,p2,by rw [aK];omega,trivial⟩,⟨q,trivial⟩,cO z (by decide),s2.up (by omega)⟩
theorem aNo {n:Int} {s:(List Int×Int×Int×Unit)} (h:fZ n s) (hn:n<=3000000000000000000) :
  P45 s/\P46 (aIz s)/\(aER (aIz s)).size<=190/\fZ (n+8) (aI0 s):=by
 obtain ⟨p0,s0,a0,b0⟩:=pk h (by omega) 12 (by omega);obtain ⟨p1,s1,a1,b1⟩:=pk s0 (by omega) 20 (by omega);obtain ⟨p2,s2,a2,b2⟩:=pk s1 (by omega) 90 (by omega);obtain ⟨p3,s3,a3,b3⟩:=pk s2 (by omega) 20 (by omega);obtain ⟨q,z⟩:=zT (l:=[1000+500*(aV s 12),5+5*(aV (aG s 12) 20),1000*(aV (aG (aG s 12) 20) 90),20*(aV (aG (aG (aG s 12) 20) 90) 20)]) (aZ rfl) (by
  simp only [aR,lR,or_false];rintro x (rfl | rfl | rfl | rfl) <;> omega)
 exact ⟨⟨p0,by rw [aK];omega,by rw [aK];omega,p1,by rw [aK];omega,by rw [aK];omega,p2,by rw [aK];omega,p3,by rw [aK];omega,trivial⟩,⟨q,trivial⟩,cO z (by decide),s3.up (by omega)⟩
theorem aRl {n:Int} {s:(List Int×Int×Int×Unit)} (h:fZ n s) (hn:n<=3000000000000000000) (w:ByteArray) (hw:w.size<=40) :
  P47 s w/\P48 (aI1 s w)/\(aES (aI1 s w)).size<=190/\fZ (n+6) (aI2 s w):=by
 obtain ⟨p0,s0,a0,b0⟩:=pk h (by omega) 60 (by omega);obtain ⟨p1,s1,a1,b1⟩:=am s0 (by omega) [1,1,2,5,10,40] (by decide) (by decide);obtain ⟨p2,s2,a2,b2⟩:=am s1 (by omega) [1,3,7,30,400] (by decide) (by decide);obtain ⟨q,z⟩:=Tw (l:=[100+50*(aV s 60),(j6 (aG s 60) [1,1,2,5,10,40]),(j6 (mO (aG s 60) [1,1,2,5,10,40]) [1,3,7,30,400])]) hw (aZ rfl) (by
  simp only [aR,lR,or_false];rintro x (rfl | rfl | rfl) <;> omega)
 exact ⟨⟨p0,by rw [aK];omega,by rw [aK];omega,p1,p2,trivial⟩,q,z,s2.up (by omega)⟩
theorem Y8 (x:Int):∀ (k i:Nat) (s:ByteArray),(Br x k i s).size<=s.size+6*k
 | 0,_,s=>by unfold Br;omega
 | k+1,i,s=>by
  unfold Br;have h1:=Y8 x k (i+1) (if VV x i=true then Px s (aET.getD i aC) else s);have hw:=aI6 i;have h2:(if VV x i=true then Px s (aET.getD i aC) else s).size<=s.size+6:=by
   split
   ·unfold Px;have e:(s++aA #[43]).size=s.size+1:=by rw [aS];rfl
    split
    ·rw [aS];omega
    ·rw [aS];omega
   ·omega
  omega
theorem aBE (x:Int):(pQ x).size<=18:=by
 unfold pQ;have:=Y8 x 3 0 (aA #[]);have e:(aA #[]).size=0:=rfl;split
 ·exact aZ rfl
 ·omega
theorem Jt {x:Int} (h : -1000000000<=x/\x<=1000000000):VU x/\(nM x).size<=22:=by
 have:=Js h;unfold VU nM;have e:(aA #[48]).size=1:=rfl;split
 ·exact ⟨⟨by omega,trivial⟩,by rw [aS];omega⟩
 ·exact ⟨trivial,by omega⟩
theorem Py {x:Int} (h:0<=x/\x<=1440):aIy x/\(yC x).size<=45:=by
 unfold aIy yC;split
 ·exact ⟨trivial,aZ rfl⟩
 ·unfold aQR aBD;split
  ·exact ⟨⟨trivial,trivial⟩,aZ rfl⟩
  ·have e1:bM x 60=x / 60:=Int.tdiv_eq_ediv_of_nonneg h.1;have e2:c8 x 60=x % 60:=iC h.1;have ht : -1000000000<=bM x 60/\bM x 60<=1000000000:=by omega
   have hm : -1000000000<=c8 x 60/\c8 x 60<=1000000000:=by omega
   obtain ⟨a1,a2⟩:=Jt ht;obtain ⟨b1,b2⟩:=Jt hm;have e3:(nM (bM x 60)++aA #[58]).size=(nM (bM x 60)).size+1:=by rw [aS];rfl
   unfold aQP aBC;refine ⟨⟨⟨⟨by rw [aK];omega,a1,by omega,by rw [aK];omega,b1,by omega,trivial⟩,trivial⟩,trivial⟩,?_⟩;rw [aS];omega
theorem Pz:∀ (k:Nat) (d y m:Int),0<=d->d<=36524->2000<=y->y+(k:Int)<=3305->1<=m/\m<=12 ->
  (0<=(uF k d y m).1/\(uF k d y m).1<=40000)/\(0<=(uF k d y m).2.1/\(uF k d y m).2.1<=40000)/\(0<=(uF k d y m).2.2/\(uF k d y m).2.2<=40000)
 | 0,d,y,m,h1,h2,h3,h4,h5=>by
  unfold uF;refine ⟨?_,?_,?_⟩ <;> dsimp only <;> omega
 | k+1,d,y,m,h1,h2,h3,h4,h5=>by
  obtain ⟨_,l1,l2⟩:=aPI (y:=y) (m:=m) ⟨h3,by omega⟩ h5;unfold uF;split
  ·rename_i c;split
   ·exact Pz k _ _ _ (by first | omega | (simp only [decide_eq_true_eq] at c;omega)) (by omega) (by omega) (by omega) (by omega)
   ·exact Pz k _ _ _ (by first | omega | (simp only [decide_eq_true_eq] at c;omega)) (by omega) (by omega) (by omega) (by first | omega | (simp only [decide_eq_true_eq,beq_iff_eq] at *;omega))
  ·refine ⟨?_,?_,?_⟩ <;> dsimp only <;> omega
theorem aGs {x:Int} (h:0<=x/\x<=36524):aNj x/\(IX x).size<=67:=by
 obtain ⟨b1,b2,b3⟩:=Pz 1305 x 2000 1 h.1 h.2 (by omega) (by omega) (by omega);have z1:(jN (yE x)).size<=21:=Js (x:=(uF 1305 x 2000 1).1) (by omega);have z2:VU (yF x)/\(nM (yF x)).size<=22:=Jt (x:=(uF 1305 x 2000 1).2.1) (by omega);have z3:VU (IW x)/\(nM (IW x)).size<=22:=Jt (x:=(uF 1305 x 2000 1).2.2) (by omega);have e (o:ByteArray):(o++aA #[45]).size=o.size+1:=by rw [aS];rfl
 have e1:=e (jN (yE x));have e2:(jN (yE x)++aA #[45]++nM (yF x)).size=(jN (yE x)++aA #[45]).size+(nM (yF x)).size:=aS;have e3:=e (jN (yE x)++aA #[45]++nM (yF x));unfold aNj IX;refine ⟨⟨h,by omega,z2.1,by omega,by omega,z3.1,by omega,trivial⟩,?_⟩;rw [aS];omega
theorem aIA {n:Int} {s:(List Int×Int×Int×Unit)} (h:fZ n s) (hn:n<=3000000000000000000) (w:ByteArray) (hw:w.size<=40) :
  P43 s w/\P44 (FR s w)/\(Y4 (FR s w)).size<=190/\fZ (n+4) (aIw s w):=by
 obtain ⟨p0,s0,a0,b0⟩:=pk h (by omega) 40 (by omega);obtain ⟨p1,s1,a1,b1⟩:=pk s0 (by omega) 16 (by omega);obtain ⟨q1,z1⟩:=Py (x:=(FR s w).2.1) (by unfold FR;dsimp only;omega);obtain ⟨q2,z2⟩:=Py (x:=(FR s w).2.2.1) (by
  unfold FR AK
  dsimp only
  split
  ·omega
  ·rename_i c;simp only [decide_eq_true_eq] at c;omega)
 have e0:(FR s w).1=w:=rfl;have e1:=aGr w;have e2:(w++aA #[32]++yC (FR s w).2.1).size=(w++aA #[32]).size+(yC (FR s w).2.1).size:=aS;have e3:=aGr (w++aA #[32]++yC (FR s w).2.1);refine ⟨⟨p0,by rw [aK];omega,p1,by rw [aK];omega,by rw [aK];omega,by rw [aK];omega,trivial⟩,?_,?_,s1.up (by omega)⟩
 ·unfold P44;rw [e0];exact ⟨by omega,q1,by omega,by omega,q2,by omega,trivial⟩
 ·unfold Y4;rw [e0,aS];omega
theorem QA {w:ByteArray} (hw:w.size<=40) (a b:Int) (hb : -1000000000<=b/\b<=1000000000) :
  (w.size+1<=9223372036854775807/\(w++aA #[32]).size+(pQ a).size<=9223372036854775807/\(w++aA #[32]++pQ a).size+1<=9223372036854775807/\(w++aA #[32]++pQ a++aA #[32]).size+(jN b).size<=9223372036854775807/\True) /\
  (w++aA #[32]++pQ a++aA #[32]++jN b).size<=190:=by
 have h1:=aBE a;have h2:=Js hb;have e1:=aGr w;have e2:(w++aA #[32]++pQ a).size=(w++aA #[32]).size+(pQ a).size:=aS;have e3:=aGr (w++aA #[32]++pQ a);exact ⟨⟨by omega,by omega,by omega,by omega,trivial⟩,by rw [aS];omega⟩
theorem aIB {n:Int} {s:(List Int×Int×Int×Unit)} (h:fZ n s) (hn:n<=3000000000000000000) (w:ByteArray) (hw:w.size<=40) :
  P51 s w/\P52 (Tu s w)/\(aEU (Tu s w)).size<=190/\fZ (n+4) (aI5 s w):=by
 obtain ⟨p0,s0,a0,b0⟩:=pk h (by omega) 8 (by omega);obtain ⟨p1,s1,a1,b1⟩:=pk s0 (by omega) 12 (by omega);obtain ⟨q,z⟩:=QA hw (Tu s w).2.1 (Tu s w).2.2.1 (by unfold Tu;dsimp only;omega);exact ⟨⟨p0,p1,by rw [aK];omega,trivial⟩,q,z,s1.up (by omega)⟩
theorem aRm {n:Int} {s:(List Int×Int×Int×Unit)} (h:fZ n s) (hn:n<=3000000000000000000) (w:ByteArray) (hw:w.size<=40) :
  P53 s w/\P54 (Tv s w)/\(aEV (Tv s w)).size<=190/\fZ (n+4) (aI8 s w):=by
 obtain ⟨p0,s0,a0,b0⟩:=am h (by omega) [0,1,2,4,3,5,6] (by decide) (by decide);obtain ⟨p1,s1,a1,b1⟩:=pk s0 (by omega) 12 (by omega);obtain ⟨q,z⟩:=QA hw (Tv s w).2.1 (Tv s w).2.2.1 (by unfold Tv;dsimp only;omega);exact ⟨⟨p0,p1,by rw [aK];omega,by rw [aK];omega,trivial⟩,q,z,s1.up (by omega)⟩
theorem aRn {n:Int} {s:(List Int×Int×Int×Unit)} (h:fZ n s) (hn:n<=3000000000000000000) {a b c:Int} (ha:0<=a/\a<=30000) (hb:0<=b/\b<=1000) (hc:0<=c/\c<=1000) :
  P49 s a b c/\P50 (BU s a b c)/\(Y5 (BU s a b c)).size<=190/\fZ (n+6) (aI3 s a b c):=by
 obtain ⟨p0,s0,a0,b0⟩:=pk h (by omega) 12 (by omega);obtain ⟨p1,s1,a1,b1⟩:=pk s0 (by omega) 9 (by omega);obtain ⟨p2,s2,a2,b2⟩:=pk s1 (by omega) 20 (by omega);obtain ⟨q1,z1⟩:=aGs (x:=(BU s a b c).1) (by unfold BU;dsimp only;omega);have hl:0<=(BU s a b c).2.2.1/\(BU s a b c).2.2.1<=2000:=by
  unfold BU AK
  dsimp only
  split
  ·omega
  ·omega
 have hm:0<=(BU s a b c).2.1/\(BU s a b c).2.1<=2000:=by
  unfold BU
  dsimp only
  omega
 obtain ⟨q2,z2⟩:=zT (l:=[(BU s a b c).2.1,(BU s a b c).2.2.1]) (aZ rfl) (by
  simp only [aR,lR,or_false];rintro x (rfl | rfl) <;> omega)
 have e1:=aGr (IX (BU s a b c).1);refine ⟨⟨p0,by rw [aK];omega,by rw [aK];omega,p1,by rw [aK];omega,p2,by rw [aK];omega,trivial⟩,?_,?_,s2.up (by omega)⟩
 ·unfold P50;exact ⟨q1,by omega,q2,by omega,trivial⟩
 ·unfold Y5;rw [aS];omega
theorem l1 {P1 P2:Prop} {g:ByteArray} {u:(List Int×Int×Int×Unit)} {n m:Int} (a:ByteArray) (h:P1/\P2/\g.size<=190/\fZ n u) (ha:a.size<=10) (hm:n<=m) {k:Nat} (hk:k=a.size) :
  (P1/\P2/\k+g.size<=9223372036854775807/\True)/\fZ m u/\(a++g).size<=200 :=
 ⟨⟨h.1,h.2.1,by have:=h.2.2.1;omega,trivial⟩,h.2.2.2.up hm,by rw [aS];have:=h.2.2.1;omega⟩
theorem l2 {P0 P1 P2:Prop} {g:ByteArray} {u:(List Int×Int×Int×Unit)} {n m:Int} (a:ByteArray) (h0:P0) (h:P1/\P2/\g.size<=190/\fZ n u) (ha:a.size<=10) (hm:n<=m) {k:Nat} (hk:k=a.size) :
  (P0/\P1/\P2/\k+g.size<=9223372036854775807/\True)/\fZ m u/\(a++g).size<=200 :=
 ⟨⟨h0,(l1 a h ha hm hk).1⟩,(l1 a h ha hm hk).2⟩
theorem aGt {n:Int} {s:(List Int×Int×Int×Unit)} (h:fZ n s) (hn:n<=2000000000000000000) :
  P13 s/\fZ (n+42) (Hg s)/\(xU s).size<=200:=by
 obtain ⟨p,s1,_,_⟩:=pk h (by omega) 21 (by omega);have hn1:n+2<=2500000000000000000:=by omega
 have tl:∀ (l:List ByteArray),1<=l.length->(l.all λx=>decide (x.size<=40))=true->(Tr (aG s 21) l/\True)/\fZ (n+42) (fE (aG s 21) l)/\(jQ (aG s 21) l).size<=200:=λl h1 h2=>by
  obtain ⟨a,b,c⟩:=aYo s1 (by omega) l h1 h2;exact ⟨a,b.up (by omega),c⟩
 have tw:=λ(l:List ByteArray) (h1:1<=l.length) (h2:(l.all λx=>decide (x.size<=40))=true)=>tx s1 (by omega) l h1 h2
 suffices H:(_/\fZ (n+42) (Hg s)/\(xU s).size<=200) from ⟨⟨p,H.1⟩,H.2⟩
 unfold Hg xU;refine C3 ?_ (C3 ?_ (C3 ?_ (C3 ?_ (C3 ?_ (C3 ?_ (C3 ?_ (C3 ?_ (C3 ?_ (C3 ?_ (C3 ?_ (C3 ?_ (C3 ?_ (C3 ?_ (C3 ?_ (C3 ?_ (C3 ?_ (C3 ?_ (C3 ?_ (C3 ?_ ?_)))))))))))))))))))
 all_goals first
  | exact tl _ (aZ rfl) (by decide)
  | exact l1 _ (aRj s1 (by omega)) (by decide) (by omega) rfl
  | exact l1 _ (aRk s1 (by omega)) (by decide) (by omega) rfl
  | exact l1 _ (aNn s1 (by omega)) (by decide) (by omega) rfl
  | exact l1 _ (aNo s1 (by omega)) (by decide) (by omega) rfl
  | exact l2 _ (tw _ (aZ rfl) (by decide)).1 (aRi (tw _ (aZ rfl) (by decide)).2.1 (by omega) _ (tw _ (aZ rfl) (by decide)).2.2) (by decide) (by omega) rfl
  | exact l2 _ (tw _ (aZ rfl) (by decide)).1 (aIA (tw _ (aZ rfl) (by decide)).2.1 (by omega) _ (tw _ (aZ rfl) (by decide)).2.2) (by decide) (by omega) rfl
  | exact l2 _ (tw _ (aZ rfl) (by decide)).1 (aRl (tw _ (aZ rfl) (by decide)).2.1 (by omega) _ (tw _ (aZ rfl) (by decide)).2.2) (by decide) (by omega) rfl
  | exact l2 _ (tw _ (aZ rfl) (by decide)).1 (aIB (tw _ (aZ rfl) (by decide)).2.1 (by omega) _ (tw _ (aZ rfl) (by decide)).2.2) (by decide) (by omega) rfl
  | exact l2 _ (tw _ (aZ rfl) (by decide)).1 (aRm (tw _ (aZ rfl) (by decide)).2.1 (by omega) _ (tw _ (aZ rfl) (by decide)).2.2) (by decide) (by omega) rfl
  | skip
 obtain ⟨p2,s2,a2,b2⟩:=pk s1 (by omega) 9 (by omega);obtain ⟨p3,s3,a3,b3⟩:=pk s2 (by omega) 6 (by omega);obtain ⟨p4,s4,a4,b4⟩:=pk s3 (by omega) 20 (by omega);have H:=l1 (m:=n+42) (aA #[116,101,115,116,32]) (aRn s4 (by omega) (a:=8000+40*aV (aG s 21) 9) (b:=3*aV (aG (aG s 21) 9) 6) (c:=aV (aG (aG (aG s 21) 9) 6) 20) (by omega) (by omega) (by omega)) (by decide) (by omega) rfl;exact ⟨⟨p2,by rw [aK];omega,by rw [aK];omega,p3,by rw [aK];omega,p4,H.1⟩,H.2⟩
theorem aIC {n:Int} {s:List Int×Int×Int×Unit} (h:fZ n s) (m:Int) (hn:n<=4611686018427387902) :
  P14 s m/\fZ (n+2) (Jr s m):=by
 obtain ⟨p,s1,_⟩:=Oa h m hn;exact ⟨⟨p,trivial⟩,s1⟩
noncomputable section
noncomputable def d5:dB:=⟨5,Tryz.f5,[.v (.sl (.int .u8))],[.str],[],[(11,S11),(12,S12),(13,S13),(14,S14),(15,S15)],false,[]⟩
theorem o5:FO d5:=mo Tryz.func5 ⟨aX4,AJ,aYm,aYn,aEO,trivial⟩
def bGK (v4:ByteArray) (v5:Int) (h0:List Int×Int×Int×Unit):eD×bG:=([eO 3 0 0 [],eS 4 v4,eI 5 v5],[some (hY.mk Y3 [h0] true none (some false))])
def aYp (v4:ByteArray) (v7:Int) (h0:List Int×Int×Int×Unit):eD×bG:=([eS 4 v4,eI 6 (j6 (Jr h0 20) [60,61]),eI 7 v7],[])
mutual
def R5:Nat->List Int->List aY->Prop
 | 0,_,_=>False
 | n+1,x0,ds=>((Ee (Tq x0) 14)/\(QB n (aA #[]) (aV (Tq x0) 14) (aG (Tq x0) 14) ds))
def QB:Nat->ByteArray->Int->List Int×Int×Int×Unit->List aY->Prop
 | 0,_,_,_,_=>False
 | n+1,v4,v5,h0,ds=>(if (decide (v5>0))=true then ((P13 h0)/\((aH v4+aH (xU h0)<=9223372036854775807)/\(if (decide (v5>1))=true then ((aH (v4++xU h0)+1<=9223372036854775807)/\((cC .i64 (v5 - 1))/\(QB n (v4++xU h0++aA #[10]) (v5 - 1) (Hg h0) ds))) else ((P14 (Hg h0) 5)/\(if (!Y6 (Hg h0) 5)=true then ((aH (v4++xU h0)+1<=9223372036854775807)/\((cC .i64 (v5 - 1))/\(QB n (v4++xU h0++aA #[10]) (v5 - 1) (Jr (Hg h0) 5) ds))) else ((cC .i64 (v5 - 1))/\(QB n (v4++xU h0) (v5 - 1) (Jr (Hg h0) 5) ds))))))) else ((P14 h0 20)/\(if (Y6 h0 20)=true then ((P15 (Jr h0 20) [60,61])/\(Tx n (aA #[]) (0) (h0) ds)) else (ds=[aP .str v4]))))
def Tx:Nat->ByteArray->Int->List Int×Int×Int×Unit->List aY->Prop
 | 0,_,_,_,_=>False
 | n+1,v4,v7,h0,ds=>(if (decide (v7<j6 (Jr h0 20) [60,61]))=true then ((aH v4+8<=9223372036854775807)/\((cC .i64 (v7+1))/\(Tx n (v4++aA #[114,117,110,110,105,110,103,10]) (v7+1) (h0) ds))) else (ds=[aP .str v4]))
end
theorem bGL (ds:List aY) (K:jK) (q:Nat->Value):∀ n,(∀ {x0},R5 n x0 ds->St d5 (x0,()) ds [] K q)/\(∀ {v4 v5 h0},QB n v4 v5 h0 ds->Cu d5 4 (bGK v4 v5 h0) ds [] K q)/\(∀ {v4 v7 h0},Tx n v4 v7 h0 ds->Cu d5 13 (aYp v4 v7 h0) ds [] K q):=by
 intro n
 induction n with
 | zero=>exact ⟨λh=>h.elim,λh=>h.elim,λh=>h.elim⟩
 | succ n ih =>
 obtain ⟨i,i4,i13⟩:=ih;exact ⟨λh=>tv<|c1 h λh=>jp (i4 h),
  λh=>bR h (λh=>c1 h λh=>c1 h λh=>bR h (λh=>tT<|c1 h λh=>c1 h λh=>jp (i4 h)) λh=>c1 h λh=>bR h (λh=>c1 h λh=>c1 h λh=>jp (i4 h)) λh=>c1 h λh=>jp (i4 h)) λh=>c1 h λh=>bR h (λh=>c1 h λh=>jp (i13 h)) λh=>rh h,
  λh=>bR h (λh=>c1 h λh=>c1 h λh=>jp (i13 h)) λh=>rh h⟩
def P5 (x0:List Int):Prop:=True
def Q5 (x0:List Int) (y:ByteArray):Prop:=y.size<=10000/\∃ n,R5 n x0 [⟨.str,y⟩]
open Classical in
noncomputable def aGu (x0:List Int):ByteArray:=if h:∃ p,Q5 x0 p then Classical.choose h else aC
theorem q5 (x0:List Int) (h:∃ p,Q5 x0 p):Q5 x0 (aGu x0):=by
 unfold aGu;rw [dif_pos h];exact Classical.choose_spec h
theorem aYq (h0:(List Int×Int×Int×Unit)) (M:Nat) (hM:j6 (Jr h0 20) [60,61]=(M:Int)) (hM2:M<=61):∀ (k i:Nat) (v:ByteArray),i+k=M->v.size<=8*i ->
  ∃ (n:Nat) (y:ByteArray),y.size<=10000/\Tx n v (i:Int) h0 [⟨.str,y⟩]:=by
 intro k
 induction k with
 | zero =>
  intro i v hi hv;refine ⟨1,v,by omega,?_⟩;rw [Tx,hM,if_neg (by simp only [decide_eq_true_eq];omega)]
 | succ k ih =>
  intro i v hi hv;obtain ⟨n,y,a1,a2⟩:=ih (i+1) (v++aA #[114,117,110,110,105,110,103,10]) (by omega) (by
   rw [aS];show v.size+8<=_;omega)
  refine ⟨n+1,y,a1,?_⟩;rw [Tx,hM,if_pos (by simp only [decide_eq_true_eq];omega)];exact ⟨by omega,by rw [aK];omega,a2⟩
theorem bGM:∀ (k:Nat) (v:ByteArray) (s:(List Int×Int×Int×Unit)) (m:Int),fZ m s->m+50*(k:Int)<=900000000->v.size+201*k<=9000 ->
  ∃ (n:Nat) (y:ByteArray),y.size<=10000/\QB n v (k:Int) s [⟨.str,y⟩]:=by
 intro k
 induction k with
 | zero =>
  intro v s m hs hm hv;obtain ⟨p1,s1⟩:=aIC hs 20 (by omega);obtain ⟨p2,s2,hm2⟩:=Y7 s1 [60,61] (by decide) (by omega);by_cases c:Y6 s 20=true
  ·have hM:∃ j:Nat,j6 (Jr s 20) [60,61]=(j:Int)/\j<=61:=by
    simp only [aR,bZ,or_false] at hm2;rcases hm2 with e | e
    ·exact ⟨60,e,by decide⟩
    ·exact ⟨61,e,by decide⟩
   obtain ⟨j,hj,hj2⟩:=hM;obtain ⟨n,y,a1,a2⟩:=aYq s j hj hj2 j 0 (aA #[]) (cV _) (aT _);refine ⟨n+1,y,a1,?_⟩;rw [QB,if_neg (by simp only [decide_eq_true_eq];omega),if_pos c];exact ⟨p1,p2,a2⟩
  ·refine ⟨1,v,by omega,?_⟩;rw [QB,if_neg (by simp only [decide_eq_true_eq];omega),if_neg c];exact ⟨p1,rfl⟩
 | succ k ih =>
  intro v s m hs hm hv;obtain ⟨p1,s1,z1⟩:=aGt hs (by omega);obtain ⟨p2,s2⟩:=aIC s1 5 (by omega);have e3:((k+1:Nat):Int) - 1=(k:Int):=by omega
  have e1:(v++xU s).size=v.size+(xU s).size:=aS;have e2:(v++xU s++aA #[10]).size=(v++xU s).size+1:=by rw [aS];rfl
  have hi:cC .i64 (k:Int):=by rw [aK];omega
  by_cases c:((k+1:Nat):Int)>1
  ·obtain ⟨n,y,a1,a2⟩:=ih (v++xU s++aA #[10]) _ _ s1 (by omega) (by omega);refine ⟨n+1,y,a1,?_⟩;rw [QB,e3,if_pos (by simp only [decide_eq_true_eq];omega),if_pos (by simp only [decide_eq_true_eq];omega)];exact ⟨p1,by omega,by omega,hi,a2⟩
  ·by_cases d:(!Y6 (Hg s) 5)=true
   ·obtain ⟨n,y,a1,a2⟩:=ih (v++xU s++aA #[10]) _ _ s2 (by omega) (by omega);refine ⟨n+1,y,a1,?_⟩;rw [QB,e3,if_pos (by simp only [decide_eq_true_eq];omega),if_neg (by simp only [decide_eq_true_eq];omega),if_pos d];exact ⟨p1,by omega,p2,by omega,hi,a2⟩
   ·obtain ⟨n,y,a1,a2⟩:=ih (v++xU s) _ _ s2 (by omega) (by omega);refine ⟨n+1,y,a1,?_⟩;rw [QB,e3,if_pos (by simp only [decide_eq_true_eq];omega),if_neg (by simp only [decide_eq_true_eq];omega),if_neg d];exact ⟨p1,by omega,p2,hi,a2⟩
theorem ex5 (x0:List Int) (hw:Wf (.sl (.int .u8)) x0):∃ p,Q5 x0 p:=by
 have h0:fZ 0 (Tq x0):=aGq hw;obtain ⟨p1,s1,a,b⟩:=pk h0 (by decide) 14 (by decide);obtain ⟨j,hj⟩:∃ j:Nat,aV (Tq x0) 14=(j:Int):=⟨_,(Int.toNat_of_nonneg a).symm⟩;obtain ⟨n,p,a1,a2⟩:=bGM j (aA #[]) _ _ s1 (by omega) (by show 0+201*j<=9000;omega);exact ⟨p,a1,n+1,by rw [R5,hj];exact ⟨p1,a2⟩⟩
def S5:=dR d5 (λ⟨x0,_⟩=>P5 x0) λ⟨x0,_⟩=>[⟨.str,aGu x0⟩]
theorem bGN:c7 5 S5:=dF o5 (λ⟨x0,_⟩ h hwf K q =>
 let ⟨n,hn⟩:=(q5 x0 (ex5 x0 hwf.1)).2
 (bGL _ K q n).1 hn)
end
open Go.RowKit
theorem aPJ:∃ j,aL.info? 62=some j/\j.size=2:=by
 have h:(aL.info? 62).map (·.size)=some 2:=by kernel_rfl
 obtain ⟨j,hj,hjs⟩:=Option.map_eq_some_iff.1 h;exact ⟨j,hj,hjs⟩
set_option maxHeartbeats 1000000 in
theorem aID (b:Nat) (w:World) (h0:w.cell? ⟨b,0,none⟩=some (.pointer (some ⟨b,0,none⟩))) :
  Calls aL 56 #[.pointer (some ⟨b,0,none⟩)] w λe w'=>e = .returned (.tuple #[])/\w'=w:=by
 obtain ⟨j,hj,_⟩:=aPJ;have mixed:=mixed
 go_enter GL,Wd
 go_wp2
 rw [Lib.run_neq_ptr_same w _ kS hj]
 go_wp2
 go_end0
 exact ⟨rfl,rfl⟩
set_option maxHeartbeats 1000000 in
theorem aGv (b:Nat) (w:World) (h0:w.cell? ⟨b,0,none⟩=some (.pointer none)) (hsh:w.shape? b=some (62,2)) (hfz:w.frozen? ⟨b,0,none⟩=false) :
  Calls aL 56 #[.pointer (some ⟨b,0,none⟩)] w λe w'=>e = .returned (.tuple #[])/\w'=w.setCell ⟨b,0,none⟩ (.pointer (some ⟨b,0,none⟩)):=by
 obtain ⟨j,hj,hjs⟩:=aPJ;have mixed:=mixed;have t70:=kS;have t164:=pC
 go_enter GL,Wd
 go_wp2
 rw [Lib.run_to_unsafe w ⟨b,0,none⟩ kS pC hj (by rw [hjs];decide) hsh (Nat.zero_lt_succ 1)];simp only [Result.andThen];rw [E7]
 go_wp2
 rw [run_callFunc_extern LD (by kernel_rfl) (by kernel_rfl) (by kernel_rfl) (e:=Extern.AbiNoEscape.same) (by kernel_rfl)];rw [Lib.run_noEscape];simp only [Result.andThen];rw [E7]
 go_wp2
 rw [Lib.run_from_unsafe w ⟨b,0,none⟩ pC kS hj hsh (by kernel_rfl)];simp only [Result.andThen];rw [E7]
 go_wp2
 go_end0
 exact ⟨rfl,rfl⟩
end Go.Proofs.YtmhpnodnljbnjaaGreatDoor
set_option maxRecDepth 100000
namespace Go.Proofs
open Go.Shelf
def Tryz.lays169_ren:Go.Shelf.Ren:=⟨fun | 169=>18 | n=>n,fun | 70=>60 | 9=>9 | 0=>0 | 72=>62 | 37=>22 | 127=>138 | 3=>3 | 5=>5 | n=>n,fun | n=>n⟩
theorem Tryz.lays169:Go.Proofs.Lays.n169 aL Tryz.lays169_ren:={
 mixed:=by kernel_rfl
 f169:=Nq.trans (congrArg some (by kernel_rfl))
 t0:=lS
 a0:=uJ
 z0:=rL
 v0:=mU
 t3:=eG
 a3:=nC
 z3:=lG
 v3:=iX
 t9:=fN
 a9:=nD
 z9:=lH
 v9:=iY
 t37:=nE
 a37:=zG
 z37:=xJ
 v37:=rM
 t70:=kS
 a70:=LF
 z70:=Ho
 v70:=Co
 t72:=Bc
 a72:=LG
 z72:=Hp
 v72:=Cp
 t127:=tY
 a127:=CI
 z127:=Au
 v127:=vB }
theorem Tryz.Builder_Extra_169:Builder.Extra aL Tryz.lays169_ren:={
 sizeBuilder:=by kernel_rfl
 liesBuilder:=by kernel_rfl
 t5:=jI
 a5:=oM
 z5:=nF
 v5:=j9
 infoByte:=by kernel_rfl
 cellsByte:=by kernel_rfl
 sizeByte:=by kernel_rfl
 neB5:=by decide }
def Tryz.lays156_ren:Go.Shelf.Ren:=⟨fun | 156=>195 | 165=>274 | 166=>17 | 169=>18 | 240=>56 | 241=>344 | 276=>106 | 277=>390 | n=>n,fun | 31=>46 | 9=>9 | 3=>3 | 4=>4 | 0=>0 | 20=>20 | 72=>62 | 76=>65 | 70=>60 | 37=>22 | 75=>64 | 127=>138 | 164=>181 | 5=>5 | 80=>67 | n=>n,fun | n=>n⟩
theorem Tryz.lays156:Go.Proofs.Lays.n156 aL Tryz.lays156_ren:={
 mixed:=by kernel_rfl
 f156:=We.trans (congrArg some (by kernel_rfl))
 f165:=Wg.trans (congrArg some (by kernel_rfl))
 f166:=Nr.trans (congrArg some (by kernel_rfl))
 f169:=Nq.trans (congrArg some (by kernel_rfl))
 f240:=GL.trans (congrArg some (by kernel_rfl))
 f241:=Wh.trans (congrArg some (by kernel_rfl))
 f276:=LD.trans (congrArg some (by kernel_rfl))
 f277:=Wi.trans (congrArg some (by kernel_rfl))
 t0:=lS
 a0:=uJ
 z0:=rL
 v0:=mU
 t3:=eG
 a3:=nC
 z3:=lG
 v3:=iX
 t4:=iI
 a4:=oN
 z4:=nG
 v4:=kC
 t9:=fN
 a9:=nD
 z9:=lH
 v9:=iY
 t20:=vC
 a20:=EE
 z20:=CJ
 v20:=wZ
 t31:=nH
 a31:=Wj
 z31:=So
 v31:=NB
 t37:=nE
 a37:=zG
 z37:=xJ
 v37:=rM
 t70:=kS
 a70:=LF
 z70:=Ho
 v70:=Co
 t72:=Bc
 a72:=LG
 z72:=Hp
 v72:=Cp
 t75:=pY
 a75:=LH
 z75:=Hq
 v75:=Cq
 t76:=LI
 a76:=Wk
 z76:=Sp
 v76:=NC
 t127:=tY
 a127:=CI
 z127:=Au
 v127:=vB
 t164:=pC
 a164:=Sq
 z164:=Rw
 v164:=LJ }
theorem Tryz.Builder_Extra_156:Builder.Extra aL Tryz.lays156_ren:={
 sizeBuilder:=by kernel_rfl
 liesBuilder:=by kernel_rfl
 t5:=jI
 a5:=oM
 z5:=nF
 v5:=j9
 infoByte:=by kernel_rfl
 cellsByte:=by kernel_rfl
 sizeByte:=by kernel_rfl
 neB5:=by decide }
open Go.RowKit in theorem Tryz.strings_Join_none (a : Option Addr) (c : Nat) (sep : ByteArray) (w : World) :
    Calls aL 195 #[.slice a 0 c, .string sep] w λe w' => e = .returned (.string ⟨#[]⟩) /\ w' = w := Any.strings_Join_none Tryz.lays156 Tryz.Builder_Extra_156 a c sep w
open Go.RowKit in theorem Tryz.strings_Join (bk o c : Nat) (xs : List ByteArray) (sep : ByteArray) (w : World) (hcells : ∀ (j : Nat) x, xs[j]? = some x -> w.cell? ⟨bk, o + j, none⟩ = some (.string x)) (hbk : bk < w.heap.size) (hN : xs.length <= 140737488355328) (hcap : xs.length <= c) (hlen : (Lib.join (xs.map (·.data.toList)) sep.data.toList).length <= 140737488355328) :
    Calls aL 195 #[.slice (some ⟨bk, o, none⟩) xs.length c, .string sep] w λe w' => e = .returned (.string ⟨(Av (xs.map (·.data.toList)) sep.data.toList).toArray⟩) /\ Below w.heap.size w w' := Any.strings_Join Tryz.lays156 Tryz.Builder_Extra_156 bk o c xs sep w hcells hbk hN hcap hlen
def Tryz.lays162_ren:Go.Shelf.Ren:=⟨fun | 162=>326 | 232=>379 | 227=>380 | 234=>381 | 236=>382 | 228=>403 | 271=>404 | 151=>405 | 120=>410 | 197=>260 | 152=>411 | 260=>332 | 137=>413 | 119=>414 | 224=>264 | 225=>263 | 217=>262 | 266=>333 | n=>n,fun | 9=>9 | 4=>4 | 3=>3 | 5=>5 | 117=>398 | 116=>397 | 0=>0 | 124=>401 | 21=>21 | 105=>321 | 46=>177 | 119=>402 | 139=>405 | 138=>404 | n=>n,fun | 3=>3 | 4=>4 | n=>n⟩
theorem Tryz.lays162:Go.Proofs.Lays.n162 aL Tryz.lays162_ren:={
 mixed:=by kernel_rfl
 f119:=Tryz.func414.trans (congrArg some (by kernel_rfl))
 f120:=Tryz.func410.trans (congrArg some (by kernel_rfl))
 f137:=Tryz.func413.trans (congrArg some (by kernel_rfl))
 f151:=Tryz.func405.trans (congrArg some (by kernel_rfl))
 f152:=Tryz.func411.trans (congrArg some (by kernel_rfl))
 f162:=Tryz.func326.trans (congrArg some (by kernel_rfl))
 f197:=Wn.trans (congrArg some (by kernel_rfl))
 f217:=LK.trans (congrArg some (by kernel_rfl))
 f224:=LL.trans (congrArg some (by kernel_rfl))
 f225:=LM.trans (congrArg some (by kernel_rfl))
 f227:=Tryz.func380.trans (congrArg some (by kernel_rfl))
 f228:=Tryz.func403.trans (congrArg some (by kernel_rfl))
 f232:=Tryz.func379.trans (congrArg some (by kernel_rfl))
 f234:=Tryz.func381.trans (congrArg some (by kernel_rfl))
 f236:=Tryz.func382.trans (congrArg some (by kernel_rfl))
 f260:=Wo.trans (congrArg some (by kernel_rfl))
 f266:=LN.trans (congrArg some (by kernel_rfl))
 f271:=Tryz.func404.trans (congrArg some (by kernel_rfl))
 t0:=lS
 a0:=uJ
 z0:=rL
 v0:=mU
 t3:=eG
 a3:=nC
 z3:=lG
 v3:=iX
 t4:=iI
 a4:=oN
 z4:=nG
 v4:=kC
 t5:=jI
 a5:=oM
 z5:=nF
 v5:=j9
 t9:=fN
 a9:=nD
 z9:=lH
 v9:=iY
 t21:=Bd
 a21:=LO
 z21:=Hr
 v21:=Cr
 t46:=mL
 a46:=sP
 z46:=rB
 v46:=nI
 t105:=JM
 a105:=Sr
 z105:=Rx
 v105:=LP
 t116:=Tryz.underlying397
 a116:=Tryz.isAgg397
 z116:=Tryz.sizeOf397
 t117:=Tryz.underlying398
 a117:=Tryz.isAgg398
 z117:=Tryz.sizeOf398
 v117:=Tryz.zeroValue398
 t119:=JN
 a119:=Ss
 z119:=Ry
 t124:=Tryz.underlying401
 a124:=Tryz.isAgg401
 z124:=Tryz.sizeOf401
 v124:=Tryz.zeroValue401
 t138:=JO
 a138:=Su
 z138:=Rz
 v138:=LQ
 t139:=JP
 a139:=Sv
 z139:=SA
 v139:=LR
 g3:=by kernel_rfl
 g4:=by kernel_rfl }
open Go.RowKit in theorem Tryz.strings_TrimRight_one (s : ByteArray) (c : UInt8) (hc : c.toNat < 128) (w : World) (hs : s.size <= 9223372036854775807) :
    Calls aL 326 #[.string s, .string ⟨#[c]⟩] w λe w' => e = .returned (.string ⟨(Lib.trimRightB s.data.toList c).toArray⟩) /\ w' = w := Any.strings_TrimRight_one Tryz.lays162 s c hc w hs
open Go.RowKit in theorem Tryz.Builder_String_any_k (B b : Nat) (l : List UInt8) (w : World) (h : Lib.IsBuilderF 62 5 B b (Lib.byteCells l) w) (hBw : B <= w.heap.size) :
    Calls aL 18 #[.pointer (some ⟨b, 0, none⟩)] w λe w' => e = .returned (.string ⟨l.toArray⟩) /\ (vE 62 5 B b (Hs l) w' /\ Below B w w' /\ Lib.OthersKept 5 (some b) w w') := Any.Builder_String_any_k Tryz.lays169 Tryz.Builder_Extra_169 B b l w h hBw
def Tryz.laysM173_ren:Go.Shelf.Ren:=⟨fun | 173=>191 | 246=>272 | 283=>340 | 284=>341 | 285=>342 | 286=>343 | 129=>386 | 317=>385 | 318=>387 | 319=>388 | 320=>389 | 337=>408 | 338=>409 | n=>n,fun | 2=>2 | 3=>3 | 9=>9 | 4=>4 | 171=>377 | 0=>0 | 53=>102 | 37=>22 | 5=>5 | 173=>380 | 212=>410 | 51=>369 | 20=>20 | 213=>411 | 46=>177 | 232=>431 | 233=>432 | n=>n,fun | 17=>5 | 18=>6 | 19=>7 | n=>n⟩
theorem Tryz.laysM173:Go.Proofs.LaysM.n173 aL Tryz.laysM173_ren:={
 mixed:=by kernel_rfl
 f129:=Wp.trans (congrArg some (by kernel_rfl))
 f173:=Wq.trans (congrArg some (by kernel_rfl))
 f246:=Wr.trans (congrArg some (by kernel_rfl))
 f283:=Ws.trans (congrArg some (by kernel_rfl))
 f284:=Wt.trans (congrArg some (by kernel_rfl))
 f285:=Wu.trans (congrArg some (by kernel_rfl))
 f286:=Wv.trans (congrArg some (by kernel_rfl))
 f317:=Ww.trans (congrArg some (by kernel_rfl))
 f318:=Wx.trans (congrArg some (by kernel_rfl))
 f319:=Wy.trans (congrArg some (by kernel_rfl))
 f320:=Wz.trans (congrArg some (by kernel_rfl))
 f337:=XA.trans (congrArg some (by kernel_rfl))
 f338:=XB.trans (congrArg some (by kernel_rfl))
 t0:=lS
 a0:=uJ
 z0:=rL
 v0:=mU
 t2:=ND
 a2:=aAQ
 z2:=XC
 v2:=OV
 t3:=eG
 a3:=nC
 z3:=lG
 v3:=iX
 t4:=iI
 a4:=oN
 z4:=nG
 v4:=kC
 t5:=jI
 a5:=oM
 z5:=nF
 v5:=j9
 t9:=fN
 a9:=nD
 z9:=lH
 v9:=iY
 t20:=vC
 a20:=EE
 z20:=CJ
 v20:=wZ
 t37:=nE
 a37:=zG
 z37:=xJ
 v37:=rM
 t46:=mL
 a46:=sP
 z46:=rB
 v46:=nI
 t51:=pD
 a51:=xK
 z51:=vF
 v51:=pZ
 t53:=tZ
 a53:=Ht
 z53:=GM
 v53:=Be
 t171:=JQ
 a171:=Sw
 z171:=SB
 v171:=LS
 t173:=JR
 a173:=Sx
 z173:=SD
 v173:=LU
 t212:=Aw
 a212:=Sy
 z212:=SE
 v212:=LV
 t213:=JS
 a213:=Sz
 z213:=SF
 t232:=JT
 a232:=TA
 z232:=SG
 v232:=LW
 t233:=JU
 a233:=TB
 z233:=SH
 v233:=LX
 g17:=by kernel_rfl
 g18:=by kernel_rfl
 g19:=by kernel_rfl
 i0:=by kernel_rfl
 i2:=by kernel_rfl
 i3:=by kernel_rfl
 i4:=by kernel_rfl
 i5:=by kernel_rfl
 i9:=by kernel_rfl
 i20:=by kernel_rfl
 i37:=by kernel_rfl
 i46:=by kernel_rfl
 i51:=by kernel_rfl
 i53:=by kernel_rfl
 i171:=by kernel_rfl
 i173:=by kernel_rfl
 i212:=by kernel_rfl
 i232:=by kernel_rfl
 i233:=by kernel_rfl
 m17:=by kernel_rfl
 m18:=by kernel_rfl
 m19:=by kernel_rfl }
open Go.RowKit Go.Sort Go.Lib in theorem Tryz.strconv_FormatInt_10 (n : Int) (h0 : -9223372036854775808 <= n) (h1 : n <= 9223372036854775807) (w : World) (htab : Lib.TabIs Tryz.prog w "internal/strconv.uint64pow10" .u64 Lib.pow10Tab) :
    Calls aL 191 #[.int .i64 n, .int .i64 10] w λe w' => e = .returned (.string ⟨(Ck n).toArray⟩) /\ ∃ k os, w' = grow (w.drewN k) os := Any.strconv_FormatInt_10 Tryz.laysM173 n h0 h1 w htab
def Tryz.laysC174_ren:Go.Shelf.Ren:=⟨fun | 174=>125 | 247=>189 | 245=>190 | 287=>267 | 279=>268 | 280=>269 | 281=>270 | 282=>271 | 321=>335 | 322=>336 | 316=>337 | 171=>339 | 205=>338 | 243=>384 | 246=>272 | 283=>340 | 284=>341 | 285=>342 | 286=>343 | 129=>386 | 317=>385 | 318=>387 | 319=>388 | 320=>389 | 337=>408 | 338=>409 | n=>n,fun | 9=>9 | 3=>3 | 2=>2 | 75=>64 | 85=>196 | 4=>4 | 167=>326 | 5=>5 | 53=>102 | 175=>327 | 46=>177 | 168=>329 | 37=>22 | 0=>0 | 210=>374 | 21=>21 | 127=>138 | 145=>408 | 143=>406 | 171=>377 | 173=>380 | 212=>410 | 51=>369 | 20=>20 | 213=>411 | 232=>431 | 233=>432 | 80=>67 | n=>n,fun | 15=>1 | 16=>2 | 17=>5 | 18=>6 | 19=>7 | n=>n⟩
theorem Tryz.laysC174:Go.Proofs.LaysC.n174 aL Tryz.laysC174_ren:={
 mixed:=by kernel_rfl
 f129:=Wp.trans (congrArg some (by kernel_rfl))
 f171:=Tryz.func339.trans (congrArg some (by kernel_rfl))
 f174:=Tryz.func125.trans (congrArg some (by kernel_rfl))
 f205:=Tryz.func338.trans (congrArg some (by kernel_rfl))
 f243:=Tryz.func384.trans (congrArg some (by kernel_rfl))
 f245:=Tryz.func190.trans (congrArg some (by kernel_rfl))
 f246:=Wr.trans (congrArg some (by kernel_rfl))
 f247:=Tryz.func189.trans (congrArg some (by kernel_rfl))
 f279:=Tryz.func268.trans (congrArg some (by kernel_rfl))
 f280:=Tryz.func269.trans (congrArg some (by kernel_rfl))
 f281:=Tryz.func270.trans (congrArg some (by kernel_rfl))
 f282:=Tryz.func271.trans (congrArg some (by kernel_rfl))
 f283:=Ws.trans (congrArg some (by kernel_rfl))
 f284:=Wt.trans (congrArg some (by kernel_rfl))
 f285:=Wu.trans (congrArg some (by kernel_rfl))
 f286:=Wv.trans (congrArg some (by kernel_rfl))
 f287:=Tryz.func267.trans (congrArg some (by kernel_rfl))
 f316:=Tryz.func337.trans (congrArg some (by kernel_rfl))
 f317:=Ww.trans (congrArg some (by kernel_rfl))
 f318:=Wx.trans (congrArg some (by kernel_rfl))
 f319:=Wy.trans (congrArg some (by kernel_rfl))
 f320:=Wz.trans (congrArg some (by kernel_rfl))
 f321:=Tryz.func335.trans (congrArg some (by kernel_rfl))
 f322:=Tryz.func336.trans (congrArg some (by kernel_rfl))
 f337:=XA.trans (congrArg some (by kernel_rfl))
 f338:=XB.trans (congrArg some (by kernel_rfl))
 t0:=lS
 a0:=uJ
 z0:=rL
 v0:=mU
 t2:=ND
 a2:=aAQ
 z2:=XC
 v2:=OV
 t3:=eG
 a3:=nC
 z3:=lG
 v3:=iX
 t4:=iI
 a4:=oN
 z4:=nG
 v4:=kC
 t5:=jI
 a5:=oM
 z5:=nF
 v5:=j9
 t9:=fN
 a9:=nD
 z9:=lH
 v9:=iY
 t20:=vC
 a20:=EE
 z20:=CJ
 v20:=wZ
 t21:=Bd
 a21:=LO
 z21:=Hr
 v21:=Cr
 t37:=nE
 a37:=zG
 z37:=xJ
 v37:=rM
 t46:=mL
 a46:=sP
 z46:=rB
 v46:=nI
 t51:=pD
 a51:=xK
 z51:=vF
 v51:=pZ
 t53:=tZ
 a53:=Ht
 z53:=GM
 v53:=Be
 t75:=pY
 a75:=LH
 z75:=Hq
 v75:=Cq
 t85:=Tryz.underlying196
 a85:=Tryz.isAgg196
 z85:=Tryz.sizeOf196
 v85:=Tryz.zeroValue196
 t127:=tY
 a127:=CI
 z127:=Au
 v127:=vB
 t143:=Tryz.underlying406
 a143:=Tryz.isAgg406
 z143:=Tryz.sizeOf406
 v143:=Tryz.zeroValue406
 t145:=Tryz.underlying408
 a145:=Tryz.isAgg408
 z145:=Tryz.sizeOf408
 v145:=Tryz.zeroValue408
 t167:=Tryz.underlying326
 a167:=Tryz.isAgg326
 z167:=Tryz.sizeOf326
 v167:=Tryz.zeroValue326
 t168:=Tryz.underlying329
 a168:=Tryz.isAgg329
 z168:=Tryz.sizeOf329
 v168:=Tryz.zeroValue329
 t171:=JQ
 a171:=Sw
 z171:=SB
 v171:=LS
 t173:=JR
 a173:=Sx
 z173:=SD
 v173:=LU
 t175:=Tryz.underlying327
 a175:=Tryz.isAgg327
 z175:=Tryz.sizeOf327
 v175:=Tryz.zeroValue327
 t210:=Tryz.underlying374
 a210:=Tryz.isAgg374
 z210:=Tryz.sizeOf374
 v210:=Tryz.zeroValue374
 t212:=Aw
 a212:=Sy
 z212:=SE
 v212:=LV
 t213:=JS
 a213:=Sz
 z213:=SF
 t232:=JT
 a232:=TA
 z232:=SG
 v232:=LW
 t233:=JU
 a233:=TB
 z233:=SH
 v233:=LX
 g15:=by kernel_rfl
 g16:=by kernel_rfl
 g17:=by kernel_rfl
 g18:=by kernel_rfl
 g19:=by kernel_rfl
 t80:=Tryz.underlying67
 a80:=Tryz.isAgg67
 z80:=Tryz.sizeOf67
 v80:=Tryz.zeroValue67
 i0:=by kernel_rfl
 i2:=by kernel_rfl
 i3:=by kernel_rfl
 i4:=by kernel_rfl
 i5:=by kernel_rfl
 i9:=by kernel_rfl
 i20:=by kernel_rfl
 i21:=by kernel_rfl
 i37:=by kernel_rfl
 i46:=by kernel_rfl
 i51:=by kernel_rfl
 i53:=by kernel_rfl
 i75:=by kernel_rfl
 i80:=by kernel_rfl
 i85:=by kernel_rfl
 i127:=by kernel_rfl
 i143:=by kernel_rfl
 i145:=by kernel_rfl
 i167:=by kernel_rfl
 i168:=by kernel_rfl
 i171:=by kernel_rfl
 i173:=by kernel_rfl
 i175:=by kernel_rfl
 i210:=by kernel_rfl
 i212:=by kernel_rfl
 i232:=by kernel_rfl
 i233:=by kernel_rfl
 m15:=by kernel_rfl
 m16:=by kernel_rfl
 m17:=by kernel_rfl
 m18:=by kernel_rfl
 m19:=by kernel_rfl
 c0:=by kernel_rfl
 c2:=by kernel_rfl
 c3:=by kernel_rfl
 c4:=by kernel_rfl
 c5:=by kernel_rfl
 c9:=by kernel_rfl
 c20:=by kernel_rfl
 c21:=by kernel_rfl
 c37:=by kernel_rfl
 c46:=by kernel_rfl
 c51:=by kernel_rfl
 c53:=by kernel_rfl
 c75:=by kernel_rfl
 c80:=by kernel_rfl
 c85:=by kernel_rfl
 c127:=by kernel_rfl
 c143:=by kernel_rfl
 c145:=by kernel_rfl
 c167:=by kernel_rfl
 c168:=by kernel_rfl
 c171:=by kernel_rfl
 c173:=by kernel_rfl
 c175:=by kernel_rfl
 c210:=by kernel_rfl
 c212:=by kernel_rfl
 c213:=by kernel_rfl
 c232:=by kernel_rfl
 c233:=by kernel_rfl }
open Go.RowKit in theorem Tryz.strconv_ParseInt_10_at64_ok (s : ByteArray) (hmax : s.size <= 9223372036854775806) (v : Int) (h : Lib.parseIntB 64 s.data.toList = .ok v) (w : World) :
    Calls aL 125 #[.string s, .int .i64 10, .int .i64 64] w λe w' => e = .returned (.tuple #[.int .i64 v, .nilIface]) /\ (w' = w \/ ∃ t, w' = Lib.bytesWorld w 5 t) := Any.strconv_ParseInt_10_at64_ok Tryz.laysC174 s hmax v h w
open Go.RowKit in theorem Tryz.strconv_ParseInt_10_at64_syntax (s : ByteArray) (hlim : s.size <= 281474976710656) (h : Lib.parseIntB 64 s.data.toList = .syntax) (ev : Value) (w : World) (hv : w.cell? ⟨1, 0, none⟩ = some ev) (hev : ev = .nilIface \/ ∃ te pe, ev = .iface te pe) :
    Calls aL 125 #[.string s, .int .i64 10, .int .i64 64] w λe w' => ∃ N, e = .returned (.tuple #[.int .i64 (0), .iface 329 (.pointer (some ⟨N, 0, none⟩))]) /\ w.heap.size <= N /\ w'.heap[N]? = some (.cells #[.string ⟨#[80, 97, 114, 115, 101, 73, 110, 116]⟩, .string s, ev] 374 (0, 0)) /\ Below w.heap.size w w' := Any.strconv_ParseInt_10_at64_syntax Tryz.laysC174 s hlim h ev w hv hev
open Go.RowKit in theorem Tryz.strconv_ParseInt_10_at64_range (s : ByteArray) (hlim : s.size <= 281474976710656) (h : Lib.parseIntB 64 s.data.toList = .range) (ev : Value) (w : World) (hv : w.cell? ⟨2, 0, none⟩ = some ev) (hev : ev = .nilIface \/ ∃ te pe, ev = .iface te pe) :
    Calls aL 125 #[.string s, .int .i64 10, .int .i64 64] w λe w' => ∃ N, e = .returned (.tuple #[.int .i64 (Lib.intSat 64 s.data.toList), .iface 329 (.pointer (some ⟨N, 0, none⟩))]) /\ w.heap.size <= N /\ w'.heap[N]? = some (.cells #[.string ⟨#[80, 97, 114, 115, 101, 73, 110, 116]⟩, .string s, ev] 374 (0, 0)) /\ Below w.heap.size w w' := Any.strconv_ParseInt_10_at64_range Tryz.laysC174 s hlim h ev w hv hev
def Tryz.lays145_ren:Go.Shelf.Ren:=⟨fun | 145=>72 | 220=>123 | 219=>187 | 217=>262 | 225=>263 | 224=>264 | 267=>265 | 266=>333 | 314=>334 | n=>n,fun | 9=>9 | 4=>4 | 59=>154 | 3=>3 | 5=>5 | 46=>177 | 146=>370 | 51=>369 | n=>n,fun | 1=>0 | n=>n⟩
theorem Tryz.lays145:Go.Proofs.Lays.n145 aL Tryz.lays145_ren:={
 mixed:=by kernel_rfl
 f145:=aAR.trans (congrArg some (by kernel_rfl))
 f217:=LK.trans (congrArg some (by kernel_rfl))
 f219:=XD.trans (congrArg some (by kernel_rfl))
 f220:=Tryz.func123.trans (congrArg some (by kernel_rfl))
 f224:=LL.trans (congrArg some (by kernel_rfl))
 f225:=LM.trans (congrArg some (by kernel_rfl))
 f266:=LN.trans (congrArg some (by kernel_rfl))
 f267:=XE.trans (congrArg some (by kernel_rfl))
 f314:=XF.trans (congrArg some (by kernel_rfl))
 t3:=eG
 a3:=nC
 z3:=lG
 v3:=iX
 t4:=iI
 a4:=oN
 z4:=nG
 v4:=kC
 t5:=jI
 a5:=oM
 z5:=nF
 v5:=j9
 t9:=fN
 a9:=nD
 z9:=lH
 v9:=iY
 t46:=mL
 a46:=sP
 z46:=rB
 v46:=nI
 t51:=pD
 a51:=xK
 z51:=vF
 v51:=pZ
 t59:=Tryz.underlying154
 a59:=Tryz.isAgg154
 z59:=Tryz.sizeOf154
 v59:=Tryz.zeroValue154
 t146:=Az
 a146:=Hv
 z146:=GP
 v146:=Bf
 g1:=by kernel_rfl }
open Go.RowKit Go.Lib in theorem Tryz.strings_Cut (s sep : ByteArray) (m : Int) (w : World) (hs : s.size < 4294967281) (hm : w.cell? ⟨0, 0, none⟩ = some (.int .i64 m)) :
    Calls aL 72 #[.string s, .string sep] w λe w' => e = .returned (.tuple #[.string ⟨(xL s.data.toList sep.data.toList).1.toArray⟩, .string ⟨(xL s.data.toList sep.data.toList).2.1.toArray⟩, .bool (xL s.data.toList sep.data.toList).2.2]) /\ ∃ n, w' = w.drewN n := Any.strings_Cut Tryz.lays145 s sep m w hs hm
def Tryz.lays99_ren:Go.Shelf.Ren:=⟨fun | 99=>372 | 206=>266 | n=>n,fun | 9=>9 | 4=>4 | 3=>3 | n=>n,fun | n=>n⟩
theorem Tryz.lays99:Go.Proofs.Lays.n99 aL Tryz.lays99_ren:={
 mixed:=by kernel_rfl
 f99:=XG.trans (congrArg some (by kernel_rfl))
 f206:=LY.trans (congrArg some (by kernel_rfl))
 t3:=eG
 a3:=nC
 z3:=lG
 v3:=iX
 t4:=iI
 a4:=oN
 z4:=nG
 v4:=kC
 t9:=fN
 a9:=nD
 z9:=lH
 v9:=iY }
open Go.RowKit Go.Lib in theorem Tryz.strings_HasPrefix (s p : ByteArray) (w : World) :
    Calls aL 372 #[.string s, .string p] w λe w' => e = .returned (.bool (Lib.hasPrefix s.data.toList p.data.toList)) /\ w' = w := Any.strings_HasPrefix Tryz.lays99 s p w
def Tryz.lays101_ren:Go.Shelf.Ren:=⟨fun | 101=>124 | 208=>188 | 206=>266 | n=>n,fun | 9=>9 | 4=>4 | 3=>3 | n=>n,fun | n=>n⟩
theorem Tryz.lays101:Go.Proofs.Lays.n101 aL Tryz.lays101_ren:={
 mixed:=by kernel_rfl
 f101:=Tryz.func124.trans (congrArg some (by kernel_rfl))
 f206:=LY.trans (congrArg some (by kernel_rfl))
 f208:=Tryz.func188.trans (congrArg some (by kernel_rfl))
 t3:=eG
 a3:=nC
 z3:=lG
 v3:=iX
 t4:=iI
 a4:=oN
 z4:=nG
 v4:=kC
 t9:=fN
 a9:=nD
 z9:=lH
 v9:=iY }
open Go.RowKit Go.Lib in theorem Tryz.strings_TrimPrefix (s p : ByteArray) (w : World) :
    Calls aL 124 #[.string s, .string p] w λe w' => e = .returned (.string ⟨(SJ s.data.toList p.data.toList).toArray⟩) /\ w' = w := Any.strings_TrimPrefix Tryz.lays101 s p w
def Tryz.lays146_ren:Go.Shelf.Ren:=⟨fun | 146=>55 | 221=>105 | 268=>174 | 138=>175 | 143=>176 | 195=>259 | 197=>260 | 218=>261 | 219=>187 | 260=>332 | 217=>262 | 225=>263 | 224=>264 | 267=>265 | 266=>333 | 314=>334 | n=>n,fun | 9=>9 | 31=>46 | 3=>3 | 4=>4 | 0=>0 | 105=>321 | 21=>21 | 5=>5 | 46=>177 | 119=>402 | 139=>405 | 138=>404 | 146=>370 | 51=>369 | n=>n,fun | 1=>0 | 3=>3 | 4=>4 | n=>n⟩
theorem Tryz.lays146:Go.Proofs.Lays.n146 aL Tryz.lays146_ren:={
 mixed:=by kernel_rfl
 f138:=Tryz.func175.trans (congrArg some (by kernel_rfl))
 f143:=Tryz.func176.trans (congrArg some (by kernel_rfl))
 f146:=aAS.trans (congrArg some (by kernel_rfl))
 f195:=Tryz.func259.trans (congrArg some (by kernel_rfl))
 f197:=Wn.trans (congrArg some (by kernel_rfl))
 f217:=LK.trans (congrArg some (by kernel_rfl))
 f218:=Tryz.func261.trans (congrArg some (by kernel_rfl))
 f219:=XD.trans (congrArg some (by kernel_rfl))
 f221:=Tryz.func105.trans (congrArg some (by kernel_rfl))
 f224:=LL.trans (congrArg some (by kernel_rfl))
 f225:=LM.trans (congrArg some (by kernel_rfl))
 f260:=Wo.trans (congrArg some (by kernel_rfl))
 f266:=LN.trans (congrArg some (by kernel_rfl))
 f267:=XE.trans (congrArg some (by kernel_rfl))
 f268:=Tryz.func174.trans (congrArg some (by kernel_rfl))
 f314:=XF.trans (congrArg some (by kernel_rfl))
 t0:=lS
 a0:=uJ
 z0:=rL
 v0:=mU
 t3:=eG
 a3:=nC
 z3:=lG
 v3:=iX
 t4:=iI
 a4:=oN
 z4:=nG
 v4:=kC
 t5:=jI
 a5:=oM
 z5:=nF
 v5:=j9
 t9:=fN
 a9:=nD
 z9:=lH
 v9:=iY
 t21:=Bd
 a21:=LO
 z21:=Hr
 v21:=Cr
 t31:=nH
 a31:=Wj
 z31:=So
 v31:=NB
 t46:=mL
 a46:=sP
 z46:=rB
 v46:=nI
 t51:=pD
 a51:=xK
 z51:=vF
 v51:=pZ
 t105:=JM
 a105:=Sr
 z105:=Rx
 v105:=LP
 t119:=JN
 a119:=Ss
 z119:=Ry
 t138:=JO
 a138:=Su
 z138:=Rz
 v138:=LQ
 t139:=JP
 a139:=Sv
 z139:=SA
 v139:=LR
 t146:=Az
 a146:=Hv
 z146:=GP
 v146:=Bf
 g1:=by kernel_rfl
 g3:=by kernel_rfl
 g4:=by kernel_rfl }
open Go.RowKit Go.Lib in theorem Tryz.strings_Split (s sep : ByteArray) (m : Int) (w : World) (hs : s.size < 4294967281) (hm : w.cell? ⟨0, 0, none⟩ = some (.int .i64 m)) (h1 : 1 <= sep.size) :
    Calls aL 55 #[.string s, .string sep] w λe w' =>
      e = .returned (.slice (some ⟨w.heap.size, 0, none⟩) (gN s sep + 1) (gN s sep + 1)) /\ w' = w.alloc (.cells ((At sep 0 (gN s sep) s).map gM).toArray 9) := Any.strings_Split Tryz.lays146 (by kernel_rfl) s sep m w hs hm h1
def Tryz.lays105_ren:Go.Shelf.Ren:=⟨fun | 105=>322 | 212=>371 | 99=>372 | 165=>274 | 166=>17 | 170=>373 | 169=>18 | 263=>399 | 264=>400 | 206=>266 | 240=>56 | 241=>344 | 276=>106 | 277=>390 | n=>n,fun | 9=>9 | 3=>3 | 4=>4 | 20=>20 | 0=>0 | 46=>177 | 109=>389 | 5=>5 | 72=>62 | 76=>65 | 51=>369 | 146=>370 | 53=>102 | 148=>424 | 70=>60 | 37=>22 | 75=>64 | 127=>138 | 164=>181 | 80=>67 | n=>n,fun | n=>n⟩
theorem Tryz.lays105:Go.Proofs.Lays.n105 aL Tryz.lays105_ren:={
 mixed:=by kernel_rfl
 f99:=XG.trans (congrArg some (by kernel_rfl))
 f105:=Tryz.func322.trans (congrArg some (by kernel_rfl))
 f165:=Wg.trans (congrArg some (by kernel_rfl))
 f166:=Nr.trans (congrArg some (by kernel_rfl))
 f169:=Nq.trans (congrArg some (by kernel_rfl))
 f170:=Tryz.func373.trans (congrArg some (by kernel_rfl))
 f206:=LY.trans (congrArg some (by kernel_rfl))
 f212:=Tryz.func371.trans (congrArg some (by kernel_rfl))
 f240:=GL.trans (congrArg some (by kernel_rfl))
 f241:=Wh.trans (congrArg some (by kernel_rfl))
 f263:=Tryz.func399.trans (congrArg some (by kernel_rfl))
 f264:=Tryz.func400.trans (congrArg some (by kernel_rfl))
 f276:=LD.trans (congrArg some (by kernel_rfl))
 f277:=Wi.trans (congrArg some (by kernel_rfl))
 t0:=lS
 a0:=uJ
 z0:=rL
 v0:=mU
 t3:=eG
 a3:=nC
 z3:=lG
 v3:=iX
 t4:=iI
 a4:=oN
 z4:=nG
 v4:=kC
 t5:=jI
 a5:=oM
 z5:=nF
 v5:=j9
 t9:=fN
 a9:=nD
 z9:=lH
 v9:=iY
 t20:=vC
 a20:=EE
 z20:=CJ
 v20:=wZ
 t37:=nE
 a37:=zG
 z37:=xJ
 v37:=rM
 t46:=mL
 a46:=sP
 z46:=rB
 v46:=nI
 t51:=pD
 a51:=xK
 z51:=vF
 v51:=pZ
 t53:=tZ
 a53:=Ht
 z53:=GM
 v53:=Be
 t70:=kS
 a70:=LF
 z70:=Ho
 v70:=Co
 t72:=Bc
 a72:=LG
 z72:=Hp
 v72:=Cp
 t75:=pY
 a75:=LH
 z75:=Hq
 v75:=Cq
 t76:=LI
 a76:=Wk
 z76:=Sp
 v76:=NC
 t109:=Tryz.underlying389
 a109:=Tryz.isAgg389
 z109:=Tryz.sizeOf389
 v109:=Tryz.zeroValue389
 t127:=tY
 a127:=CI
 z127:=Au
 v127:=vB
 t146:=Az
 a146:=Hv
 z146:=GP
 v146:=Bf
 t148:=Tryz.underlying424
 a148:=Tryz.isAgg424
 z148:=Tryz.sizeOf424
 v148:=Tryz.zeroValue424
 t164:=pC
 a164:=Sq
 z164:=Rw
 v164:=LJ }
theorem Tryz.Builder_Extra_105:Builder.Extra aL Tryz.lays105_ren:={
 sizeBuilder:=by kernel_rfl
 liesBuilder:=by kernel_rfl
 t5:=jI
 a5:=oM
 z5:=nF
 v5:=j9
 infoByte:=by kernel_rfl
 cellsByte:=by kernel_rfl
 sizeByte:=by kernel_rfl
 neB5:=by decide }
open Go.RowKit Go.Lib in theorem Tryz.strings_Repeat (s : ByteArray) (c : Nat) (w : World) (hc : c <= 9223372036854775807) (hlen : s.size * c <= 140737488355328) :
    Calls aL 322 #[.string s, .int .i64 c] w λe w' => e = .returned (.string ⟨(Lib.repeatL s.data.toList c).toArray⟩) /\ Below w.heap.size w w' := Any.strings_Repeat Tryz.lays105 Tryz.Builder_Extra_105 s c w hc hlen
end Go.Proofs
set_option maxRecDepth 100000
namespace Go.Proofs.YtmhpnodnljbnjaaGreatDoor
open Go Go.Am Go.Proofs
open Go.RowKit
theorem aNp (B b:Nat) (l:List UInt8) (w:World) (h:vE 62 5 B b (Hs l) w) (hBw:B<=w.heap.size) :
  Calls aL 18 #[.pointer (some ⟨b,0,none⟩)] w λe w'=>e = .returned (.string ⟨l.toArray⟩)/\Below B w w':=by
 refine (Tryz.Builder_String_any_k B b l w h hBw).mono ?_;rintro e w' ⟨rfl,_,h2,_⟩;exact ⟨rfl,h2⟩
def aYr:List AT:=[AT.v kE,AT.v kE]
def bY (x0 x1:ByteArray):List ByteArray:=At x1 0 (gN x0 x1) x0
def P55 (x0 x1:ByteArray):Prop:=x0.size<4294967281/\1<=x1.size
def S55:Am.Spec:={ sig:=aYr,pre:=λ⟨x0,x1,_⟩=>P55 x0 x1,res:=λ⟨x0,x1,_⟩=>[⟨p6 kE,bY x0 x1⟩] }
theorem QC:c7 55 S55:=yB aAS<|by
 refine zN.up rfl rfl ?_;rintro w ⟨x0,x1,u⟩ vs bss hgo hp ⟨v0,s0,b0,bs0,rfl,rfl,⟨rfl,rfl,_⟩,v1,s1,b1,bs1,rfl,rfl,⟨rfl,rfl,_⟩,rfl,rfl⟩ hn;obtain ⟨hs,h1⟩:x0.size<4294967281/\1<=x1.size:=hp;obtain ⟨m,hm⟩:=aEL hgo.inv;refine (Tryz.strings_Split x0 x1 m w hs hm h1).mono ?_;rintro e w' ⟨rfl,rfl⟩;have hlen:(bY x0 x1).length=gN x0 x1+1:=vG x1 h1 0 _ _ rfl;have hle:=sQ x1 h1 x0.size x0 (aT _);have hparts:∀ y∈bY x0 x1,y.size<=maxLen:=λy hy=>by
  have:=uE x1 0 _ _ y hy;unfold maxLen;omega
 have e1:∀ xs:List ByteArray,pG .str xs=xs.map gM:=by
  intro xs
  induction xs with
  | nil=>rfl
  | cons a r ih=>unfold pG at ih ⊢;rw [bP,bK,ih];rfl
 have ho:gB (w.alloc (.cells ((bY x0 x1).map gM).toArray 9)) (.sl .str) (bY x0 x1) [.slice (some ⟨w.heap.size,0,none⟩) (gN x0 x1+1) (gN x0 x1+1)] [w.heap.size] :=
  NZ rfl hparts hlen.symm (Nat.le_of_eq hlen) (by unfold maxLen;omega) (by rw [dK,eJ,hlen];simp [Ty.size]) (AA w _) (AB _ _) (λj u hj=>by
   rw [e1] at hj;rw [cV, <- cX];exact hj)
 refine ⟨[_],[],[[w.heap.size]],rfl,(cI _ _).alloc _,⟨_,_,_,_,_,rfl,rfl,ho,rfl,rfl,rfl⟩,⟨rfl,rfl⟩,by simp,λb hb hg => ?_⟩;simp at hb;have:=hg.1;omega
noncomputable section
noncomputable def d16:dB:=⟨16,Tryz.f16,[.v (.str)],[.sl .str,.str],[],[(55,S55)],false,[]⟩
theorem o16:FO d16:=mo Tryz.func16 ⟨QC,trivial⟩
def P16 (x0:ByteArray):Prop:=((P55 x0 (aA #[10]))/\((cC .i64 ((↑(aN (bY x0 (aA #[10]))):Int) - 1))/\((0<=(↑(aN (bY x0 (aA #[10]))):Int) - 1)/\((↑(aN (bY x0 (aA #[10]))):Int) - 1<=(↑(aN (bY x0 (aA #[10])) - 0):Int))/\((0<=(↑(aN (bY x0 (aA #[10]))):Int) - 1)/\((↑(aN (bY x0 (aA #[10]))):Int) - 1<(↑(aN (bY x0 (aA #[10]))):Int))/\True))))
def Hh (x0:ByteArray):List ByteArray:=List.drop 0 (List.take (0+aE ((↑(aN (bY x0 (aA #[10]))):Int) - 1)) (bY x0 (aA #[10])))
def C4 (x0:ByteArray):ByteArray:=aD (bY x0 (aA #[10])) (aE ((↑(aN (bY x0 (aA #[10]))):Int) - 1)) aC
def S16:=dR d16 (λ⟨x0,_⟩=>P16 x0) λ⟨x0,_⟩=>[⟨.sl .str,Hh x0⟩,⟨.str,C4 x0⟩]
theorem aYs:c7 16 S16:=dF o16 λ⟨x0,_⟩ h _ K q=>c1 h λh=>c1 h λh=>c2 h λh=>c2 h λh=>rt
noncomputable def d7:dB:=⟨7,Tryz.f7,[],[.cons (.sl gT) YA1],[.frz],[],false,[]⟩
theorem o7:FO d7:=mo Tryz.func7 trivial
def P7:Prop:=True
def Sc:fV:=([],(1000000,2000,120,300000,()),[],[],(50000,20000,100,()),(0,0,0,()),[],(3000,20,60000,100,()),[],[],[],[],())
def S7:=dR d7 (λ_=>P7) λ_=>[⟨.cons (.sl gT) YA1,Sc⟩]
theorem bGP:c7 7 S7:=dF o7 λ_ h _ K q=>rt
noncomputable def aNq:dB:=⟨177,Tryz.f177,[.v (.str)],[.bool],[],[],false,[]⟩
theorem bGQ:FO aNq:=mo Tryz.func177 trivial
def aRo (C7:Int) (x0:ByteArray):eD×bG:=([eW 16 0,eI 17 (↑(aN (cY x0)):Int),eI 18 C7],[jB (.int .u8) (cY x0)])
mutual
def aRp:Nat->ByteArray->List aY->Prop
 | 0,_,_=>False
 | n+1,x0,ds=>(if (decide ((↑(aH x0):Int)<1))=true then (ds=[aP .bool false]) else (if (decide ((↑(aH x0):Int)>10))=true then (ds=[aP .bool false]) else (yG n (0) (x0) ds)))
def yG:Nat->Int->ByteArray->List aY->Prop
 | 0,_,_,_=>False
 | n+1,C7,x0,ds=>(if (decide (C7<(↑(aN (cY x0)):Int)))=true then ((0<=C7)/\(C7<(↑(aN (cY x0)):Int))/\(if (decide (aD (cY x0) (aE C7) 0>=97))=true then (if (decide (aD (cY x0) (aE C7) 0>=48))=true then (if (!decide (aD (cY x0) (aE C7) 0<=122))=true then (if (C7==0)=true then (ds=[aP .bool false]) else (if (!decide (aD (cY x0) (aE C7) 0<=57))=true then (ds=[aP .bool false]) else ((cC .i64 (C7+1))/\(yG n (C7+1) (x0) ds)))) else ((cC .i64 (C7+1))/\(yG n (C7+1) (x0) ds))) else (if (!decide (aD (cY x0) (aE C7) 0<=122))=true then (if (C7==0)=true then (ds=[aP .bool false]) else (ds=[aP .bool false])) else ((cC .i64 (C7+1))/\(yG n (C7+1) (x0) ds)))) else (if (decide (aD (cY x0) (aE C7) 0>=48))=true then (if (C7==0)=true then (ds=[aP .bool false]) else (if (!decide (aD (cY x0) (aE C7) 0<=57))=true then (ds=[aP .bool false]) else ((cC .i64 (C7+1))/\(yG n (C7+1) (x0) ds)))) else (if (C7==0)=true then (ds=[aP .bool false]) else (ds=[aP .bool false]))))) else (ds=[aP .bool true]))
end
theorem aRq (ds:List aY) (K:jK) (q:Nat->Value):∀ n,(∀ {x0},aRp n x0 ds->St aNq (x0,()) ds [] K q)/\(∀ {C7 x0},yG n C7 x0 ds->Cu aNq 4 (aRo C7 x0) ds [] K q):=by
 intro n
 induction n with
 | zero=>exact ⟨λh=>h.elim,λh=>h.elim⟩
 | succ n ih =>
 obtain ⟨i,i4⟩:=ih;exact ⟨λh=>bR h (λh=>tT<|rh h) λh=>bR h (λh=>rh h) λh=>jp (i4 h),
  λh=>bR h (λh=>c2 h λh=>bR h (λh=>bR h (λh=>bR h (λh=>bR h (λh=>tT<|rh h) λh=>bR h (λh=>rh h) λh=>c1 h λh=>jp (i4 h)) λh=>tF<|c1 h λh=>jp (i4 h)) λh=>bR h (λh=>bR h (λh=>tT<|rh h) λh=>tT<|rh h) λh=>tF<|c1 h λh=>jp (i4 h)) λh=>bR h (λh=>tT<|bR h (λh=>tT<|rh h) λh=>bR h (λh=>rh h) λh=>c1 h λh=>jp (i4 h)) λh=>tT<|bR h (λh=>tT<|rh h) λh=>tT<|rh h) λh=>rh h⟩
def Hi (i:Nat) (b:Int):Bool:=(decide (97<=b)&&decide (b<=122))||(!(i==0)&&(decide (48<=b)&&decide (b<=57)))
def qJ (x0:ByteArray):Bool:=decide (1<=x0.size)&&decide (x0.size<=10)&&lC Hi 0 (cY x0)
def bGR (x0:ByteArray):Prop:=True
theorem aEZ (n i:Nat) (x0:ByteArray) (hw:Wf .str x0) (hi:i<(cY x0).length) (ds:List aY) :
  yG (n+1) (i:Int) x0 ds↔(if Hi i ((cY x0).getD i 0)=true then yG n ((i:Int)+1) x0 ds else ds=[⟨.bool,false⟩]):=by
 have hu:=fC (xs:=cY x0) (by rw [uW];exact hw) hi;rw [yG,if_pos (by simp;omega)];simp only [aF];have hb:(0:Int)<=(i:Int)/\(i:Int)<((cY x0).length:Int):=by omega
 have hz:((i:Int)==0)=(i==0):=by
  cases i with
  | zero=>rfl
  | succ k=>simp;omega
 simp only [hz,Hi,hu,true_and,hb.1,hb.2,ge_iff_le];by_cases h1:(97:Int)<=(cY x0).getD i 0 <;> by_cases h2:(cY x0).getD i 0<=122 <;> by_cases h3:(48:Int)<=(cY x0).getD i 0 <;> by_cases h4:(cY x0).getD i 0<=57 <;> rcases Bool.eq_false_or_eq_true (i==0) with e0 | e0 <;> first | (exfalso;omega) | simp only [h1,h2,h3,h4,e0,decide_true,decide_false,Bool.not_true,Bool.not_false,Bool.true_and,Bool.false_and,Bool.and_true,Bool.and_false,Bool.true_or,Bool.or_true,Bool.or_false,Bool.false_or,if_true,if_false,dJ]
theorem aRr (x0:ByteArray) (hw:Wf .str x0):aRp (x0.size+1+1) x0 [⟨.bool,qJ x0⟩]:=by
 have hl:=uW x0;rw [aRp];by_cases h0:(x0.size:Int)<1
 ·rw [if_pos (by simpa using h0)];have:¬ 1<=x0.size:=by omega
  simp [qJ,this]
 ·rw [if_neg (by simpa using h0)];by_cases h1:(x0.size:Int)>10
  ·rw [if_pos (by simpa using h1)];have:¬ x0.size<=10:=by omega
   simp [qJ,this]
  ·rw [if_neg (by simpa using h1)];have key:=jU (cY x0) 0 Hi [(⟨.bool,false⟩:aY)] [⟨.bool,true⟩] (λn i ds=>yG n i x0 ds) (λn => ?_) (λn i hi hok ds hr => ?_) (λn i hi hok => ?_)
   ·rw [hl] at key;have e:qJ x0=lC Hi 0 (cY x0):=by
     have a:1<=x0.size:=by omega
     have b:x0.size<=10:=by omega
     simp [qJ,a,b]
    rw [e];cases h:lC Hi 0 (cY x0) with
    | true=>rw [if_pos h] at key;exact key
    | false=>rw [if_neg (by rw [h];simp)] at key;exact key
   ·show yG (n+1) ((cY x0).length:Int) x0 _;rw [yG,if_neg (by simp)]
   ·exact (aEZ n i x0 hw hi ds).2 (by rw [if_pos hok];exact hr)
   ·exact (aEZ n i x0 hw hi _).2 (by rw [if_neg (by rw [hok];simp)])
def aGw:=dR aNq (λ⟨x0,_⟩=>bGR x0) λ⟨x0,_⟩=>[⟨.bool,qJ x0⟩]
theorem QD:c7 177 aGw:=dF bGQ (λ⟨x0,_⟩ h hwf K q =>
 (aRq _ K q _).1 (aRr x0 hwf.1))
noncomputable def aYt:dB:=⟨108,Tryz.f108,[.v (.int .i64),.v (.int .i64),.v (.int .i64)],[.bool],[],[],false,[]⟩
theorem bGS:FO aYt:=mo Tryz.func108 trivial
def bGT (x0:Int) (x1:Int) (x2:Int):Prop:=True
def cD (x0:Int) (x1:Int) (x2:Int):Bool:=(if (decide (x0>=x1))=true then decide (x0<=x2) else false)
def p8:=dR aYt (λ⟨x0,x1,x2,_⟩=>bGT x0 x1 x2) λ⟨x0,x1,x2,_⟩=>[⟨.bool,cD x0 x1 x2⟩]
theorem iA:c7 108 p8:=dF bGS λ⟨x0,x1,x2,_⟩ h _ K q=>e1 (rt) (rt)
noncomputable def aYu:dB:=⟨178,Tryz.f178,[.v (.int .i64)],[.bool],[],[(108,p8)],false,[]⟩
theorem bGU:FO aYu:=mo Tryz.func178 ⟨iA,trivial⟩
def bGV (x0:Int):Prop:=True
def aIE (x0:Int):Bool:=cD x0 0 200
def aYv:=dR aYu (λ⟨x0,_⟩=>bGV x0) λ⟨x0,_⟩=>[⟨.bool,aIE x0⟩]
theorem aRs:c7 178 aYv:=dF bGU λ⟨x0,_⟩ h _ K q=>tv<|rt
noncomputable def aYw:dB:=⟨107,Tryz.f107,[.v gT],[.bool],[],[(177,aGw),(108,p8),(178,aYv)],false,[]⟩
theorem bGW:FO aYw:=mo Tryz.func107 ⟨QD,iA,aRs,trivial⟩
def bGX (x0:ByteArray×Int×Int×Int×Unit):Prop:=True
def pR (x0:ByteArray×Int×Int×Int×Unit):Bool:=(if (qJ x0.1)=true then (if (cD x0.2.1 10000 10000000)=true then (if (cD x0.2.2.1 1000 1000000)=true then aIE x0.2.2.2.1 else false) else false) else false)
def aRt:=dR aYw (λ⟨x0,_⟩=>bGX x0) λ⟨x0,_⟩=>[⟨.bool,pR x0⟩]
theorem aIF:c7 107 aRt:=dF bGW λ⟨x0,_⟩ h _ K q=>tv<|e1 (tv<|e1 (tv<|e1 (tv<|rt) (rt)) (tF<|rt)) (tF<|tF<|rt)
noncomputable def d57:dB:=⟨57,Tryz.f57,[.v (.sl gT)],[.bool],[],[(107,aRt)],false,[]⟩
theorem o57:FO d57:=mo Tryz.func57 ⟨aIF,trivial⟩
def aYx (v7:Int) (x0:List dG):eD×bG:=([eL 0 gT x0,eL 5 gT x0,eI 6 (x0.length:Int),eI 7 v7],[])
mutual
def R57:Nat->List dG->List aY->Prop
 | 0,_,_=>False
 | n+1,x0,ds=>(Ju n (0) (x0) ds)
def Ju:Nat->Int->List dG->List aY->Prop
 | 0,_,_,_=>False
 | n+1,v7,x0,ds=>(if (decide (v7<(x0.length:Int)))=true then ((0<=v7)/\(v7<(x0.length:Int))/\(if (!pR (aD x0 (aE v7) (aC,0,0,0,())))=true then (ds=[aP .bool false]) else (if (decide (v7>0))=true then ((cC .i64 (v7 - 1))/\((0<=v7 - 1)/\(v7 - 1<(x0.length:Int))/\(if (bE (aB (aD x0 (aE v7) (aC,0,0,0,())).1) (aB (aD x0 (aE (v7 - 1)) (aC,0,0,0,())).1)||aB (aD x0 (aE v7) (aC,0,0,0,())).1==aB (aD x0 (aE (v7 - 1)) (aC,0,0,0,())).1)=true then (ds=[aP .bool false]) else ((cC .i64 (v7+1))/\(Ju n (v7+1) (x0) ds))))) else ((cC .i64 (v7+1))/\(Ju n (v7+1) (x0) ds))))) else (ds=[aP .bool (decide ((x0.length:Int)<=12))]))
end
theorem aYy (ds:List aY) (K:jK) (q:Nat->Value):∀ n,(∀ {x0},R57 n x0 ds->St d57 (x0,()) ds [] K q)/\(∀ {v7 x0},Ju n v7 x0 ds->Cu d57 2 (aYx v7 x0) ds [] K q):=by
 intro n
 induction n with
 | zero=>exact ⟨λh=>h.elim,λh=>h.elim⟩
 | succ n ih =>
 obtain ⟨i,i2⟩:=ih;exact ⟨λh=>jp (i2 h),
  λh=>bR h (λh=>c2 h λh=>tv<|bR h (λh=>tT<|rh h) λh=>bR h (λh=>c1 h λh=>c2 h λh=>bR h (λh=>rh h) λh=>c1 h λh=>jp (i2 h)) λh=>tF<|c1 h λh=>jp (i2 h)) λh=>rh h⟩
def aBF (x0:List dG) (i:Nat) (x:dG):Bool :=
 pR x&&(i==0 || !(bE (aB x.1) (aB (x0.getD (i - 1) (aC,(0:Int),(0:Int),(0:Int),())).1)||aB x.1==aB (x0.getD (i - 1) (aC,(0:Int),(0:Int),(0:Int),())).1))
def sL (x0:List dG):Bool:=lC (aBF x0) 0 x0&&decide (x0.length<=12)
def P57 (x0:List dG):Prop:=True
theorem aIG (n i : Nat) (x0 : List dG) (hm : x0.length <= maxLen) (hi : i < x0.length) (ds : List aY) :
    (if aBF x0 i (x0.getD i (aC, (0 : Int), (0 : Int), (0 : Int), ())) = true then Ju n ((i : Int) + 1) x0 ds else ds = [⟨.bool, false⟩]) -> Ju (n + 1) (i : Int) x0 ds := by
  intro h;have hu := fC hm hi;rw [Ju, if_pos (by simp; omega)];refine ⟨by omega, by omega, ?_⟩;simp only [aF];unfold aBF at h;by_cases h1 : pR (x0.getD i (aC, (0 : Int), (0 : Int), (0 : Int), ())) = true
  case neg =>
    have h1 := BE h1;rw [h1] at h;rw [if_pos (by rw [h1]; rfl)];simpa using h
  case pos =>
    rw [h1] at h;rw [if_neg (by rw [h1]; simp)];by_cases h0 : (i : Int) > 0
    · rw [if_pos (by simpa using h0)]
      have hi0 : (i == 0) = false := by simp; omega
      have e : ((i : Int) - 1).toNat = i - 1 := by omega
      refine ⟨by rw [aK]; have : maxLen <= 9223372036854775807 := by decide
                 omega, by omega, by omega, ?_⟩
      rw [e];by_cases h2 : (bE (aB (x0.getD i (aC, (0 : Int), (0 : Int), (0 : Int), ())).1) (aB (x0.getD (i - 1) (aC, (0 : Int), (0 : Int), (0 : Int), ())).1) || aB (x0.getD i (aC, (0 : Int), (0 : Int), (0 : Int), ())).1 == aB (x0.getD (i - 1) (aC, (0 : Int), (0 : Int), (0 : Int), ())).1) = true
      · rw [if_pos h2]
        rw [hi0, h2] at h;simpa using h
      · rw [if_neg h2]
        rw [hi0, BE h2] at h;exact ⟨hu, by simpa using h⟩
    · rw [if_neg (by simpa using h0)]
      have hi0 : (i == 0) = true := by simp; omega
      rw [hi0] at h;exact ⟨hu, by simpa using h⟩
theorem aYz (x0:List dG) (hw:x0.length<=maxLen):R57 (x0.length+1+1) x0 [⟨.bool,sL x0⟩]:=by
 rw [R57];have key:=jU x0 (aC,(0:Int),(0:Int),(0:Int),()) (aBF x0) [(⟨.bool,false⟩:aY)] [⟨.bool,decide (x0.length<=12)⟩] (λn i ds=>Ju n i x0 ds) (λn => ?_) (λn i hi hok ds hr => ?_) (λn i hi hok => ?_)
 ·unfold sL;cases h:lC (aBF x0) 0 x0 with
  | true=>rw [if_pos h] at key;simpa using key
  | false=>rw [if_neg (by rw [h];simp)] at key;simpa using key
 ·rw [Ju,if_neg (by simp)];have hc:decide ((x0.length:Int)<=12)=decide (x0.length<=12):=by
   congr 1;exact propext ⟨λh=>by omega,λh=>by omega⟩
  rw [hc]
 ·exact aIG n i x0 hw hi ds (by rw [if_pos hok];exact hr)
 ·exact aIG n i x0 hw hi _ (by rw [if_neg (by rw [hok];simp)])
def S57:=dR d57 (λ⟨x0,_⟩=>P57 x0) λ⟨x0,_⟩=>[⟨.bool,sL x0⟩]
theorem aPM:c7 57 S57:=dF o57 (λ⟨x0,_⟩ h hwf K q =>
 (aYy _ K q _).1 (aYz x0 hwf.1.1))
noncomputable def d58:dB:=⟨58,Tryz.f58,[.v X1],[.bool],[],[(108,p8)],false,[]⟩
theorem o58:FO d58:=mo Tryz.func58 ⟨iA,trivial⟩
def P58 (x0:Int×Int×Int×Int×Unit):Prop:=True
def BV (x0:Int×Int×Int×Int×Unit):Bool:=(if (cD x0.1 1000 4000000)=true then (if (cD x0.2.1 100 20000)=true then (if (cD x0.2.2.1 6 400)=true then cD x0.2.2.2.1 1000 10000000 else false) else false) else false)
def S58:=dR d58 (λ⟨x0,_⟩=>P58 x0) λ⟨x0,_⟩=>[⟨.bool,BV x0⟩]
theorem aIH:c7 58 S58:=dF o58 λ⟨x0,_⟩ h _ K q=>tv<|e1 (tv<|e1 (tv<|e1 (tv<|rt) (rt)) (tF<|rt)) (tF<|tF<|rt)
noncomputable def aY0:dB:=⟨111,Tryz.f111,[.v fL],[.bool],[],[(108,p8)],false,[]⟩
theorem bHa:FO aY0:=mo Tryz.func111 ⟨iA,trivial⟩
def bHb (x0:Int×Int×Int×Unit):Prop:=True
def wE (x0:Int×Int×Int×Unit):Bool:=(if (cD x0.1 0 1000)=true then (if (cD x0.2.1 (-400) 500)=true then cD x0.2.2.1 0 1000 else false) else false)
def aRu:=dR aY0 (λ⟨x0,_⟩=>bHb x0) λ⟨x0,_⟩=>[⟨.bool,wE x0⟩]
theorem aII:c7 111 aRu:=dF bHa λ⟨x0,_⟩ h _ K q=>tv<|e1 (tv<|e1 (tv<|rt) (rt)) (tF<|rt)
noncomputable def aY1:dB:=⟨110,Tryz.f110,[.v fL],[.bool],[],[(111,aRu)],false,[]⟩
theorem bHc:FO aY1:=mo Tryz.func110 ⟨aII,trivial⟩
def bHd (x0:Int×Int×Int×Unit):Prop:=True
def AL (x0:Int×Int×Int×Unit):Bool := !wE x0
def aRv:=dR aY1 (λ⟨x0,_⟩=>bHd x0) λ⟨x0,_⟩=>[⟨.bool,AL x0⟩]
theorem aIJ:c7 110 aRv:=dF bHc λ⟨x0,_⟩ h _ K q=>tv<|rt
noncomputable def Jv:dB:=⟨179,Tryz.f179,[.v (.sl fL),.fn 110 []],[.int .i64],[],[(110,aRv)],false,[]⟩
theorem aIK:FO Jv:=mo Tryz.func179 ⟨aIJ,trivial⟩
def aBG (v8:Int) (x0:List cU):eD×bG:=([eL 0 fL x0,(1,PV.fn 110 []),eI 7 (x0.length:Int),eI 8 v8],[])
mutual
def QE:Nat->List cU->List aY->Prop
 | 0,_,_=>False
 | n+1,x0,ds=>(s6 n (0) (x0) ds)
def s6:Nat->Int->List cU->List aY->Prop
 | 0,_,_,_=>False
 | n+1,v8,x0,ds=>(if (decide (v8<(x0.length:Int)))=true then ((0<=v8)/\(v8<(x0.length:Int))/\(if (AL (aD x0 (aE v8) (0,0,0,())))=true then (ds=[aP (.int .i64) v8]) else ((cC .i64 (v8+1))/\(s6 n (v8+1) (x0) ds)))) else (ds=[aP (.int .i64) (-1)]))
end
theorem aBH (ds:List aY) (K:jK) (q:Nat->Value):∀ n,(∀ {x0},QE n x0 ds->St Jv (x0,(),()) ds [] K q)/\(∀ {v8 x0},s6 n v8 x0 ds->Cu Jv 2 (aBG v8 x0) ds [] K q):=by
 intro n
 induction n with
 | zero=>exact ⟨λh=>h.elim,λh=>h.elim⟩
 | succ n ih =>
 obtain ⟨i,i2⟩:=ih;exact ⟨λh=>jp (i2 h),
  λh=>bR h (λh=>c2 h λh=>tv<|bR h (λh=>rh h) λh=>c1 h λh=>jp (i2 h)) λh=>rh h⟩
def wF (x0:List cU):Int:=X0 (x0.findIdx? AL)
def aIL (x0:List cU):Prop:=True
theorem aBI (x0:List cU) (hm:x0.length<=maxLen):QE (x0.length+1+1) x0 [⟨.int .i64,wF x0⟩]:=by
 rw [QE];have key:=kJ x0 ((0:Int),(0:Int),(0:Int),()) AL [(⟨.int .i64, -1⟩:aY)] (λk=>[⟨.int .i64,k⟩]) (λn i ds=>s6 n i x0 ds) (λn => ?_) (λn i hi hok ds hr => ?_) (λn i hi hok => ?_)
 ·unfold wF;cases h:x0.findIdx? AL <;> rw [h] at key <;> exact key
 ·rw [s6,if_neg (by simp)]
 ·rw [s6,if_pos (by simp;omega)];simp only [aF];refine ⟨by omega,by omega,?_⟩;rw [if_neg (by rw [hok];simp)];exact ⟨fC hm hi,hr⟩
 ·rw [s6,if_pos (by simp;omega)];simp only [aF];refine ⟨by omega,by omega,?_⟩;rw [if_pos hok] <;> trivial
def Y9:=dR Jv (λ⟨x0,_⟩=>aIL x0) λ⟨x0,_⟩=>[⟨.int .i64,wF x0⟩]
theorem aBJ:c7 179 Y9:=dF aIK (λ⟨x0,_⟩ h hwf K q =>
 (aBH _ K q _).1 (aBI x0 hwf.1.1))
theorem IZ (x0:List cU):decide (wF x0>=0)=x0.any AL:=by
 have:=qG AL x0;unfold wF;cases h:x0.any AL with
 | true=>rw [h] at this;simpa using this
 | false=>rw [h] at this;simpa using this
noncomputable def Ya:dB:=⟨109,Tryz.f109,[.v (.sl fL),.fn 110 []],[.bool],[],[(179,Y9),(110,aRv)],false,[]⟩
theorem aIM:FO Ya:=mo Tryz.func109 ⟨aBJ,aIJ,trivial⟩
def aIN (x0:List cU):Prop:=True
def AM (x0:List cU):Bool:=decide (wF x0>=0)
def Yb:=dR Ya (λ⟨x0,_⟩=>aIN x0) λ⟨x0,_⟩=>[⟨.bool,AM x0⟩]
theorem aBK:c7 109 Yb:=dF aIM λ⟨x0,_⟩ h _ K q=>tv<|rt
noncomputable def d59:dB:=⟨59,Tryz.f59,[.v (.sl fL)],[.bool],[],[(109,Yb)],false,[]⟩
theorem o59:FO d59:=mo Tryz.func59 ⟨aBK,trivial⟩
def P59 (x0:List cU):Prop:=True
def AN (x0:List cU):Bool:=(if (decide ((x0.length:Int)<=48))=true then !AM x0 else false)
def S59:=dR d59 (λ⟨x0,_⟩=>P59 x0) λ⟨x0,_⟩=>[⟨.bool,AN x0⟩]
theorem aPN:c7 59 S59:=dF o59 λ⟨x0,_⟩ h _ K q=>e1 (tv<|rt) (rt)
noncomputable def aY2:dB:=⟨181,Tryz.f181,[.v (.int .i64)],[.bool],[],[(108,p8)],false,[]⟩
theorem bHf:FO aY2:=mo Tryz.func181 ⟨iA,trivial⟩
def bHg (x0:Int):Prop:=True
def aBL (x0:Int):Bool:=cD x0 1 4
def aY3:=dR aY2 (λ⟨x0,_⟩=>bHg x0) λ⟨x0,_⟩=>[⟨.bool,aBL x0⟩]
theorem aRw:c7 181 aY3:=dF bHf λ⟨x0,_⟩ h _ K q=>tv<|rt
noncomputable def aY4:dB:=⟨182,Tryz.f182,[.v (.int .i64)],[.bool],[],[(108,p8)],false,[]⟩
theorem bHh:FO aY4:=mo Tryz.func182 ⟨iA,trivial⟩
def bHi (x0:Int):Prop:=True
def I0 (x0:Int):Bool:=cD x0 0 20000
def aRx:=dR aY4 (λ⟨x0,_⟩=>bHi x0) λ⟨x0,_⟩=>[⟨.bool,I0 x0⟩]
theorem aIO:c7 182 aRx:=dF bHh λ⟨x0,_⟩ h _ K q=>tv<|rt
noncomputable def aY5:dB:=⟨114,Tryz.f114,[.v fL],[.bool],[],[(181,aY3),(108,p8),(182,aRx)],false,[]⟩
theorem bHj:FO aY5:=mo Tryz.func114 ⟨aRw,iA,aIO,trivial⟩
def bHk (x0:Int×Int×Int×Unit):Prop:=True
def rT (x0:Int×Int×Int×Unit):Bool:=(if (aBL x0.1)=true then (if (cD x0.2.1 0 1000)=true then I0 x0.2.2.1 else false) else false)
def aRy:=dR aY5 (λ⟨x0,_⟩=>bHk x0) λ⟨x0,_⟩=>[⟨.bool,rT x0⟩]
theorem aIP:c7 114 aRy:=dF bHj λ⟨x0,_⟩ h _ K q=>tv<|e1 (tv<|e1 (tv<|rt) (rt)) (tF<|rt)
noncomputable def aY6:dB:=⟨113,Tryz.f113,[.v fL],[.bool],[],[(114,aRy)],false,[]⟩
theorem bHl:FO aY6:=mo Tryz.func113 ⟨aIP,trivial⟩
def bHm (x0:Int×Int×Int×Unit):Prop:=True
def AO (x0:Int×Int×Int×Unit):Bool := !rT x0
def aRz:=dR aY6 (λ⟨x0,_⟩=>bHm x0) λ⟨x0,_⟩=>[⟨.bool,AO x0⟩]
theorem aIQ:c7 113 aRz:=dF bHl λ⟨x0,_⟩ h _ K q=>tv<|rt
noncomputable def Jw:dB:=⟨180,Tryz.f180,[.v (.sl fL),.fn 113 []],[.int .i64],[],[(113,aRz)],false,[]⟩
theorem aIR:FO Jw:=mo Tryz.func180 ⟨aIQ,trivial⟩
def aBM (v8:Int) (x0:List cU):eD×bG:=([eL 0 fL x0,(1,PV.fn 113 []),eI 7 (x0.length:Int),eI 8 v8],[])
mutual
def QF:Nat->List cU->List aY->Prop
 | 0,_,_=>False
 | n+1,x0,ds=>(tA n (0) (x0) ds)
def tA:Nat->Int->List cU->List aY->Prop
 | 0,_,_,_=>False
 | n+1,v8,x0,ds=>(if (decide (v8<(x0.length:Int)))=true then ((0<=v8)/\(v8<(x0.length:Int))/\(if (AO (aD x0 (aE v8) (0,0,0,())))=true then (ds=[aP (.int .i64) v8]) else ((cC .i64 (v8+1))/\(tA n (v8+1) (x0) ds)))) else (ds=[aP (.int .i64) (-1)]))
end
theorem aBN (ds:List aY) (K:jK) (q:Nat->Value):∀ n,(∀ {x0},QF n x0 ds->St Jw (x0,(),()) ds [] K q)/\(∀ {v8 x0},tA n v8 x0 ds->Cu Jw 2 (aBM v8 x0) ds [] K q):=by
 intro n
 induction n with
 | zero=>exact ⟨λh=>h.elim,λh=>h.elim⟩
 | succ n ih =>
 obtain ⟨i,i2⟩:=ih;exact ⟨λh=>jp (i2 h),
  λh=>bR h (λh=>c2 h λh=>tv<|bR h (λh=>rh h) λh=>c1 h λh=>jp (i2 h)) λh=>rh h⟩
def wG (x0:List cU):Int:=X0 (x0.findIdx? AO)
def aIS (x0:List cU):Prop:=True
theorem aBO (x0:List cU) (hm:x0.length<=maxLen):QF (x0.length+1+1) x0 [⟨.int .i64,wG x0⟩]:=by
 rw [QF];have key:=kJ x0 ((0:Int),(0:Int),(0:Int),()) AO [(⟨.int .i64, -1⟩:aY)] (λk=>[⟨.int .i64,k⟩]) (λn i ds=>tA n i x0 ds) (λn => ?_) (λn i hi hok ds hr => ?_) (λn i hi hok => ?_)
 ·unfold wG;cases h:x0.findIdx? AO <;> rw [h] at key <;> exact key
 ·rw [tA,if_neg (by simp)]
 ·rw [tA,if_pos (by simp;omega)];simp only [aF];refine ⟨by omega,by omega,?_⟩;rw [if_neg (by rw [hok];simp)];exact ⟨fC hm hi,hr⟩
 ·rw [tA,if_pos (by simp;omega)];simp only [aF];refine ⟨by omega,by omega,?_⟩;rw [if_pos hok] <;> trivial
def Yc:=dR Jw (λ⟨x0,_⟩=>aIS x0) λ⟨x0,_⟩=>[⟨.int .i64,wG x0⟩]
theorem aBP:c7 180 Yc:=dF aIR (λ⟨x0,_⟩ h hwf K q =>
 (aBN _ K q _).1 (aBO x0 hwf.1.1))
theorem I1 (x0:List cU):decide (wG x0>=0)=x0.any AO:=by
 have:=qG AO x0;unfold wG;cases h:x0.any AO with
 | true=>rw [h] at this;simpa using this
 | false=>rw [h] at this;simpa using this
noncomputable def Yd:dB:=⟨112,Tryz.f112,[.v (.sl fL),.fn 113 []],[.bool],[],[(180,Yc),(113,aRz)],false,[]⟩
theorem aIT:FO Yd:=mo Tryz.func112 ⟨aBP,aIQ,trivial⟩
def aIU (x0:List cU):Prop:=True
def AP (x0:List cU):Bool:=decide (wG x0>=0)
def Ye:=dR Yd (λ⟨x0,_⟩=>aIU x0) λ⟨x0,_⟩=>[⟨.bool,AP x0⟩]
theorem aBQ:c7 112 Ye:=dF aIT λ⟨x0,_⟩ h _ K q=>tv<|rt
noncomputable def d60:dB:=⟨60,Tryz.f60,[.v (.sl fL)],[.bool],[],[(112,Ye)],false,[]⟩
theorem o60:FO d60:=mo Tryz.func60 ⟨aBQ,trivial⟩
def P60 (x0:List cU):Prop:=True
def yT (x0:List cU):Bool:=(if (decide ((x0.length:Int)<=8))=true then !AP x0 else false)
def S60:=dR d60 (λ⟨x0,_⟩=>P60 x0) λ⟨x0,_⟩=>[⟨.bool,yT x0⟩]
theorem aPO:c7 60 S60:=dF o60 λ⟨x0,_⟩ h _ K q=>e1 (tv<|rt) (rt)
noncomputable def d61:dB:=⟨61,Tryz.f61,[.v fL],[.bool],[],[(108,p8)],false,[]⟩
theorem o61:FO d61:=mo Tryz.func61 ⟨iA,trivial⟩
def P61 (x0:Int×Int×Int×Unit):Prop:=True
def vQ (x0:Int×Int×Int×Unit):Bool:=(if (cD x0.1 1000 10000000)=true then (if (cD x0.2.1 100 1000000)=true then cD x0.2.2.1 0 500 else false) else false)
def S61:=dR d61 (λ⟨x0,_⟩=>P61 x0) λ⟨x0,_⟩=>[⟨.bool,vQ x0⟩]
theorem aIV:c7 61 S61:=dF o61 λ⟨x0,_⟩ h _ K q=>tv<|e1 (tv<|e1 (tv<|rt) (rt)) (tF<|rt)
noncomputable def aY7:dB:=⟨115,Tryz.f115,[.v fL],[.bool],[],[],false,[]⟩
theorem bHo:FO aY7:=mo Tryz.func115 trivial
def bHp (x0:Int×Int×Int×Unit):Prop:=True
def FU (x0:Int×Int×Int×Unit):Bool:=(if (x0.1==1)=true then true else x0.1==3)
def aR0:=dR aY7 (λ⟨x0,_⟩=>bHp x0) λ⟨x0,_⟩=>[⟨.bool,FU x0⟩]
theorem aIW:c7 115 aR0:=dF bHo λ⟨x0,_⟩ h _ K q=>e1 (rt) (rt)
noncomputable def d62:dB:=⟨62,Tryz.f62,[.v fL],[.bool],[],[(108,p8),(115,aR0)],false,[]⟩
theorem o62:FO d62:=mo Tryz.func62 ⟨iA,aIW,trivial⟩
def P62 (x0:Int×Int×Int×Unit):Prop:=True
def kW (x0:Int×Int×Int×Unit):Bool:=(if (!cD x0.1 0 3)=true then false else (if (!FU x0)=true then (if (x0.2.1==0)=true then x0.2.2.1==0 else false) else (if (cD x0.2.1 0 2)=true then cD x0.2.2.1 0 3 else false)))
def S62:=dR d62 (λ⟨x0,_⟩=>P62 x0) λ⟨x0,_⟩=>[⟨.bool,kW x0⟩]
theorem aIX:c7 62 S62:=dF o62 λ⟨x0,_⟩ h _ K q=>tv<|e1 (rt) (tv<|e1 (e1 (rt) (rt)) (tv<|e1 (tv<|rt) (rt)))
noncomputable def aY8:dB:=⟨183,Tryz.f183,[.v (.int .i64)],[.bool],[],[(108,p8)],false,[]⟩
theorem bHq:FO aY8:=mo Tryz.func183 ⟨iA,trivial⟩
def bHr (x0:Int):Prop:=True
def DV (x0:Int):Bool:=cD x0 0 1440
def aR1:=dR aY8 (λ⟨x0,_⟩=>bHr x0) λ⟨x0,_⟩=>[⟨.bool,DV x0⟩]
theorem aIY:c7 183 aR1:=dF bHq λ⟨x0,_⟩ h _ K q=>tv<|rt
noncomputable def aY9:dB:=⟨116,Tryz.f116,[.v fP],[.bool],[],[(177,aGw),(183,aR1)],false,[]⟩
theorem bHs:FO aY9:=mo Tryz.func116 ⟨QD,aIY,trivial⟩
def bHt (x0:ByteArray×Int×Int×Unit):Prop:=True
def tC (x0:ByteArray×Int×Int×Unit):Bool:=(if (qJ x0.1)=true then (if (DV x0.2.1)=true then (if (DV x0.2.2.1)=true then decide (x0.2.1<x0.2.2.1) else false) else false) else false)
def aR2:=dR aY9 (λ⟨x0,_⟩=>bHt x0) λ⟨x0,_⟩=>[⟨.bool,tC x0⟩]
theorem aIZ:c7 116 aR2:=dF bHs λ⟨x0,_⟩ h _ K q=>tv<|e1 (tv<|e1 (tv<|e1 (rt) (rt)) (tF<|rt)) (tF<|tF<|rt)
noncomputable def d63:dB:=⟨63,Tryz.f63,[.v (.sl fP)],[.bool],[],[(116,aR2)],false,[]⟩
theorem o63:FO d63:=mo Tryz.func63 ⟨aIZ,trivial⟩
def aYA (v7:Int) (x0:List bX):eD×bG:=([eL 0 fP x0,eL 5 fP x0,eI 6 (x0.length:Int),eI 7 v7],[])
mutual
def R63:Nat->List bX->List aY->Prop
 | 0,_,_=>False
 | n+1,x0,ds=>(Jx n (0) (x0) ds)
def Jx:Nat->Int->List bX->List aY->Prop
 | 0,_,_,_=>False
 | n+1,v7,x0,ds=>(if (decide (v7<(x0.length:Int)))=true then ((0<=v7)/\(v7<(x0.length:Int))/\(if (!tC (aD x0 (aE v7) (aC,0,0,())))=true then (ds=[aP .bool false]) else (if (decide (v7>0))=true then ((cC .i64 (v7 - 1))/\((0<=v7 - 1)/\(v7 - 1<(x0.length:Int))/\(if (bE (aB (aD x0 (aE v7) (aC,0,0,())).1) (aB (aD x0 (aE (v7 - 1)) (aC,0,0,())).1)||aB (aD x0 (aE v7) (aC,0,0,())).1==aB (aD x0 (aE (v7 - 1)) (aC,0,0,())).1)=true then (ds=[aP .bool false]) else ((cC .i64 (v7+1))/\(Jx n (v7+1) (x0) ds))))) else ((cC .i64 (v7+1))/\(Jx n (v7+1) (x0) ds))))) else (ds=[aP .bool (decide ((x0.length:Int)<=12))]))
end
theorem aYB (ds:List aY) (K:jK) (q:Nat->Value):∀ n,(∀ {x0},R63 n x0 ds->St d63 (x0,()) ds [] K q)/\(∀ {v7 x0},Jx n v7 x0 ds->Cu d63 2 (aYA v7 x0) ds [] K q):=by
 intro n
 induction n with
 | zero=>exact ⟨λh=>h.elim,λh=>h.elim⟩
 | succ n ih =>
 obtain ⟨i,i2⟩:=ih;exact ⟨λh=>jp (i2 h),
  λh=>bR h (λh=>c2 h λh=>tv<|bR h (λh=>tT<|rh h) λh=>bR h (λh=>c1 h λh=>c2 h λh=>bR h (λh=>rh h) λh=>c1 h λh=>jp (i2 h)) λh=>tF<|c1 h λh=>jp (i2 h)) λh=>rh h⟩
def aGx (x0:List bX) (i:Nat) (x:bX):Bool :=
 tC x&&(i==0 || !(bE (aB x.1) (aB (x0.getD (i - 1) (aC,(0:Int),(0:Int),())).1)||aB x.1==aB (x0.getD (i - 1) (aC,(0:Int),(0:Int),())).1))
def rR (x0:List bX):Bool:=lC (aGx x0) 0 x0&&decide (x0.length<=12)
def P63 (x0:List bX):Prop:=True
theorem aJa (n i : Nat) (x0 : List bX) (hm : x0.length <= maxLen) (hi : i < x0.length) (ds : List aY) :
    (if aGx x0 i (x0.getD i (aC, (0 : Int), (0 : Int), ())) = true then Jx n ((i : Int) + 1) x0 ds else ds = [⟨.bool, false⟩]) -> Jx (n + 1) (i : Int) x0 ds := by
  intro h;have hu := fC hm hi;rw [Jx, if_pos (by simp; omega)];refine ⟨by omega, by omega, ?_⟩;simp only [aF];unfold aGx at h;by_cases h1 : tC (x0.getD i (aC, (0 : Int), (0 : Int), ())) = true
  case neg =>
    have h1 := BE h1;rw [h1] at h;rw [if_pos (by rw [h1]; rfl)];simpa using h
  case pos =>
    rw [h1] at h;rw [if_neg (by rw [h1]; simp)];by_cases h0 : (i : Int) > 0
    · rw [if_pos (by simpa using h0)]
      have hi0 : (i == 0) = false := by simp; omega
      have e : ((i : Int) - 1).toNat = i - 1 := by omega
      refine ⟨by rw [aK]; have : maxLen <= 9223372036854775807 := by decide
                 omega, by omega, by omega, ?_⟩
      rw [e];by_cases h2 : (bE (aB (x0.getD i (aC, (0 : Int), (0 : Int), ())).1) (aB (x0.getD (i - 1) (aC, (0 : Int), (0 : Int), ())).1) || aB (x0.getD i (aC, (0 : Int), (0 : Int), ())).1 == aB (x0.getD (i - 1) (aC, (0 : Int), (0 : Int), ())).1) = true
      · rw [if_pos h2]
        rw [hi0, h2] at h;simpa using h
      · rw [if_neg h2]
        rw [hi0, BE h2] at h;exact ⟨hu, by simpa using h⟩
    · rw [if_neg (by simpa using h0)]
      have hi0 : (i == 0) = true := by simp; omega
      rw [hi0] at h;exact ⟨hu, by simpa using h⟩
theorem aYC (x0:List bX) (hw:x0.length<=maxLen):R63 (x0.length+1+1) x0 [⟨.bool,rR x0⟩]:=by
 rw [R63];have key:=jU x0 (aC,(0:Int),(0:Int),()) (aGx x0) [(⟨.bool,false⟩:aY)] [⟨.bool,decide (x0.length<=12)⟩] (λn i ds=>Jx n i x0 ds) (λn => ?_) (λn i hi hok ds hr => ?_) (λn i hi hok => ?_)
 ·unfold rR;cases h:lC (aGx x0) 0 x0 with
  | true=>rw [if_pos h] at key;simpa using key
  | false=>rw [if_neg (by rw [h];simp)] at key;simpa using key
 ·rw [Jx,if_neg (by simp)];have hc:decide ((x0.length:Int)<=12)=decide (x0.length<=12):=by
   congr 1;exact propext ⟨λh=>by omega,λh=>by omega⟩
  rw [hc]
 ·exact aJa n i x0 hw hi ds (by rw [if_pos hok];exact hr)
 ·exact aJa n i x0 hw hi _ (by rw [if_neg (by rw [hok];simp)])
def S63:=dR d63 (λ⟨x0,_⟩=>P63 x0) λ⟨x0,_⟩=>[⟨.bool,rR x0⟩]
theorem aPP:c7 63 S63:=dF o63 (λ⟨x0,_⟩ h hwf K q =>
 (aYB _ K q _).1 (aYC x0 hwf.1.1))
noncomputable def aYD:dB:=⟨117,Tryz.f117,[.v (.int .i64)],[.bool],[],[(108,p8)],false,[]⟩
theorem bHw:FO aYD:=mo Tryz.func117 ⟨iA,trivial⟩
def bHx (x0:Int):Prop:=True
def aJb (x0:Int):Bool:=cD x0 0 10000000
def aYE:=dR aYD (λ⟨x0,_⟩=>bHx x0) λ⟨x0,_⟩=>[⟨.bool,aJb x0⟩]
theorem aR3:c7 117 aYE:=dF bHw λ⟨x0,_⟩ h _ K q=>tv<|rt
noncomputable def d64:dB:=⟨64,Tryz.f64,[.v X1],[.bool],[],[(108,p8),(117,aYE)],false,[]⟩
theorem o64:FO d64:=mo Tryz.func64 ⟨iA,aR3,trivial⟩
def P64 (x0:Int×Int×Int×Int×Unit):Prop:=True
def uG (x0:Int×Int×Int×Int×Unit):Bool:=(if (cD x0.1 1 20000)=true then (if (cD x0.2.1 1 1000)=true then (if (aJb x0.2.2.1)=true then cD x0.2.2.2.1 0 1000 else false) else false) else false)
def S64:=dR d64 (λ⟨x0,_⟩=>P64 x0) λ⟨x0,_⟩=>[⟨.bool,uG x0⟩]
theorem aJc:c7 64 S64:=dF o64 λ⟨x0,_⟩ h _ K q=>tv<|e1 (tv<|e1 (tv<|e1 (tv<|rt) (rt)) (tF<|rt)) (tF<|tF<|rt)
noncomputable def aYF:dB:=⟨118,Tryz.f118,[.v gT],[.bool],[],[(177,aGw),(108,p8)],false,[]⟩
theorem bHy:FO aYF:=mo Tryz.func118 ⟨QD,iA,trivial⟩
def bHz (x0:ByteArray×Int×Int×Int×Unit):Prop:=True
def rU (x0:ByteArray×Int×Int×Int×Unit):Bool:=(if (qJ x0.1)=true then (if (cD x0.2.1 0 100000)=true then (if (cD x0.2.2.1 1 1000)=true then cD x0.2.2.2.1 1 400 else false) else false) else false)
def aR4:=dR aYF (λ⟨x0,_⟩=>bHz x0) λ⟨x0,_⟩=>[⟨.bool,rU x0⟩]
theorem aJd:c7 118 aR4:=dF bHy λ⟨x0,_⟩ h _ K q=>tv<|e1 (tv<|e1 (tv<|e1 (tv<|rt) (rt)) (tF<|rt)) (tF<|tF<|rt)
noncomputable def d65:dB:=⟨65,Tryz.f65,[.v (.sl gT)],[.bool],[],[(118,aR4)],false,[]⟩
theorem o65:FO d65:=mo Tryz.func65 ⟨aJd,trivial⟩
def aYG (v7:Int) (x0:List dG):eD×bG:=([eL 0 gT x0,eL 5 gT x0,eI 6 (x0.length:Int),eI 7 v7],[])
mutual
def R65:Nat->List dG->List aY->Prop
 | 0,_,_=>False
 | n+1,x0,ds=>(Jy n (0) (x0) ds)
def Jy:Nat->Int->List dG->List aY->Prop
 | 0,_,_,_=>False
 | n+1,v7,x0,ds=>(if (decide (v7<(x0.length:Int)))=true then ((0<=v7)/\(v7<(x0.length:Int))/\(if (!rU (aD x0 (aE v7) (aC,0,0,0,())))=true then (ds=[aP .bool false]) else (if (decide (v7>0))=true then ((cC .i64 (v7 - 1))/\((0<=v7 - 1)/\(v7 - 1<(x0.length:Int))/\(if (bE (aB (aD x0 (aE v7) (aC,0,0,0,())).1) (aB (aD x0 (aE (v7 - 1)) (aC,0,0,0,())).1)||aB (aD x0 (aE v7) (aC,0,0,0,())).1==aB (aD x0 (aE (v7 - 1)) (aC,0,0,0,())).1)=true then (ds=[aP .bool false]) else ((cC .i64 (v7+1))/\(Jy n (v7+1) (x0) ds))))) else ((cC .i64 (v7+1))/\(Jy n (v7+1) (x0) ds))))) else (ds=[aP .bool (decide ((x0.length:Int)<=8))]))
end
theorem aYH (ds:List aY) (K:jK) (q:Nat->Value):∀ n,(∀ {x0},R65 n x0 ds->St d65 (x0,()) ds [] K q)/\(∀ {v7 x0},Jy n v7 x0 ds->Cu d65 2 (aYG v7 x0) ds [] K q):=by
 intro n
 induction n with
 | zero=>exact ⟨λh=>h.elim,λh=>h.elim⟩
 | succ n ih =>
 obtain ⟨i,i2⟩:=ih;exact ⟨λh=>jp (i2 h),
  λh=>bR h (λh=>c2 h λh=>tv<|bR h (λh=>tT<|rh h) λh=>bR h (λh=>c1 h λh=>c2 h λh=>bR h (λh=>rh h) λh=>c1 h λh=>jp (i2 h)) λh=>tF<|c1 h λh=>jp (i2 h)) λh=>rh h⟩
def aBR (x0:List dG) (i:Nat) (x:dG):Bool :=
 rU x&&(i==0 || !(bE (aB x.1) (aB (x0.getD (i - 1) (aC,(0:Int),(0:Int),(0:Int),())).1)||aB x.1==aB (x0.getD (i - 1) (aC,(0:Int),(0:Int),(0:Int),())).1))
def qK (x0:List dG):Bool:=lC (aBR x0) 0 x0&&decide (x0.length<=8)
def P65 (x0:List dG):Prop:=True
theorem aJe (n i : Nat) (x0 : List dG) (hm : x0.length <= maxLen) (hi : i < x0.length) (ds : List aY) :
    (if aBR x0 i (x0.getD i (aC, (0 : Int), (0 : Int), (0 : Int), ())) = true then Jy n ((i : Int) + 1) x0 ds else ds = [⟨.bool, false⟩]) -> Jy (n + 1) (i : Int) x0 ds := by
  intro h;have hu := fC hm hi;rw [Jy, if_pos (by simp; omega)];refine ⟨by omega, by omega, ?_⟩;simp only [aF];unfold aBR at h;by_cases h1 : rU (x0.getD i (aC, (0 : Int), (0 : Int), (0 : Int), ())) = true
  case neg =>
    have h1 := BE h1;rw [h1] at h;rw [if_pos (by rw [h1]; rfl)];simpa using h
  case pos =>
    rw [h1] at h;rw [if_neg (by rw [h1]; simp)];by_cases h0 : (i : Int) > 0
    · rw [if_pos (by simpa using h0)]
      have hi0 : (i == 0) = false := by simp; omega
      have e : ((i : Int) - 1).toNat = i - 1 := by omega
      refine ⟨by rw [aK]; have : maxLen <= 9223372036854775807 := by decide
                 omega, by omega, by omega, ?_⟩
      rw [e];by_cases h2 : (bE (aB (x0.getD i (aC, (0 : Int), (0 : Int), (0 : Int), ())).1) (aB (x0.getD (i - 1) (aC, (0 : Int), (0 : Int), (0 : Int), ())).1) || aB (x0.getD i (aC, (0 : Int), (0 : Int), (0 : Int), ())).1 == aB (x0.getD (i - 1) (aC, (0 : Int), (0 : Int), (0 : Int), ())).1) = true
      · rw [if_pos h2]
        rw [hi0, h2] at h;simpa using h
      · rw [if_neg h2]
        rw [hi0, BE h2] at h;exact ⟨hu, by simpa using h⟩
    · rw [if_neg (by simpa using h0)]
      have hi0 : (i == 0) = true := by simp; omega
      rw [hi0] at h;exact ⟨hu, by simpa using h⟩
theorem aYI (x0:List dG) (hw:x0.length<=maxLen):R65 (x0.length+1+1) x0 [⟨.bool,qK x0⟩]:=by
 rw [R65];have key:=jU x0 (aC,(0:Int),(0:Int),(0:Int),()) (aBR x0) [(⟨.bool,false⟩:aY)] [⟨.bool,decide (x0.length<=8)⟩] (λn i ds=>Jy n i x0 ds) (λn => ?_) (λn i hi hok ds hr => ?_) (λn i hi hok => ?_)
 ·unfold qK;cases h:lC (aBR x0) 0 x0 with
  | true=>rw [if_pos h] at key;simpa using key
  | false=>rw [if_neg (by rw [h];simp)] at key;simpa using key
 ·rw [Jy,if_neg (by simp)];have hc:decide ((x0.length:Int)<=8)=decide (x0.length<=8):=by
   congr 1;exact propext ⟨λh=>by omega,λh=>by omega⟩
  rw [hc]
 ·exact aJe n i x0 hw hi ds (by rw [if_pos hok];exact hr)
 ·exact aJe n i x0 hw hi _ (by rw [if_neg (by rw [hok];simp)])
def S65:=dR d65 (λ⟨x0,_⟩=>P65 x0) λ⟨x0,_⟩=>[⟨.bool,qK x0⟩]
theorem aPQ:c7 65 S65:=dF o65 (λ⟨x0,_⟩ h hwf K q =>
 (aYH _ K q _).1 (aYI x0 hwf.1.1))
noncomputable def aYJ:dB:=⟨239,Tryz.f239,[.v (.int .i64)],[.bool],[],[(108,p8)],false,[]⟩
theorem bH2:FO aYJ:=mo Tryz.func239 ⟨iA,trivial⟩
def bH3 (x0:Int):Prop:=True
def rV (x0:Int):Bool:=cD x0 0 36524
def aJf:=dR aYJ (λ⟨x0,_⟩=>bH3 x0) λ⟨x0,_⟩=>[⟨.bool,rV x0⟩]
theorem VX:c7 239 aJf:=dF bH2 λ⟨x0,_⟩ h _ K q=>tv<|rt
noncomputable def aYK:dB:=⟨186,Tryz.f186,[.v (.int .i64)],[.bool],[],[(108,p8)],false,[]⟩
theorem bH4:FO aYK:=mo Tryz.func186 ⟨iA,trivial⟩
def bH5 (x0:Int):Prop:=True
def VY (x0:Int):Bool:=cD x0 0 1000
def aNr:=dR aYK (λ⟨x0,_⟩=>bH5 x0) λ⟨x0,_⟩=>[⟨.bool,VY x0⟩]
theorem aBS:c7 186 aNr:=dF bH4 λ⟨x0,_⟩ h _ K q=>tv<|rt
noncomputable def aYL:dB:=⟨184,Tryz.f184,[.v fL],[.bool],[],[(239,aJf),(108,p8),(186,aNr)],false,[]⟩
theorem bH6:FO aYL:=mo Tryz.func184 ⟨VX,iA,aBS,trivial⟩
def bH7 (x0:Int×Int×Int×Unit):Prop:=True
def tD (x0:Int×Int×Int×Unit):Bool:=(if (rV x0.1)=true then (if (cD x0.2.1 0 24000)=true then VY x0.2.2.1 else false) else false)
def aNs:=dR aYL (λ⟨x0,_⟩=>bH7 x0) λ⟨x0,_⟩=>[⟨.bool,tD x0⟩]
theorem aBT:c7 184 aNs:=dF bH6 λ⟨x0,_⟩ h _ K q=>tv<|e1 (tv<|e1 (tv<|rt) (rt)) (tF<|rt)
noncomputable def aNt:dB:=⟨119,Tryz.f119,[.v (.sl fL)],[.bool],[],[(184,aNs)],false,[]⟩
theorem bH8:FO aNt:=mo Tryz.func119 ⟨aBT,trivial⟩
def aR5 (v7:Int) (x0:List cU):eD×bG:=([eL 0 fL x0,eL 5 fL x0,eI 6 (x0.length:Int),eI 7 v7],[])
mutual
def aR6:Nat->List cU->List aY->Prop
 | 0,_,_=>False
 | n+1,x0,ds=>(DW n (0) (x0) ds)
def DW:Nat->Int->List cU->List aY->Prop
 | 0,_,_,_=>False
 | n+1,v7,x0,ds=>(if (decide (v7<(x0.length:Int)))=true then ((0<=v7)/\(v7<(x0.length:Int))/\(if (!tD (aD x0 (aE v7) (0,0,0,())))=true then (ds=[aP .bool false]) else (if (decide (v7>0))=true then ((cC .i64 (v7 - 1))/\((0<=v7 - 1)/\(v7 - 1<(x0.length:Int))/\(if (decide ((aD x0 (aE v7) (0,0,0,())).1<=(aD x0 (aE (v7 - 1)) (0,0,0,())).1))=true then (ds=[aP .bool false]) else ((cC .i64 (v7 - 1))/\((0<=v7 - 1)/\(v7 - 1<(x0.length:Int))/\(if (decide ((aD x0 (aE v7) (0,0,0,())).2.1<(aD x0 (aE (v7 - 1)) (0,0,0,())).2.1))=true then (ds=[aP .bool false]) else ((cC .i64 (v7 - 1))/\((0<=v7 - 1)/\(v7 - 1<(x0.length:Int))/\(if (decide ((aD x0 (aE v7) (0,0,0,())).2.2.1<(aD x0 (aE (v7 - 1)) (0,0,0,())).2.2.1))=true then (ds=[aP .bool false]) else ((cC .i64 (v7+1))/\(DW n (v7+1) (x0) ds))))))))))) else ((cC .i64 (v7+1))/\(DW n (v7+1) (x0) ds))))) else (ds=[aP .bool true]))
end
theorem aR7 (ds:List aY) (K:jK) (q:Nat->Value):∀ n,(∀ {x0},aR6 n x0 ds->St aNt (x0,()) ds [] K q)/\(∀ {v7 x0},DW n v7 x0 ds->Cu aNt 2 (aR5 v7 x0) ds [] K q):=by
 intro n
 induction n with
 | zero=>exact ⟨λh=>h.elim,λh=>h.elim⟩
 | succ n ih =>
 obtain ⟨i,i2⟩:=ih;exact ⟨λh=>jp (i2 h),
  λh=>bR h (λh=>c2 h λh=>tv<|bR h (λh=>rh h) λh=>bR h (λh=>c1 h λh=>c2 h λh=>bR h (λh=>tT<|tT<|rh h) λh=>c1 h λh=>c2 h λh=>bR h (λh=>tT<|rh h) λh=>c1 h λh=>c2 h λh=>bR h (λh=>rh h) λh=>c1 h λh=>jp (i2 h)) λh=>tF<|c1 h λh=>jp (i2 h)) λh=>rh h⟩
def aBU (y x:cU):Bool:=decide (y.1<x.1)&&decide (y.2.1<=x.2.1)&&decide (y.2.2.1<=x.2.2.1)
def N3 (x0:List cU) (i:Nat) (x:cU):Bool:=tD x&&(i==0||aBU (x0.getD (i - 1) ((0:Int),(0:Int),(0:Int),())) x)
def AQ (x0:List cU):Bool:=lC (N3 x0) 0 x0
def bH9 (x0:List cU):Prop:=True
theorem aFa (n i:Nat) (x0:List cU) (hm:x0.length<=maxLen) (hi:i<x0.length) (ds:List aY)
  (h:if N3 x0 i (x0.getD i ((0:Int),(0:Int),(0:Int),()))=true then DW n ((i:Int)+1) x0 ds else ds=[⟨.bool,false⟩]):DW (n+1) (i:Int) x0 ds:=by
 have hu:=fC hm hi;have hmx:maxLen<=9223372036854775807:=by decide
 rw [DW,if_pos (by simp;omega)];refine ⟨by omega,by omega,?_⟩;simp only [aF];unfold N3 aBU at h;by_cases hv:tD (x0.getD i ((0:Int),(0:Int),(0:Int),()))=true
 case neg=>rw [BE hv] at h;rw [if_pos (by rw [BE hv];rfl)];simpa using h
 rw [if_neg (by rw [hv];simp)];rw [hv] at h;by_cases h0:(i:Int)>0
 case neg =>
  rw [if_neg (by simpa using h0)];have hi0:(i==0)=true:=by simp;omega
  rw [hi0] at h;exact ⟨hu,by simpa using h⟩
 rw [if_pos (by simpa using h0)];have hi0:(i==0)=false:=by simp;omega
 have e:((i:Int) - 1).toNat=i - 1:=by omega
 have hd:cC .i64 ((i:Int) - 1):=by rw [aK];omega
 rw [hi0] at h;simp only [e];refine ⟨hd,by omega,by omega,?_⟩;by_cases c0:(x0.getD i ((0:Int),(0:Int),(0:Int),())).1<=(x0.getD (i - 1) ((0:Int),(0:Int),(0:Int),())).1
 case pos =>
  rw [if_pos (decide_eq_true c0)];have:decide ((x0.getD (i - 1) ((0:Int),(0:Int),(0:Int),())).1<(x0.getD i ((0:Int),(0:Int),(0:Int),())).1)=false:=decide_eq_false (by omega);rw [this] at h;simpa using h
 rw [if_neg (by simpa using c0)];refine ⟨hd,by omega,by omega,?_⟩;by_cases c1:(x0.getD i ((0:Int),(0:Int),(0:Int),())).2.1<(x0.getD (i - 1) ((0:Int),(0:Int),(0:Int),())).2.1
 case pos =>
  rw [if_pos (decide_eq_true c1)];have:decide ((x0.getD (i - 1) ((0:Int),(0:Int),(0:Int),())).2.1<=(x0.getD i ((0:Int),(0:Int),(0:Int),())).2.1)=false:=decide_eq_false (by omega);rw [this] at h;simpa using h
 rw [if_neg (by simpa using c1)];refine ⟨hd,by omega,by omega,?_⟩;by_cases c2:(x0.getD i ((0:Int),(0:Int),(0:Int),())).2.2.1<(x0.getD (i - 1) ((0:Int),(0:Int),(0:Int),())).2.2.1
 case pos =>
  rw [if_pos (decide_eq_true c2)];have:decide ((x0.getD (i - 1) ((0:Int),(0:Int),(0:Int),())).2.2.1<=(x0.getD i ((0:Int),(0:Int),(0:Int),())).2.2.1)=false:=decide_eq_false (by omega);rw [this] at h;simpa using h
 rw [if_neg (by simpa using c2)];have d0:decide ((x0.getD (i - 1) ((0:Int),(0:Int),(0:Int),())).1<(x0.getD i ((0:Int),(0:Int),(0:Int),())).1)=true:=decide_eq_true (by omega);have d1:decide ((x0.getD (i - 1) ((0:Int),(0:Int),(0:Int),())).2.1<=(x0.getD i ((0:Int),(0:Int),(0:Int),())).2.1)=true:=decide_eq_true (by omega);have d2:decide ((x0.getD (i - 1) ((0:Int),(0:Int),(0:Int),())).2.2.1<=(x0.getD i ((0:Int),(0:Int),(0:Int),())).2.2.1)=true:=decide_eq_true (by omega);rw [d0,d1,d2] at h;exact ⟨hu,by simpa using h⟩
theorem aR8 (x0:List cU) (hw:x0.length<=maxLen):aR6 (x0.length+1+1) x0 [⟨.bool,AQ x0⟩]:=by
 rw [aR6];have key:=jU x0 ((0:Int),(0:Int),(0:Int),()) (N3 x0) [(⟨.bool,false⟩:aY)] [⟨.bool,true⟩] (λn i ds=>DW n i x0 ds) (λn => ?_) (λn i hi hok ds hr => ?_) (λn i hi hok => ?_)
 ·unfold AQ;cases h:lC (N3 x0) 0 x0 with
  | true=>rw [if_pos h] at key;simpa using key
  | false=>rw [if_neg (by rw [h];simp)] at key;simpa using key
 ·rw [DW,if_neg (by simp)]
 ·exact aFa n i x0 hw hi ds (by rw [if_pos hok];exact hr)
 ·exact aFa n i x0 hw hi _ (by rw [if_neg (by rw [hok];simp)])
def aR9:=dR aNt (λ⟨x0,_⟩=>bH9 x0) λ⟨x0,_⟩=>[⟨.bool,AQ x0⟩]
theorem aJg:c7 119 aR9:=dF bH8 (λ⟨x0,_⟩ h hwf K q =>
 (aR7 _ K q _).1 (aR8 x0 hwf.1.1))
noncomputable def d66:dB:=⟨66,Tryz.f66,[.v (.sl fL)],[.bool],[],[(119,aR9)],false,[]⟩
theorem o66:FO d66:=mo Tryz.func66 ⟨aJg,trivial⟩
def P66 (x0:List cU):Prop:=True
def jV (x0:List cU):Bool:=(if (AQ x0)=true then decide ((x0.length:Int)<=24) else false)
def S66:=dR d66 (λ⟨x0,_⟩=>P66 x0) λ⟨x0,_⟩=>[⟨.bool,jV x0⟩]
theorem Tz:c7 66 S66:=dF o66 λ⟨x0,_⟩ h _ K q=>tv<|e1 (rt) (rt)
noncomputable def aYM:dB:=⟨185,Tryz.f185,[.v (.int .i64)],[.bool],[],[(108,p8)],false,[]⟩
theorem bHA:FO aYM:=mo Tryz.func185 ⟨iA,trivial⟩
def bHB (x0:Int):Prop:=True
def FV (x0:Int):Bool:=cD x0 0 7
def aNu:=dR aYM (λ⟨x0,_⟩=>bHB x0) λ⟨x0,_⟩=>[⟨.bool,FV x0⟩]
theorem aBV:c7 185 aNu:=dF bHA λ⟨x0,_⟩ h _ K q=>tv<|rt
noncomputable def aYN:dB:=⟨120,Tryz.f120,[.v fP],[.bool],[],[(177,aGw),(185,aNu),(186,aNr)],false,[]⟩
theorem bHC:FO aYN:=mo Tryz.func120 ⟨QD,aBV,aBS,trivial⟩
def bHD (x0:ByteArray×Int×Int×Unit):Prop:=True
def yH (x0:ByteArray×Int×Int×Unit):Bool:=(if (qJ x0.1)=true then (if (FV x0.2.1)=true then VY x0.2.2.1 else false) else false)
def aRA:=dR aYN (λ⟨x0,_⟩=>bHD x0) λ⟨x0,_⟩=>[⟨.bool,yH x0⟩]
theorem aJh:c7 120 aRA:=dF bHC λ⟨x0,_⟩ h _ K q=>tv<|e1 (tv<|e1 (tv<|rt) (rt)) (tF<|rt)
noncomputable def d67:dB:=⟨67,Tryz.f67,[.v (.sl fP)],[.bool],[],[(120,aRA)],false,[]⟩
theorem o67:FO d67:=mo Tryz.func67 ⟨aJh,trivial⟩
def aYO (v7:Int) (x0:List bX):eD×bG:=([eL 0 fP x0,eL 5 fP x0,eI 6 (x0.length:Int),eI 7 v7],[])
mutual
def R67:Nat->List bX->List aY->Prop
 | 0,_,_=>False
 | n+1,x0,ds=>(Jz n (0) (x0) ds)
def Jz:Nat->Int->List bX->List aY->Prop
 | 0,_,_,_=>False
 | n+1,v7,x0,ds=>(if (decide (v7<(x0.length:Int)))=true then ((0<=v7)/\(v7<(x0.length:Int))/\(if (!yH (aD x0 (aE v7) (aC,0,0,())))=true then (ds=[aP .bool false]) else (if (decide (v7>0))=true then ((cC .i64 (v7 - 1))/\((0<=v7 - 1)/\(v7 - 1<(x0.length:Int))/\(if (bE (aB (aD x0 (aE v7) (aC,0,0,())).1) (aB (aD x0 (aE (v7 - 1)) (aC,0,0,())).1)||aB (aD x0 (aE v7) (aC,0,0,())).1==aB (aD x0 (aE (v7 - 1)) (aC,0,0,())).1)=true then (ds=[aP .bool false]) else ((cC .i64 (v7+1))/\(Jz n (v7+1) (x0) ds))))) else ((cC .i64 (v7+1))/\(Jz n (v7+1) (x0) ds))))) else (ds=[aP .bool (decide ((x0.length:Int)<=10))]))
end
theorem aYP (ds:List aY) (K:jK) (q:Nat->Value):∀ n,(∀ {x0},R67 n x0 ds->St d67 (x0,()) ds [] K q)/\(∀ {v7 x0},Jz n v7 x0 ds->Cu d67 2 (aYO v7 x0) ds [] K q):=by
 intro n
 induction n with
 | zero=>exact ⟨λh=>h.elim,λh=>h.elim⟩
 | succ n ih =>
 obtain ⟨i,i2⟩:=ih;exact ⟨λh=>jp (i2 h),
  λh=>bR h (λh=>c2 h λh=>tv<|bR h (λh=>tT<|rh h) λh=>bR h (λh=>c1 h λh=>c2 h λh=>bR h (λh=>rh h) λh=>c1 h λh=>jp (i2 h)) λh=>tF<|c1 h λh=>jp (i2 h)) λh=>rh h⟩
def aGy (x0:List bX) (i:Nat) (x:bX):Bool :=
 yH x&&(i==0 || !(bE (aB x.1) (aB (x0.getD (i - 1) (aC,(0:Int),(0:Int),())).1)||aB x.1==aB (x0.getD (i - 1) (aC,(0:Int),(0:Int),())).1))
def xV (x0:List bX):Bool:=lC (aGy x0) 0 x0&&decide (x0.length<=10)
def P67 (x0:List bX):Prop:=True
theorem aJi (n i : Nat) (x0 : List bX) (hm : x0.length <= maxLen) (hi : i < x0.length) (ds : List aY) :
    (if aGy x0 i (x0.getD i (aC, (0 : Int), (0 : Int), ())) = true then Jz n ((i : Int) + 1) x0 ds else ds = [⟨.bool, false⟩]) -> Jz (n + 1) (i : Int) x0 ds := by
  intro h;have hu := fC hm hi;rw [Jz, if_pos (by simp; omega)];refine ⟨by omega, by omega, ?_⟩;simp only [aF];unfold aGy at h;by_cases h1 : yH (x0.getD i (aC, (0 : Int), (0 : Int), ())) = true
  case neg =>
    have h1 := BE h1;rw [h1] at h;rw [if_pos (by rw [h1]; rfl)];simpa using h
  case pos =>
    rw [h1] at h;rw [if_neg (by rw [h1]; simp)];by_cases h0 : (i : Int) > 0
    · rw [if_pos (by simpa using h0)]
      have hi0 : (i == 0) = false := by simp; omega
      have e : ((i : Int) - 1).toNat = i - 1 := by omega
      refine ⟨by rw [aK]; have : maxLen <= 9223372036854775807 := by decide
                 omega, by omega, by omega, ?_⟩
      rw [e];by_cases h2 : (bE (aB (x0.getD i (aC, (0 : Int), (0 : Int), ())).1) (aB (x0.getD (i - 1) (aC, (0 : Int), (0 : Int), ())).1) || aB (x0.getD i (aC, (0 : Int), (0 : Int), ())).1 == aB (x0.getD (i - 1) (aC, (0 : Int), (0 : Int), ())).1) = true
      · rw [if_pos h2]
        rw [hi0, h2] at h;simpa using h
      · rw [if_neg h2]
        rw [hi0, BE h2] at h;exact ⟨hu, by simpa using h⟩
    · rw [if_neg (by simpa using h0)]
      have hi0 : (i == 0) = true := by simp; omega
      rw [hi0] at h;exact ⟨hu, by simpa using h⟩
theorem aYQ (x0:List bX) (hw:x0.length<=maxLen):R67 (x0.length+1+1) x0 [⟨.bool,xV x0⟩]:=by
 rw [R67];have key:=jU x0 (aC,(0:Int),(0:Int),()) (aGy x0) [(⟨.bool,false⟩:aY)] [⟨.bool,decide (x0.length<=10)⟩] (λn i ds=>Jz n i x0 ds) (λn => ?_) (λn i hi hok ds hr => ?_) (λn i hi hok => ?_)
 ·unfold xV;cases h:lC (aGy x0) 0 x0 with
  | true=>rw [if_pos h] at key;simpa using key
  | false=>rw [if_neg (by rw [h];simp)] at key;simpa using key
 ·rw [Jz,if_neg (by simp)];have hc:decide ((x0.length:Int)<=10)=decide (x0.length<=10):=by
   congr 1;exact propext ⟨λh=>by omega,λh=>by omega⟩
  rw [hc]
 ·exact aJi n i x0 hw hi ds (by rw [if_pos hok];exact hr)
 ·exact aJi n i x0 hw hi _ (by rw [if_neg (by rw [hok];simp)])
def S67:=dR d67 (λ⟨x0,_⟩=>P67 x0) λ⟨x0,_⟩=>[⟨.bool,xV x0⟩]
theorem aPR:c7 67 S67:=dF o67 (λ⟨x0,_⟩ h hwf K q =>
 (aYP _ K q _).1 (aYQ x0 hwf.1.1))
noncomputable def aYR:dB:=⟨121,Tryz.f121,[.v fP],[.bool],[],[(177,aGw),(185,aNu),(186,aNr)],false,[]⟩
theorem bHG:FO aYR:=mo Tryz.func121 ⟨QD,aBV,aBS,trivial⟩
def bHH (x0:ByteArray×Int×Int×Unit):Prop:=True
def yI (x0:ByteArray×Int×Int×Unit):Bool:=(if (qJ x0.1)=true then (if (FV x0.2.1)=true then VY x0.2.2.1 else false) else false)
def aRB:=dR aYR (λ⟨x0,_⟩=>bHH x0) λ⟨x0,_⟩=>[⟨.bool,yI x0⟩]
theorem aJj:c7 121 aRB:=dF bHG λ⟨x0,_⟩ h _ K q=>tv<|e1 (tv<|e1 (tv<|rt) (rt)) (tF<|rt)
noncomputable def d68:dB:=⟨68,Tryz.f68,[.v (.sl fP)],[.bool],[],[(121,aRB)],false,[]⟩
theorem o68:FO d68:=mo Tryz.func68 ⟨aJj,trivial⟩
def aYS (v7:Int) (x0:List bX):eD×bG:=([eL 0 fP x0,eL 5 fP x0,eI 6 (x0.length:Int),eI 7 v7],[])
mutual
def R68:Nat->List bX->List aY->Prop
 | 0,_,_=>False
 | n+1,x0,ds=>(KA n (0) (x0) ds)
def KA:Nat->Int->List bX->List aY->Prop
 | 0,_,_,_=>False
 | n+1,v7,x0,ds=>(if (decide (v7<(x0.length:Int)))=true then ((0<=v7)/\(v7<(x0.length:Int))/\(if (!yI (aD x0 (aE v7) (aC,0,0,())))=true then (ds=[aP .bool false]) else (if (decide (v7>0))=true then ((cC .i64 (v7 - 1))/\((0<=v7 - 1)/\(v7 - 1<(x0.length:Int))/\(if (bE (aB (aD x0 (aE v7) (aC,0,0,())).1) (aB (aD x0 (aE (v7 - 1)) (aC,0,0,())).1)||aB (aD x0 (aE v7) (aC,0,0,())).1==aB (aD x0 (aE (v7 - 1)) (aC,0,0,())).1)=true then (ds=[aP .bool false]) else ((cC .i64 (v7+1))/\(KA n (v7+1) (x0) ds))))) else ((cC .i64 (v7+1))/\(KA n (v7+1) (x0) ds))))) else (ds=[aP .bool (decide ((x0.length:Int)<=8))]))
end
theorem aYT (ds:List aY) (K:jK) (q:Nat->Value):∀ n,(∀ {x0},R68 n x0 ds->St d68 (x0,()) ds [] K q)/\(∀ {v7 x0},KA n v7 x0 ds->Cu d68 2 (aYS v7 x0) ds [] K q):=by
 intro n
 induction n with
 | zero=>exact ⟨λh=>h.elim,λh=>h.elim⟩
 | succ n ih =>
 obtain ⟨i,i2⟩:=ih;exact ⟨λh=>jp (i2 h),
  λh=>bR h (λh=>c2 h λh=>tv<|bR h (λh=>tT<|rh h) λh=>bR h (λh=>c1 h λh=>c2 h λh=>bR h (λh=>rh h) λh=>c1 h λh=>jp (i2 h)) λh=>tF<|c1 h λh=>jp (i2 h)) λh=>rh h⟩
def aGz (x0:List bX) (i:Nat) (x:bX):Bool :=
 yI x&&(i==0 || !(bE (aB x.1) (aB (x0.getD (i - 1) (aC,(0:Int),(0:Int),())).1)||aB x.1==aB (x0.getD (i - 1) (aC,(0:Int),(0:Int),())).1))
def xW (x0:List bX):Bool:=lC (aGz x0) 0 x0&&decide (x0.length<=8)
def P68 (x0:List bX):Prop:=True
theorem aJk (n i : Nat) (x0 : List bX) (hm : x0.length <= maxLen) (hi : i < x0.length) (ds : List aY) :
    (if aGz x0 i (x0.getD i (aC, (0 : Int), (0 : Int), ())) = true then KA n ((i : Int) + 1) x0 ds else ds = [⟨.bool, false⟩]) -> KA (n + 1) (i : Int) x0 ds := by
  intro h;have hu := fC hm hi;rw [KA, if_pos (by simp; omega)];refine ⟨by omega, by omega, ?_⟩;simp only [aF];unfold aGz at h;by_cases h1 : yI (x0.getD i (aC, (0 : Int), (0 : Int), ())) = true
  case neg =>
    have h1 := BE h1;rw [h1] at h;rw [if_pos (by rw [h1]; rfl)];simpa using h
  case pos =>
    rw [h1] at h;rw [if_neg (by rw [h1]; simp)];by_cases h0 : (i : Int) > 0
    · rw [if_pos (by simpa using h0)]
      have hi0 : (i == 0) = false := by simp; omega
      have e : ((i : Int) - 1).toNat = i - 1 := by omega
      refine ⟨by rw [aK]; have : maxLen <= 9223372036854775807 := by decide
                 omega, by omega, by omega, ?_⟩
      rw [e];by_cases h2 : (bE (aB (x0.getD i (aC, (0 : Int), (0 : Int), ())).1) (aB (x0.getD (i - 1) (aC, (0 : Int), (0 : Int), ())).1) || aB (x0.getD i (aC, (0 : Int), (0 : Int), ())).1 == aB (x0.getD (i - 1) (aC, (0 : Int), (0 : Int), ())).1) = true
      · rw [if_pos h2]
        rw [hi0, h2] at h;simpa using h
      · rw [if_neg h2]
        rw [hi0, BE h2] at h;exact ⟨hu, by simpa using h⟩
    · rw [if_neg (by simpa using h0)]
      have hi0 : (i == 0) = true := by simp; omega
      rw [hi0] at h;exact ⟨hu, by simpa using h⟩
theorem aYU (x0:List bX) (hw:x0.length<=maxLen):R68 (x0.length+1+1) x0 [⟨.bool,xW x0⟩]:=by
 rw [R68];have key:=jU x0 (aC,(0:Int),(0:Int),()) (aGz x0) [(⟨.bool,false⟩:aY)] [⟨.bool,decide (x0.length<=8)⟩] (λn i ds=>KA n i x0 ds) (λn => ?_) (λn i hi hok ds hr => ?_) (λn i hi hok => ?_)
 ·unfold xW;cases h:lC (aGz x0) 0 x0 with
  | true=>rw [if_pos h] at key;simpa using key
  | false=>rw [if_neg (by rw [h];simp)] at key;simpa using key
 ·rw [KA,if_neg (by simp)];have hc:decide ((x0.length:Int)<=8)=decide (x0.length<=8):=by
   congr 1;exact propext ⟨λh=>by omega,λh=>by omega⟩
  rw [hc]
 ·exact aJk n i x0 hw hi ds (by rw [if_pos hok];exact hr)
 ·exact aJk n i x0 hw hi _ (by rw [if_neg (by rw [hok];simp)])
def S68:=dR d68 (λ⟨x0,_⟩=>P68 x0) λ⟨x0,_⟩=>[⟨.bool,xW x0⟩]
theorem aPS:c7 68 S68:=dF o68 (λ⟨x0,_⟩ h hwf K q =>
 (aYT _ K q _).1 (aYU x0 hwf.1.1))
noncomputable def d19:dB:=⟨19,Tryz.f19,[.v vP],[.bool],[],[(57,S57),(58,S58),(59,S59),(60,S60),(61,S61),(62,S62),(63,S63),(64,S64),(65,S65),(66,S66),(67,S67),(68,S68)],false,[]⟩
theorem o19:FO d19:=mo Tryz.func19 ⟨aPM,aIH,aPN,aPO,aIV,aIX,aPP,aJc,aPQ,Tz,aPR,aPS,trivial⟩
def P19 (x0:fV):Prop:=True
def BW (x0:fV):Bool:=(if (sL x0.1)=true then (if (BV x0.2.1)=true then (if (AN x0.2.2.1)=true then (if (yT x0.2.2.2.1)=true then (if (kW x0.2.2.2.2.2.1)=true then (if (rR x0.2.2.2.2.2.2.1)=true then (if (uG x0.2.2.2.2.2.2.2.1)=true then (if (vQ x0.2.2.2.2.1)=true then (if (qK x0.2.2.2.2.2.2.2.2.1)=true then (if (jV x0.2.2.2.2.2.2.2.2.2.1)=true then (if (xV x0.2.2.2.2.2.2.2.2.2.2.1)=true then xW x0.2.2.2.2.2.2.2.2.2.2.2.1 else false) else false) else false) else false) else (if (vQ x0.2.2.2.2.1)=true then false else false)) else (if (vQ x0.2.2.2.2.1)=true then false else false)) else (if (vQ x0.2.2.2.2.1)=true then false else false)) else (if (kW x0.2.2.2.2.2.1)=true then (if (rR x0.2.2.2.2.2.2.1)=true then (if (uG x0.2.2.2.2.2.2.2.1)=true then false else false) else false) else false)) else (if (kW x0.2.2.2.2.2.1)=true then (if (rR x0.2.2.2.2.2.2.1)=true then (if (uG x0.2.2.2.2.2.2.2.1)=true then false else false) else false) else false)) else (if (kW x0.2.2.2.2.2.1)=true then (if (rR x0.2.2.2.2.2.2.1)=true then (if (uG x0.2.2.2.2.2.2.2.1)=true then false else false) else false) else false)) else (if (kW x0.2.2.2.2.2.1)=true then (if (rR x0.2.2.2.2.2.2.1)=true then (if (uG x0.2.2.2.2.2.2.2.1)=true then false else false) else false) else false))
def S19:=dR d19 (λ⟨x0,_⟩=>P19 x0) λ⟨x0,_⟩=>[⟨.bool,BW x0⟩]
theorem aPT:c7 19 S19:=dF o19 λ⟨x0,_⟩ h _ K q=>tv<|e1 (tv<|e1 (tv<|e1 (tv<|e1 (tv<|tv<|e1 (tv<|e1 (tv<|e1 (tv<|e1 (e1 (tv<|e1 (tv<|e1 (tv<|rt) (rt)) (tF<|rt)) (tF<|tF<|rt)) (tF<|tF<|tF<|rt)) (e1 (tF<|tF<|tF<|rt) (tF<|tF<|tF<|rt))) (tF<|e1 (tF<|tF<|tF<|rt) (tF<|tF<|tF<|rt))) (tF<|tF<|e1 (tF<|tF<|tF<|rt) (tF<|tF<|tF<|rt))) (tv<|e1 (tv<|e1 (tv<|e1 (tv<|tF<|tF<|tF<|tF<|rt) (tF<|tF<|tF<|tF<|rt)) (tF<|tF<|tF<|tF<|tF<|rt)) (tF<|tF<|tF<|tF<|tF<|tF<|rt))) (tF<|tv<|e1 (tv<|e1 (tv<|e1 (tv<|tF<|tF<|tF<|tF<|rt) (tF<|tF<|tF<|tF<|rt)) (tF<|tF<|tF<|tF<|tF<|rt)) (tF<|tF<|tF<|tF<|tF<|tF<|rt))) (tF<|tF<|tv<|e1 (tv<|e1 (tv<|e1 (tv<|tF<|tF<|tF<|tF<|rt) (tF<|tF<|tF<|tF<|rt)) (tF<|tF<|tF<|tF<|tF<|rt)) (tF<|tF<|tF<|tF<|tF<|tF<|rt))) (tF<|tF<|tF<|tv<|e1 (tv<|e1 (tv<|e1 (tv<|tF<|tF<|tF<|tF<|rt) (tF<|tF<|tF<|tF<|rt)) (tF<|tF<|tF<|tF<|tF<|rt)) (tF<|tF<|tF<|tF<|tF<|tF<|rt))
noncomputable def d69:dB:=⟨69,Tryz.f69,[.v (.str)],[.str],[],[],false,[]⟩
theorem o69:FO d69:=mo Tryz.func69 trivial
def P69 (x0:ByteArray):Prop:=True
def jD (x0:ByteArray):ByteArray:=(if (aB x0==aB (aA #[98,97,115,105,110]))=true then aA #[116] else (if (aB x0==aB (aA #[98,101,110,100]))=true then aA #[116] else (if (aB x0==aB (aA #[102,97,114,101]))=true then aA #[116] else (if (aB x0==aB (aA #[104,101,108,112,101,114]))=true then aA #[116] else (if (aB x0==aB (aA #[104,111,117,114]))=true then aA #[116] else (if (aB x0==aB (aA #[109,111,116,111,114]))=true then aA #[116] else (if (aB x0==aB (aA #[114,111,112,101]))=true then aA #[116] else (if (aB x0==aB (aA #[116,97,115,107]))=true then aA #[116] else (if (aB x0==aB (aA #[116,101,115,116]))=true then aA #[116] else (if (aB x0==aB (aA #[119,111,114,107,101,114]))=true then aA #[116] else (if (aB x0==aB (aA #[101,118,101,110,116]))=true then aA #[110] else (if (aB x0==aB (aA #[114,101,115,101,114,118,101]))=true then aA #[110] else (if (aB x0==aB (aA #[115,108,111,119,101,115,116]))=true then aA #[110] else (if (aB x0==aB (aA #[99,111,118,101,114]))=true then aA #[110,110] else (if (aB x0==aB (aA #[100,117,101]))=true then aA #[110,110] else (if (aB x0==aB (aA #[112,111,119,101,114]))=true then aA #[110,110] else (if (aB x0==aB (aA #[108,105,109,105,116]))=true then aA #[110,110,110] else (if (aB x0==aB (aA #[119,97,116,101,114]))=true then aA #[110,110,110,110,110] else (if (aB x0==aB (aA #[116,114,105,112,115]))=true then aA #[108] else (if (aB x0==aB (aA #[118,111,116,101]))=true then aA #[108,110] else (if (aB x0==aB (aA #[113,117,101,117,101]))=true then aA #[97,110,110] else aA #[])))))))))))))))))))))
def S69:=dR d69 (λ⟨x0,_⟩=>P69 x0) λ⟨x0,_⟩=>[⟨.str,jD x0⟩]
theorem aPU:c7 69 S69:=dF o69 λ⟨x0,_⟩ h _ K q=>e1 (rt) (e1 (rt) (e1 (rt) (e1 (rt) (e1 (rt) (e1 (rt) (e1 (rt) (e1 (rt) (e1 (rt) (e1 (rt) (e1 (rt) (e1 (rt) (e1 (rt) (e1 (rt) (e1 (rt) (e1 (rt) (e1 (rt) (e1 (rt) (e1 (rt) (e1 (rt) (e1 (rt) (rt)))))))))))))))))))))
noncomputable def d71:dB:=⟨71,Tryz.f71,[],[.sl .str],[],[],false,[]⟩
theorem o71:FO d71:=mo Tryz.func71 trivial
def P71:Prop:=True
def N4:List ByteArray:=[aA #[98,97,115,105,110],aA #[98,101,110,100],aA #[99,111,118,101,114],aA #[100,117,101],aA #[101,118,101,110,116],aA #[102,97,114,101],aA #[102,105,108,108],aA #[104,101,108,112],aA #[104,101,108,112,101,114],aA #[104,111,117,114],aA #[108,105,109,105,116],aA #[109,111,116,111,114],aA #[112,111,119,101,114],aA #[113,117,101,117,101],aA #[114,101,112,111,114,116],aA #[114,101,115,101,114,118,101],aA #[114,111,112,101],aA #[114,117,110,110,105,110,103],aA #[115,104,111,119],aA #[115,108,111,119,101,115,116],aA #[116,97,115,107],aA #[116,101,115,116],aA #[116,114,105,112,115],aA #[118,111,116,101],aA #[119,97,116,101,114],aA #[119,111,114,107,101,114]]
def S71:=dR d71 (λ_=>P71) λ_=>[⟨.sl .str,N4⟩]
theorem aPV:c7 71 S71:=dF o71 λ_ h _ K q=>rt
noncomputable def aNv:dB:=⟨122,Tryz.f122,[.v (.sl .str),.v (.str)],[.int .i64],[],[],false,[]⟩
theorem bHN:FO aNv:=mo Tryz.func122 trivial
def aRC (v8:Int) (x0:List ByteArray) (x1:ByteArray):eD×bG:=([eL 0 .str x0,eS 1 x1,eI 7 (x0.length:Int),eI 8 v8],[])
mutual
def aRD:Nat->List ByteArray->ByteArray->List aY->Prop
 | 0,_,_,_=>False
 | n+1,x0,x1,ds=>(I2 n (0) (x0) (x1) ds)
def I2:Nat->Int->List ByteArray->ByteArray->List aY->Prop
 | 0,_,_,_,_=>False
 | n+1,v8,x0,x1,ds=>(if (decide (v8<(x0.length:Int)))=true then ((0<=v8)/\(v8<(x0.length:Int))/\(if (aB x1==aB (aD x0 (aE v8) aC))=true then (ds=[aP (.int .i64) v8]) else ((cC .i64 (v8+1))/\(I2 n (v8+1) (x0) (x1) ds)))) else (ds=[aP (.int .i64) (-1)]))
end
theorem aRE (ds:List aY) (K:jK) (q:Nat->Value):∀ n,(∀ {x0 x1},aRD n x0 x1 ds->St aNv (x0,x1,()) ds [] K q)/\(∀ {v8 x0 x1},I2 n v8 x0 x1 ds->Cu aNv 2 (aRC v8 x0 x1) ds [] K q):=by
 intro n
 induction n with
 | zero=>exact ⟨λh=>h.elim,λh=>h.elim⟩
 | succ n ih =>
 obtain ⟨i,i2⟩:=ih;exact ⟨λh=>jp (i2 h),
  λh=>bR h (λh=>c2 h λh=>bR h (λh=>rh h) λh=>c1 h λh=>jp (i2 h)) λh=>rh h⟩
def Yf (x1:ByteArray) (y:ByteArray):Bool:=aB x1==aB y
def VZ (x0:List ByteArray) (x1:ByteArray):Int:=X0 (x0.findIdx? (Yf x1))
def bHO (x0:List ByteArray) (x1:ByteArray):Prop:=True
theorem aRF (x0:List ByteArray) (x1:ByteArray) (hm:x0.length<=maxLen):aRD (x0.length+1+1) x0 x1 [⟨.int .i64,VZ x0 x1⟩]:=by
 rw [aRD];have key:=kJ x0 aC (Yf x1) [(⟨.int .i64, -1⟩:aY)] (λk=>[⟨.int .i64,k⟩]) (λn i ds=>I2 n i x0 x1 ds) (λn => ?_) (λn i hi hok ds hr => ?_) (λn i hi hok => ?_)
 ·unfold VZ;cases h:x0.findIdx? (Yf x1) <;> rw [h] at key <;> exact key
 ·rw [I2,if_neg (by simp)]
 ·rw [I2,if_pos (by simp;omega)];simp only [aF];refine ⟨by omega,by omega,?_⟩;unfold Yf at hok;rw [if_neg (by rw [hok];simp)];exact ⟨fC hm hi,hr⟩
 ·rw [I2,if_pos (by simp;omega)];simp only [aF];refine ⟨by omega,by omega,?_⟩;unfold Yf at hok;rw [if_pos hok] <;> trivial
def aYV:=dR aNv (λ⟨x0,x1,_⟩=>bHO x0 x1) λ⟨x0,x1,_⟩=>[⟨.int .i64,VZ x0 x1⟩]
theorem aRG:c7 122 aYV:=dF bHN (λ⟨x0,x1,_⟩ h hwf K q =>
 (aRE _ K q _).1 (aRF x0 x1 hwf.1.1))
noncomputable def d70:dB:=⟨70,Tryz.f70,[.v (.sl .str),.v (.str)],[.bool],[],[(122,aYV)],false,[]⟩
theorem o70:FO d70:=mo Tryz.func70 ⟨aRG,trivial⟩
def P70 (x0:List ByteArray) (x1:ByteArray):Prop:=True
def Yg (x0:List ByteArray) (x1:ByteArray):Bool:=decide (VZ x0 x1>=0)
def S70:=dR d70 (λ⟨x0,x1,_⟩=>P70 x0 x1) λ⟨x0,x1,_⟩=>[⟨.bool,Yg x0 x1⟩]
theorem aYW:c7 70 S70:=dF o70 λ⟨x0,x1,_⟩ h _ K q=>tv<|rt
end
def aYX:List AT:=[AT.v kE,AT.v kE]
def pI (x0 x1:ByteArray):ByteArray:=⟨(xL x0.data.toList x1.data.toList).1.toArray⟩
def iR (x0 x1:ByteArray):ByteArray:=⟨(xL x0.data.toList x1.data.toList).2.1.toArray⟩
def aJl (x0 x1:ByteArray):Bool:=(xL x0.data.toList x1.data.toList).2.2
def P72 (x0 x1:ByteArray):Prop:=x0.size<4294967281
def S72:Am.Spec:={ sig:=aYX,pre:=λ⟨x0,x1,_⟩=>P72 x0 x1,res:=λ⟨x0,x1,_⟩=>[⟨kE,pI x0 x1⟩,⟨kE,iR x0 x1⟩,⟨Ty.bool,aJl x0 x1⟩] }
theorem Yh (s sep:List UInt8):(xL s sep).1.length<=s.length/\(xL s sep).2.1.length<=s.length:=by
 unfold xL;split
 ·exact ⟨by simp;omega,by simp⟩
 ·exact ⟨aT _,bW _⟩
theorem aFb:c7 72 S72:=yB aAR<|lL rfl λw ⟨x0,x1,_⟩ vs bss hg hp hw ha=>by
 obtain ⟨v0,s0,_,_,rfl,_,⟨_,rfl,_⟩,v1,s1,_,_,rfl,_,⟨_,rfl,_⟩,rfl,_⟩:=ha;have hp:x0.size<4294967281:=hp;obtain ⟨l1,l2⟩:=Yh x0.data.toList x1.data.toList;have e:x0.data.toList.length=x0.size:=rfl;refine ⟨λd hd => ?_,?_⟩
 ·simp only [S72,aR,bZ,or_false] at hd;rcases hd with rfl | rfl | rfl
  ·refine ⟨rfl,?_⟩;show (kL _).size<=maxLen;rw [dK];unfold maxLen;omega
  ·refine ⟨rfl,?_⟩;show (kL _).size<=maxLen;rw [dK];unfold maxLen;omega
  ·exact ⟨rfl,trivial⟩
 ·obtain ⟨m,hm⟩:=aEL hg;refine (Tryz.strings_Cut x0 x1 m w hp hm).mono ?_;rintro e w' ⟨rfl,n,rfl⟩;exact ⟨rfl,⟨rfl,rfl,rfl,aT _,λ_ _ _=>rfl⟩⟩
theorem QG (s:ByteArray) (hs:s.size<=281474976710656) (v:Int) (h:iU 64 s.data.toList = .ok v) (W:World) :
  Calls aL 125 #[.string s,.int .i64 10,.int .i64 64] W λe w'=>e = .returned (.tuple #[.int .i64 v,.nilIface])/\Go.RowKit.Below W.heap.size W w':=by
 refine (Tryz.strconv_ParseInt_10_at64_ok s (by omega) v h W).mono ?_;rintro e w' ⟨rfl,hw⟩;refine ⟨rfl,?_⟩;rcases hw with rfl | ⟨t,rfl⟩
 ·exact JJ _ _
 ·exact Lib.bytesWorld_below _ _ _
theorem aBW (s:ByteArray) (hs:s.size<=281474976710656) (h:∀ v,iU 64 s.data.toList ≠ .ok v) (W:World) (hg:CR W) :
  Calls aL 125 #[.string s,.int .i64 10,.int .i64 64] W λe w'=>∃ n t N,e = .returned (.tuple #[.int .i64 n,.iface t (.pointer (some ⟨N,0,none⟩))])/\Go.RowKit.Below W.heap.size W w':=by
 obtain ⟨es,hes,hes2⟩:=aB9 hg;obtain ⟨er,her,her2⟩:=aGo hg;rcases hp:iU 64 s.data.toList with v | _ | _
 ·exact absurd hp (h v)
 ·refine (Tryz.strconv_ParseInt_10_at64_syntax s hs hp es W hes hes2).mono ?_;rintro e w' ⟨N,rfl,_,_,hb⟩;exact ⟨_,_,_,rfl,hb⟩
 ·refine (Tryz.strconv_ParseInt_10_at64_range s hs hp er W her her2).mono ?_;rintro e w' ⟨N,rfl,_,_,hb⟩;exact ⟨_,_,_,rfl,hb⟩
def yJ (x0 x1:ByteArray):ByteArray:=⟨(SJ x0.data.toList x1.data.toList).toArray⟩
def aRH:List AT:=[AT.v (Ty.int .i64),AT.v (Ty.int .i64)]
def aJm (x0 x1:Int):ByteArray:=C0 x0
def aYZ (x0 x1:Int):Prop:=x1=10
def aZa:Am.Spec:={ sig:=aRH,pre:=λ⟨x0,x1,_⟩=>aYZ x0 x1,res:=λ⟨x0,x1,_⟩=>[⟨kE,aJm x0 x1⟩] }
theorem aRI:c7 191 aZa:=yB Wq<|lL rfl λw ⟨x0,x1,_⟩ vs bss hg hp hw ha=>by
 obtain ⟨v0,s0,_,_,rfl,_,⟨_,rfl,hi⟩,v1,s1,_,_,rfl,_,⟨_,rfl,_⟩,rfl,_⟩:=ha;obtain rfl:x1=10:=hp;have hi:cC .i64 x0:=hi;rw [aK] at hi;refine ⟨λd hd => ?_,?_⟩
 ·rw [bI.1 hd];refine ⟨rfl,?_⟩;show (C0 x0).size<=maxLen;have:=wC x0 hi.1 hi.2;unfold maxLen;omega
 ·refine (Tryz.strconv_FormatInt_10 x0 hi.1 hi.2 w (aQH hg)).mono ?_;rintro e w' ⟨rfl,n,os,rfl⟩;exact ⟨rfl,aGn _ _ _⟩
noncomputable section
noncomputable def aZb:dB:=⟨126,Tryz.f126,[.v (.int .i64)],[.str],[],[(191,aZa)],false,[]⟩
theorem bHP:FO aZb:=mo Tryz.func126 ⟨aRI,trivial⟩
def BG (x0:Int):Prop:=((aYZ x0 10)/\True)
def dU (x0:Int):ByteArray:=aJm x0 10
def V0:=dR aZb (λ⟨x0,_⟩=>BG x0) λ⟨x0,_⟩=>[⟨.str,dU x0⟩]
theorem DX:c7 126 V0:=dF bHP λ⟨x0,_⟩ h _ K q=>c1 h λh=>rt
end
end Go.Proofs.YtmhpnodnljbnjaaGreatDoor
set_option maxRecDepth 100000
namespace Go.Proofs.YtmhpnodnljbnjaaGreatDoor
open Go Go.Am Go.Proofs Go.RowKit
theorem aPW (W:World) (n:Int) (hi:cC .i64 n) (hgo:E9 W []) :
  Calls aL 126 #[.int .i64 n] W λe w'=>e = .returned (.string (C0 n))/\Below W.heap.size W w':=by
 have h:=DX.2.down rfl W (n,()) [.int .i64 n] [[]] hgo ⟨rfl,trivial⟩ ⟨_,[],[],[],rfl,rfl,⟨rfl,rfl,hi⟩,rfl,rfl⟩ (by simp);refine h.mono ?_;rintro e w' ⟨rs,ubs,rbs,rfl,hk,⟨u,s,b1,bs1,cs,rfl,rfl,ho,hv,rfl,rfl⟩,_⟩;obtain ⟨ho,_⟩:=ho;have hv:cs=[u]:=hv;rw [ho] at hv;cases hv;exact ⟨rfl,hk.below⟩
theorem QH (W:World) (s d:ByteArray) (h:yJ s ⟨#[45]⟩=d):Calls aL 124 #[.string s,.string ⟨#[45]⟩] W λe w'=>e = .returned (.string d)/\w'=W:=by
 rw [<- h];exact Tryz.strings_TrimPrefix s ⟨#[45]⟩ W
theorem aPX {w W:World} (h:E9 w []) (hb:Below w.heap.size w W):E9 W [] where
 inv:=h.inv.keep λb _ hs=>hb.5 b hs
 size:=cO h.size hb.4
 out:=h.out
theorem V4 {l:List UInt8} {v:Int} (h:iU 64 l = .ok v):cC .i64 v:=by
 unfold iU at h;split at h
 ·cases h
 ·simp only at h;split at h
  ·cases h
  ·cases h
  ·split at h
   ·cases h
   ·split at h
    ·cases h
    ·rename_i u _ h1 h2;have e1:(2:Nat) ^ (64 - 1)=9223372036854775808:=by decide
     rw [e1] at h1 h2;rw [aK];split at h
     ·cases h;rename_i hn;have:¬ 9223372036854775808<u:=λhh=>h2 ⟨hn,hh⟩;omega
     ·cases h;rename_i hn;have:¬ 9223372036854775808<=u:=λhh=>h1 ⟨hn,hh⟩;omega
def aJn (s:ByteArray):Bool:=decide ((yJ s ⟨#[45]⟩).size<1)||decide (18<(yJ s ⟨#[45]⟩).size)
def aBX (s:ByteArray):Option Int:=if aJn s=true then none else match iU 64 s.data.toList with
 | .ok v=>if C0 v=s then some v else none
 | _=>none
set_option maxHeartbeats 4000000 in
theorem Yi (w:World) (s d:ByteArray) (HD:Aside (yJ s ⟨#[45]⟩=d)) (h1:(d.size:Int)<1) :
  Calls aL 73 #[.string s] w λe w'=>e = .returned (.tuple #[.int .i64 0,.bool false])/\Below w.heap.size w w':=by
 have mixed:=mixed
 go_enter x7,zH
 go_wp2_with (go_at_call 124;refine (QH _ s d HD.out).mono ?_;rintro e w1 ⟨rfl,rfl⟩)
 go_ret2
 exact ⟨rfl,JJ _ _⟩
set_option maxHeartbeats 4000000 in
theorem aBY (w:World) (s d:ByteArray) (HD:Aside (yJ s ⟨#[45]⟩=d)) (h1:¬ (d.size:Int)<1) (h2:(d.size:Int)>18) :
  Calls aL 73 #[.string s] w λe w'=>e = .returned (.tuple #[.int .i64 0,.bool false])/\Below w.heap.size w w':=by
 have mixed:=mixed
 go_enter x7,zH
 go_wp2_with (go_at_call 124;refine (QH _ s d HD.out).mono ?_;rintro e w1 ⟨rfl,rfl⟩)
 go_ret2
 exact ⟨rfl,JJ _ _⟩
set_option maxHeartbeats 4000000 in
theorem aJo (w:World) (s d:ByteArray) (hs:s.size<=281474976710656) (hgo:E9 w []) (HD:Aside (yJ s ⟨#[45]⟩=d)) (h1:¬ (d.size:Int)<1) (h2:¬ (d.size:Int)>18) (v:Int) (HP:Aside (iU 64 s.data.toList = .ok v)) (HE:Aside (C0 v=s)) :
  Calls aL 73 #[.string s] w λe w'=>e = .returned (.tuple #[.int .i64 v,.bool true])/\Below w.heap.size w w':=by
 have mixed:=mixed
 go_enter x7,zH
 go_wp2_with (go_at_call 124;refine (QH _ s d HD.out).mono ?_;rintro e w1 ⟨rfl,rfl⟩)
 have HR:Aside (cC .i64 v):=V4 HP.out
 go_wp2_with (go_at_call 125;refine (QG s hs v HP.out _).mono ?_)
 rintro e w2 ⟨rfl,b2⟩
 go_wp2_with (go_at_call 126;refine (aPW _ v HR.out (aPX hgo b2)).mono ?_)
 rintro e w3 ⟨rfl,b3⟩;rw [HE.out]
 go_wp2
 go_ret2
 exact ⟨rfl,b2.trans (b3.mono b2.size)⟩
set_option maxHeartbeats 4000000 in
theorem aJp (w:World) (s d:ByteArray) (hs:s.size<=281474976710656) (hgo:E9 w []) (HD:Aside (yJ s ⟨#[45]⟩=d)) (h1:¬ (d.size:Int)<1) (h2:¬ (d.size:Int)>18) (v:Int) (HP:Aside (iU 64 s.data.toList = .ok v)) (HE:Aside (¬ C0 v=s)) :
  Calls aL 73 #[.string s] w λe w'=>e = .returned (.tuple #[.int .i64 0,.bool false])/\Below w.heap.size w w':=by
 have mixed:=mixed
 go_enter x7,zH
 go_wp2_with (go_at_call 124;refine (QH _ s d HD.out).mono ?_;rintro e w1 ⟨rfl,rfl⟩)
 have HR:Aside (cC .i64 v):=V4 HP.out
 go_wp2_with (go_at_call 125;refine (QG s hs v HP.out _).mono ?_)
 rintro e w2 ⟨rfl,b2⟩
 go_wp2_with (go_at_call 126;refine (aPW _ v HR.out (aPX hgo b2)).mono ?_)
 rintro e w3 ⟨rfl,b3⟩;have he':((C0 v).toList==s.toList)=false:=by
  rw [bN];exact λhh=>HE.out ((eR _ _).1 hh)
 go_wp2
 go_ret2
 exact ⟨rfl,b2.trans (b3.mono b2.size)⟩
set_option maxHeartbeats 4000000 in
theorem aJq (w:World) (s d:ByteArray) (hs:s.size<=281474976710656) (hgo:E9 w []) (HD:Aside (yJ s ⟨#[45]⟩=d)) (h1:¬ (d.size:Int)<1) (h2:¬ (d.size:Int)>18) (HP:Aside (∀ v,iU 64 s.data.toList ≠ .ok v)) :
  Calls aL 73 #[.string s] w λe w'=>e = .returned (.tuple #[.int .i64 0,.bool false])/\Below w.heap.size w w':=by
 have mixed:=mixed
 go_enter x7,zH
 go_wp2_with (go_at_call 124;refine (QH _ s d HD.out).mono ?_;rintro e w1 ⟨rfl,rfl⟩)
 go_wp2_with (go_at_call 125;refine (aBW s hs HP.out _ hgo.inv).mono ?_)
 rintro e w2 ⟨n,t,N,rfl,b2⟩
 go_wp2
 go_ret2
 exact ⟨rfl,b2⟩
def aZc:List AT:=[AT.v .str]
def EW (x0:ByteArray):Int:=(aBX x0).getD 0
def Yj (x0:ByteArray):Bool:=(aBX x0).isSome
def P73 (x0:ByteArray):Prop:=x0.size<=281474976710656
def S73:Am.Spec:={ sig:=aZc,pre:=λ⟨x0,_⟩=>P73 x0,res:=λ⟨x0,_⟩=>[⟨.int .i64,EW x0⟩,⟨.bool,Yj x0⟩] }
theorem aFc:c7 73 S73:=yB x7<|lL rfl λw ⟨x0,_⟩ vs bss hg hp hw ha=>by
 obtain ⟨v0,s0,_,_,rfl,_,⟨_,rfl,_⟩,rfl,_⟩:=ha;have hs:x0.size<=281474976710656:=hp;have hgo:E9 w []:=⟨hg,hg.size,λb hb=>by cases hb⟩;refine ⟨λd hd => ?_,?_⟩
 ·simp only [aR,bZ,or_false] at hd;rcases hd with rfl | rfl
  ·refine ⟨rfl,?_⟩;show cC .i64 ((aBX x0).getD 0);have z:cC .i64 0:=by rw [aK];omega
   unfold aBX;split
   ·exact z
   ·split
    ·rename_i v h;split
     ·exact V4 h
     ·exact z
    ·exact z
  ·exact ⟨rfl,trivial⟩
 ·show Calls aL 73 #[.string x0] w λe w'=>e = .returned (.tuple #[.int .i64 ((aBX x0).getD 0),.bool (aBX x0).isSome])/\cE [] w w';have hd:Aside (yJ x0 ⟨#[45]⟩=yJ x0 ⟨#[45]⟩):=rfl;unfold aBX aJn;by_cases h1:(yJ x0 ⟨#[45]⟩).size<1
  ·rw [if_pos (by simp [h1])];refine (Yi w x0 _ hd (by omega)).mono ?_;rintro e w' ⟨rfl,hb⟩;exact ⟨rfl,iD hb⟩
  ·by_cases h2:18<(yJ x0 ⟨#[45]⟩).size
   ·rw [if_pos (by simp [h2])];refine (aBY w x0 _ hd (by omega) (by omega)).mono ?_;rintro e w' ⟨rfl,hb⟩;exact ⟨rfl,iD hb⟩
   ·rw [if_neg (by simp [h1,h2])];by_cases hok:∃ v,iU 64 x0.data.toList = .ok v
    ·obtain ⟨v,hv⟩:=hok;rw [hv];by_cases he:C0 v=x0
     ·simp only [if_pos he];refine (aJo w x0 _ hs hgo hd (by omega) (by omega) v hv he).mono ?_;rintro e w' ⟨rfl,hb⟩;exact ⟨rfl,iD hb⟩
     ·simp only [if_neg he];refine (aJp w x0 _ hs hgo hd (by omega) (by omega) v hv he).mono ?_;rintro e w' ⟨rfl,hb⟩;exact ⟨rfl,iD hb⟩
    ·have hno:∀ v,iU 64 x0.data.toList ≠ .ok v:=λv hv=>hok ⟨v,hv⟩;have e:(match iU 64 x0.data.toList with
      | .ok v=>if C0 v=x0 then some v else none
      | _=>none:Option Int)=none:=by
      split
      ·rename_i v hv;exact absurd hv (hno v)
      ·rfl
     rw [e];refine (aJq w x0 _ hs hgo hd (by omega) (by omega) hno).mono ?_;rintro e w' ⟨rfl,hb⟩;exact ⟨rfl,iD hb⟩
def aRJ:List AT:=[AT.v (p6 kE),AT.v kE]
def tE (x0:List ByteArray) (x1:ByteArray):ByteArray:=⟨(Av (x0.map λx=>x.data.toList) x1.data.toList).toArray⟩
def Sd (x0:List ByteArray) (x1:ByteArray):Prop:=x0.length<=1048576/\(Av (x0.map λx=>x.data.toList) x1.data.toList).length<=140737488355328
def aJr:Am.Spec:={ sig:=aRJ,pre:=λ⟨x0,x1,_⟩=>Sd x0 x1,res:=λ⟨x0,x1,_⟩=>[⟨kE,tE x0 x1⟩] }
theorem V5:c7 195 aJr:=yB We<|lL rfl λw ⟨x0,x1,_⟩ vs bss hg hp hw ha=>by
 obtain ⟨v0,s0,_,_,rfl,_,⟨_,ho⟩,v1,s1,_,_,rfl,_,⟨_,rfl,_⟩,rfl,_⟩:=ha;obtain ⟨h0,h1⟩:x0.length<=1048576/\(Av (x0.map λx=>x.data.toList) x1.data.toList).length<=140737488355328:=hp;refine ⟨λd hd => ?_,?_⟩
 ·rw [bI.1 hd];refine ⟨rfl,?_⟩;show (kL _).size<=maxLen;rw [dK];exact cO h1 (by decide)
 ·obtain ⟨_,_,hcase⟩:=MP (t := .str) rfl ho;rcases hcase with ⟨ad,rfl,rfl⟩ | ⟨b',off,cap,rfl,h2,h3,hG,hcells⟩
  ·refine (Tryz.strings_Join_none ad 0 x1 w).mono ?_;rintro e w' ⟨rfl,rfl⟩;exact ⟨rfl,cI _ _⟩
  ·refine (Tryz.strings_Join b' off cap x0 x1 w (λj x hx => ?_) hG.1 (by omega) h2 h1).mono ?_
   ·refine hcells j _ ?_;have e:pG .str x0=x0.map gM:=by
     have:∀ xs:List ByteArray,pG .str xs=xs.map gM:=by
      intro xs
      induction xs with
      | nil=>rfl
      | cons a r ih=>unfold pG at ih ⊢;rw [bP,bK,ih];rfl
     exact this x0
    rw [e,List.getElem?_map,hx];rfl
   ·rintro e w' ⟨rfl,hb⟩;exact ⟨rfl,iD hb⟩
noncomputable section
noncomputable def aZf:dB:=⟨194,Tryz.f194,[.v (.int .i64)],[.bool],[],[(108,p8)],false,[]⟩
theorem bHQ:FO aZf:=mo Tryz.func194 ⟨iA,trivial⟩
def bHR (x0:Int):Prop:=True
def aBZ (x0:Int):Bool:=cD x0 (-1000000000000) 1000000000000
def aZg:=dR aZf (λ⟨x0,_⟩=>bHR x0) λ⟨x0,_⟩=>[⟨.bool,aBZ x0⟩]
theorem aRK:c7 194 aZg:=dF bHQ λ⟨x0,_⟩ h _ K q=>tv<|rt
noncomputable def aZh:dB:=⟨193,Tryz.f193,[.v (.int .i64)],[.bool],[],[(194,aZg)],false,[]⟩
theorem bHS:FO aZh:=mo Tryz.func193 ⟨aRK,trivial⟩
def bHT (x0:Int):Prop:=True
def FW (x0:Int):Bool := !aBZ x0
def aRL:=dR aZh (λ⟨x0,_⟩=>bHT x0) λ⟨x0,_⟩=>[⟨.bool,FW x0⟩]
theorem aJs:c7 193 aRL:=dF bHS λ⟨x0,_⟩ h _ K q=>tv<|rt
noncomputable def KB:dB:=⟨273,Tryz.f273,[.v (.sl (.int .i64)),.fn 193 []],[.int .i64],[],[(193,aRL)],false,[]⟩
theorem aJt:FO KB:=mo EG ⟨aJs,trivial⟩
def aCa (v8:Int) (x0:List Int):eD×bG:=([eL 0 (.int .i64) x0,(1,PV.fn 193 []),eI 7 (x0.length:Int),eI 8 v8],[])
mutual
def QI:Nat->List Int->List aY->Prop
 | 0,_,_=>False
 | n+1,x0,ds=>(tG n (0) (x0) ds)
def tG:Nat->Int->List Int->List aY->Prop
 | 0,_,_,_=>False
 | n+1,v8,x0,ds=>(if (decide (v8<(x0.length:Int)))=true then ((0<=v8)/\(v8<(x0.length:Int))/\(if (FW (aD x0 (aE v8) 0))=true then (ds=[aP (.int .i64) v8]) else ((cC .i64 (v8+1))/\(tG n (v8+1) (x0) ds)))) else (ds=[aP (.int .i64) (-1)]))
end
theorem aCb (ds:List aY) (K:jK) (q:Nat->Value):∀ n,(∀ {x0},QI n x0 ds->St KB (x0,(),()) ds [] K q)/\(∀ {v8 x0},tG n v8 x0 ds->Cu KB 2 (aCa v8 x0) ds [] K q):=by
 intro n
 induction n with
 | zero=>exact ⟨λh=>h.elim,λh=>h.elim⟩
 | succ n ih =>
 obtain ⟨i,i2⟩:=ih;exact ⟨λh=>jp (i2 h),
  λh=>bR h (λh=>c2 h λh=>tv<|bR h (λh=>rh h) λh=>c1 h λh=>jp (i2 h)) λh=>rh h⟩
def wH (x0:List (Int)):Int:=X0 (x0.findIdx? FW)
def aJu (x0:List (Int)):Prop:=True
theorem aCc (x0:List (Int)) (hm:x0.length<=maxLen):QI (x0.length+1+1) x0 [⟨.int .i64,wH x0⟩]:=by
 rw [QI];have key:=kJ x0 (0:Int) FW [(⟨.int .i64, -1⟩:aY)] (λk=>[⟨.int .i64,k⟩]) (λn i ds=>tG n i x0 ds) (λn => ?_) (λn i hi hok ds hr => ?_) (λn i hi hok => ?_)
 ·unfold wH;cases h:x0.findIdx? FW <;> rw [h] at key <;> exact key
 ·rw [tG,if_neg (by simp)]
 ·rw [tG,if_pos (by simp;omega)];simp only [aF];refine ⟨by omega,by omega,?_⟩;rw [if_neg (by rw [hok];simp)];exact ⟨fC hm hi,hr⟩
 ·rw [tG,if_pos (by simp;omega)];simp only [aF];refine ⟨by omega,by omega,?_⟩;rw [if_pos hok] <;> trivial
def Yk:=dR KB (λ⟨x0,_⟩=>aJu x0) λ⟨x0,_⟩=>[⟨.int .i64,wH x0⟩]
theorem aCd:c7 273 Yk:=dF aJt (λ⟨x0,_⟩ h hwf K q =>
 (aCb _ K q _).1 (aCc x0 hwf.1.1))
theorem aCe (x0:List (Int)):decide (wH x0>=0)=x0.any FW:=by
 have:=qG FW x0;unfold wH;cases h:x0.any FW with
 | true=>rw [h] at this;simpa using this
 | false=>rw [h] at this;simpa using this
noncomputable def Yl:dB:=⟨192,Tryz.f192,[.v (.sl (.int .i64)),.fn 193 []],[.bool],[],[(273,Yk),(193,aRL)],false,[]⟩
theorem aJv:FO Yl:=mo EH ⟨aCd,aJs,trivial⟩
def aJw (x0:List Int):Prop:=True
def AR (x0:List Int):Bool:=decide (wH x0>=0)
def Ym:=dR Yl (λ⟨x0,_⟩=>aJw x0) λ⟨x0,_⟩=>[⟨.bool,AR x0⟩]
theorem aCf:c7 192 Ym:=dF aJv λ⟨x0,_⟩ h _ K q=>tv<|rt
noncomputable def aNw:dB:=⟨127,Tryz.f127,[.v (.sl (.int .i64))],[.str],[],[(126,V0),(195,aJr),(192,Ym)],false,[]⟩
theorem bHU:FO aNw:=mo Tryz.func127 ⟨DX,V5,aCf,trivial⟩
def aRM (C7:Int) (h0:List ByteArray) (x0:List Int):eD×bG:=([eW 3 0,eL 16 (.int .i64) x0,eI 17 (x0.length:Int),eI 18 C7],[jB .str h0])
mutual
def aRN:Nat->List Int->List aY->Prop
 | 0,_,_=>False
 | n+1,x0,ds=>(if (decide ((x0.length:Int)>64))=true then (ds=[aP .str (aA #[])]) else (if (AR x0)=true then (ds=[aP .str (aA #[])]) else (if ((x0.length:Int)==0)=true then (ds=[aP .str (aA #[45])]) else (I3 n (0) ([]) (x0) ds))))
def I3:Nat->Int->List ByteArray->List Int->List aY->Prop
 | 0,_,_,_,_=>False
 | n+1,C7,h0,x0,ds=>(if (decide (C7<(x0.length:Int)))=true then ((0<=C7)/\(C7<(x0.length:Int))/\((BG (aD x0 (aE C7) 0))/\(((aN h0+1)*16<=140737488355328)/\((cC .i64 (C7+1))/\(I3 n (C7+1) (h0++[dU (aD x0 (aE C7) 0)]) (x0) ds))))) else ((Sd h0 (aA #[44]))/\(ds=[aP .str (tE h0 (aA #[44]))])))
end
theorem aRO (ds:List aY) (K:jK) (q:Nat->Value):∀ n,(∀ {x0},aRN n x0 ds->St aNw (x0,()) ds [] K q)/\(∀ {C7 h0 x0},I3 n C7 h0 x0 ds->Cu aNw 7 (aRM C7 h0 x0) ds [] K q):=by
 intro n
 induction n with
 | zero=>exact ⟨λh=>h.elim,λh=>h.elim⟩
 | succ n ih =>
 obtain ⟨i,i7⟩:=ih;exact ⟨λh=>bR h (λh=>tT<|rh h) λh=>tv<|bR h (λh=>rh h) λh=>bR h (λh=>rh h) λh=>jn [(3,.str)] (i7 h),
  λh=>bR h (λh=>c2 h λh=>c1 h λh=>c1 h λh=>c1 h λh=>jn [(3,.str)] (i7 h)) λh=>c1 h λh=>rh h⟩
def n9 (x0:List Int):ByteArray:=if x0.length>64 then aA #[] else if AR x0=true then aA #[] else if x0.length=0 then aA #[45] else tE (x0.map dU) (aA #[44])
def bHV (x0:List Int):Prop:=True
theorem aRP (x:Int) (h:cC .i64 x):(dU x).size<=21:=by
 rw [aK] at h;exact wC x (by omega) (by omega)
theorem aNx (x:Int):BG x:=⟨rfl,trivial⟩
theorem aFd:∀ (xs:List Int),(∀ x∈xs,cC .i64 x)->BB (xs.map λx=>(dU x).data.toList)<=21*xs.length
 | [],_=>by simp [BB]
 | x :: r,h=>by
  have ih:=aFd r λy hy=>h y (aM _ hy);have hx:=aRP x (h x (aQ ..));have e:(dU x).data.toList.length=(dU x).size:=rfl;unfold BB at ih ⊢;simp only [bP,TD,bA,e] at ih ⊢;omega
theorem aNy (xs:List Int) (hx:∀ x∈xs,cC .i64 x) (hl:xs.length<=64):Sd (xs.map dU) (aA #[44]):=by
 refine ⟨by simp;omega,?_⟩;rw [zE];cases xs with
 | nil=>simp [Av,NF]
 | cons x r =>
  have h:=aFd (x :: r) hx;rw [bP] at h ⊢;rw [OW];have e:(aA #[44]).data.toList.length=1:=rfl;rw [e];simp only [eJ,bA] at *;have h':BB (((λx:ByteArray=>x.data.toList) ∘ dU) x :: Cs ((λx:ByteArray=>x.data.toList) ∘ dU) r)<=21*(r.length+1):=h;omega
theorem aRQ (x0:List Int) (hx:∀ x∈x0,cC .i64 x):aRN (x0.length+1+1) x0 [⟨.str,n9 x0⟩]:=by
 rw [aRN];unfold n9;by_cases h1:x0.length>64
 ·rw [if_pos (by simp;omega),if_pos h1]
 ·rw [if_neg (by simp;omega),if_neg h1];by_cases h2:AR x0=true
  ·rw [if_pos h2,if_pos h2]
  ·rw [if_neg h2,if_neg h2];by_cases h0:x0.length=0
   ·rw [if_pos (by simp [h0]),if_pos h0]
   ·rw [if_neg (by simp only [beq_iff_eq];omega),if_neg h0];have hm:x0.length<=maxLen:=by unfold maxLen;omega
    have key:=To (b:=[]) x0 0 (λ(h:List ByteArray) b=>h++[dU b]) (λh=>[(⟨.str,tE h (aA #[44])⟩:aY)]) (λi h=>h.length<=i/\h=(x0.take i).map dU) (λn i h ds=>I3 n i h x0 ds) (by simp) (λn h hb => ?_) (λn i h hi hl=>⟨⟨aIb hl.1,?_⟩,λds hr => ?_⟩)
    ·rw [IS] at key;simpa using key
    ·show I3 (n+1) x0.length h x0 _;rw [I3,if_neg (by simp)];refine ⟨?_,rfl⟩;rw [hb.2,List.take_length];exact aNy x0 hx (by omega)
    ·rw [hl.2,gY,oP x0 i 0 hi];simp
    ·obtain ⟨hl,_⟩:=hl;rw [I3,if_pos (by simp;omega)];simp only [aF];exact ⟨by omega,by omega,aNx _,by omega,fC hm hi,hr⟩
def aG0:=dR aNw (λ⟨x0,_⟩=>bHV x0) λ⟨x0,_⟩=>[⟨.str,n9 x0⟩]
theorem QJ:c7 127 aG0:=dF bHU (λ⟨x0,_⟩ h hwf K q =>
 (aRO _ K q _).1 (aRQ x0 hwf.1.2))
noncomputable def d74:dB:=⟨74,Tryz.f74,[.v (.str)],[.sl (.int .i64),.bool],[],[(55,S55),(73,S73),(127,aG0)],false,[]⟩
theorem o74:FO d74:=mo Tryz.func74 ⟨QC,aFc,QJ,trivial⟩
def aZi (v14:Int) (h0:List Int) (x0:ByteArray):eD×bG:=([eS 0 x0,eW 4 0,eW 12 1,eI 13 (↑(aN (bY x0 (aA #[44]))):Int),eI 14 v14],[jB (.int .i64) h0,jB .str (bY x0 (aA #[44]))])
mutual
def R74:Nat->ByteArray->List aY->Prop
 | 0,_,_=>False
 | n+1,x0,ds=>(if (aB x0==aB (aA #[45]))=true then (ds=[aP (.sl (.int .i64)) [],aP .bool true]) else ((P55 x0 (aA #[44]))/\(N5 n (0) ([]) (x0) ds)))
def N5:Nat->Int->List Int->ByteArray->List aY->Prop
 | 0,_,_,_,_=>False
 | n+1,v14,h0,x0,ds=>(if (decide (v14<(↑(aN (bY x0 (aA #[44]))):Int)))=true then ((0<=v14)/\(v14<(↑(aN (bY x0 (aA #[44]))):Int))/\((P73 (aD (bY x0 (aA #[44])) (aE v14) aC))/\(((aN h0+1)*8<=140737488355328)/\((cC .i64 (v14+1))/\(N5 n (v14+1) (h0++[EW (aD (bY x0 (aA #[44])) (aE v14) aC)]) (x0) ds))))) else (if (!aB (n9 h0)==aB x0)=true then (ds=[aP (.sl (.int .i64)) [],aP .bool false]) else (ds=[aP (.sl (.int .i64)) h0,aP .bool true])))
end
theorem aZj (ds:List aY) (K:jK) (q:Nat->Value):∀ n,(∀ {x0},R74 n x0 ds->St d74 (x0,()) ds [] K q)/\(∀ {v14 h0 x0},N5 n v14 h0 x0 ds->Cu d74 5 (aZi v14 h0 x0) ds [] K q):=by
 intro n
 induction n with
 | zero=>exact ⟨λh=>h.elim,λh=>h.elim⟩
 | succ n ih =>
 obtain ⟨i,i5⟩:=ih;exact ⟨λh=>bR h (λh=>rh h) λh=>c1 h λh=>jn [(4,.int .i64)] (i5 h),
  λh=>bR h (λh=>c2 h λh=>c1 h λh=>c1 h λh=>c1 h λh=>jn [(4,.int .i64)] (i5 h)) λh=>tv<|bR h (λh=>rh h) λh=>rh h⟩
def OG (x0:ByteArray):List ByteArray:=bY x0 (aA #[44])
def I4 (x0:ByteArray):List Int:=(OG x0).map EW
def aFe (x0:ByteArray):Option (List Int):=if x0=aA #[45] then some [] else if n9 (I4 x0)=x0 then some (I4 x0) else none
def uX (x0:ByteArray):List Int:=(aFe x0).getD []
def UA (x0:ByteArray):Bool:=(aFe x0).isSome
def P74 (x0:ByteArray):Prop:=x0.size<=1048576
theorem bHX (x0:ByteArray) (hp:P74 x0):(OG x0).length<=1048577:=by
 have hl:=vG (aA #[44]) (aT 1) 0 (gN x0 (aA #[44])) x0 rfl;have hc:=sQ (aA #[44]) (aT 1) x0.size x0 (aT _);have hp:x0.size<=1048576:=hp;have:(OG x0).length=gN x0 (aA #[44])+1:=hl;omega
theorem bHY (x0:ByteArray) (hp:P74 x0):∀ w∈OG x0,w.size<=1048576:=λw hw=>by
 have hp:x0.size<=1048576:=hp;have:=uE (aA #[44]) 0 _ _ w hw;omega
theorem aZk (x0:ByteArray) (hp:P74 x0):∃ n,R74 n x0 [⟨.sl (.int .i64),uX x0⟩,⟨.bool,UA x0⟩]:=by
 have ew:bY x0 (aA #[44])=OG x0:=rfl;have hp':x0.size<=1048576:=hp;have hl:=bHX x0 hp;have hz:=bHY x0 hp;refine ⟨((OG x0).length+1)+1,?_⟩;rw [R74];unfold uX UA aFe;by_cases h0:x0=aA #[45]
 ·rw [if_pos ((eR _ _).2 h0),if_pos h0];rfl
 ·rw [if_neg (λh=>h0 ((eR _ _).1 h)),if_neg h0];refine ⟨⟨by omega,aT 1⟩,?_⟩;have hm:(OG x0).length<=maxLen:=by unfold maxLen;omega
  have key:=To (b:=[]) (OG x0) aC (λ(h:List Int) b=>h++[EW b]) (λh=>if n9 h=x0 then [(⟨.sl (.int .i64),h⟩:aY),⟨.bool,true⟩] else [⟨.sl (.int .i64),[]⟩,⟨.bool,false⟩]) (λi h=>h.length<=i) (λn i h ds=>N5 n i h x0 ds) (by simp) (λn h hb => ?_) (λn i h hi hl=>⟨aIb hl,λds hr => ?_⟩)
  ·rw [IS] at key;have e:[]++(OG x0).map EW=I4 x0:=by simp [I4]
   simp only [e] at key;by_cases ht:n9 (I4 x0)=x0
   ·rw [if_pos ht] at key ⊢;exact key
   ·rw [if_neg ht] at key ⊢;exact key
  ·show N5 (n+1) (OG x0).length h x0 _;rw [N5,ew,if_neg (by simp)];by_cases ht:n9 h=x0
   ·rw [if_neg (by rw [(eR _ _).2 ht];simp),if_pos ht]
   ·rw [if_pos (by rw [cW,bN];exact λhh=>ht ((eR _ _).1 hh)),if_neg ht]
  ·show N5 (n+1) (i:Int) h x0 ds;rw [N5,ew,if_pos (by simp only [decide_eq_true_eq];omega)];simp only [aF];have hw:=hz _ (dN (OG x0) i aC hi);exact ⟨by omega,by omega,(show ((OG x0).getD i aC).size<=281474976710656 from by omega),by omega,fC hm hi,hr⟩
def S74:=dR d74 (λ⟨x0,_⟩=>P74 x0) λ⟨x0,_⟩=>[⟨.sl (.int .i64),uX x0⟩,⟨.bool,UA x0⟩]
theorem aJx:c7 74 S74:=dF o74 (λ⟨x0,_⟩ h hwf K q=>by
 obtain ⟨n,hn⟩:=aZk x0 h;exact (aZj _ K q n).1 hn)
noncomputable def aZl:dB:=⟨197,Tryz.f197,[.v (.int .i64)],[.bool],[],[(108,p8)],false,[]⟩
theorem bHZ:FO aZl:=mo Tryz.func197 ⟨iA,trivial⟩
def bIa (x0:Int):Prop:=True
def aCg (x0:Int):Bool:=cD x0 0 1000
def aZm:=dR aZl (λ⟨x0,_⟩=>bIa x0) λ⟨x0,_⟩=>[⟨.bool,aCg x0⟩]
theorem aRS:c7 197 aZm:=dF bHZ λ⟨x0,_⟩ h _ K q=>tv<|rt
noncomputable def aZn:dB:=⟨196,Tryz.f196,[.v (.int .i64)],[.bool],[],[(197,aZm)],false,[]⟩
theorem bIb:FO aZn:=mo Tryz.func196 ⟨aRS,trivial⟩
def bIc (x0:Int):Prop:=True
def FX (x0:Int):Bool := !aCg x0
def aRT:=dR aZn (λ⟨x0,_⟩=>bIc x0) λ⟨x0,_⟩=>[⟨.bool,FX x0⟩]
theorem aJy:c7 196 aRT:=dF bIb λ⟨x0,_⟩ h _ K q=>tv<|rt
noncomputable def KD:dB:=⟨273,Tryz.f273,[.v (.sl (.int .i64)),.fn 196 []],[.int .i64],[],[(196,aRT)],false,[]⟩
theorem aJz:FO KD:=mo EG ⟨aJy,trivial⟩
def aCh (v8:Int) (x0:List Int):eD×bG:=([eL 0 (.int .i64) x0,(1,PV.fn 196 []),eI 7 (x0.length:Int),eI 8 v8],[])
mutual
def QK:Nat->List Int->List aY->Prop
 | 0,_,_=>False
 | n+1,x0,ds=>(tH n (0) (x0) ds)
def tH:Nat->Int->List Int->List aY->Prop
 | 0,_,_,_=>False
 | n+1,v8,x0,ds=>(if (decide (v8<(x0.length:Int)))=true then ((0<=v8)/\(v8<(x0.length:Int))/\(if (FX (aD x0 (aE v8) 0))=true then (ds=[aP (.int .i64) v8]) else ((cC .i64 (v8+1))/\(tH n (v8+1) (x0) ds)))) else (ds=[aP (.int .i64) (-1)]))
end
theorem aCi (ds:List aY) (K:jK) (q:Nat->Value):∀ n,(∀ {x0},QK n x0 ds->St KD (x0,(),()) ds [] K q)/\(∀ {v8 x0},tH n v8 x0 ds->Cu KD 2 (aCh v8 x0) ds [] K q):=by
 intro n
 induction n with
 | zero=>exact ⟨λh=>h.elim,λh=>h.elim⟩
 | succ n ih =>
 obtain ⟨i,i2⟩:=ih;exact ⟨λh=>jp (i2 h),
  λh=>bR h (λh=>c2 h λh=>tv<|bR h (λh=>rh h) λh=>c1 h λh=>jp (i2 h)) λh=>rh h⟩
def wI (x0:List (Int)):Int:=X0 (x0.findIdx? FX)
def aJ0 (x0:List (Int)):Prop:=True
theorem aCj (x0:List (Int)) (hm:x0.length<=maxLen):QK (x0.length+1+1) x0 [⟨.int .i64,wI x0⟩]:=by
 rw [QK];have key:=kJ x0 (0:Int) FX [(⟨.int .i64, -1⟩:aY)] (λk=>[⟨.int .i64,k⟩]) (λn i ds=>tH n i x0 ds) (λn => ?_) (λn i hi hok ds hr => ?_) (λn i hi hok => ?_)
 ·unfold wI;cases h:x0.findIdx? FX <;> rw [h] at key <;> exact key
 ·rw [tH,if_neg (by simp)]
 ·rw [tH,if_pos (by simp;omega)];simp only [aF];refine ⟨by omega,by omega,?_⟩;rw [if_neg (by rw [hok];simp)];exact ⟨fC hm hi,hr⟩
 ·rw [tH,if_pos (by simp;omega)];simp only [aF];refine ⟨by omega,by omega,?_⟩;rw [if_pos hok] <;> trivial
def Yn:=dR KD (λ⟨x0,_⟩=>aJ0 x0) λ⟨x0,_⟩=>[⟨.int .i64,wI x0⟩]
theorem aCk:c7 273 Yn:=dF aJz (λ⟨x0,_⟩ h hwf K q =>
 (aCi _ K q _).1 (aCj x0 hwf.1.1))
theorem aCl (x0:List (Int)):decide (wI x0>=0)=x0.any FX:=by
 have:=qG FX x0;unfold wI;cases h:x0.any FX with
 | true=>rw [h] at this;simpa using this
 | false=>rw [h] at this;simpa using this
noncomputable def Yo:dB:=⟨192,Tryz.f192,[.v (.sl (.int .i64)),.fn 196 []],[.bool],[],[(273,Yn),(196,aRT)],false,[]⟩
theorem aJ1:FO Yo:=mo EH ⟨aCk,aJy,trivial⟩
def aJ2 (x0:List Int):Prop:=True
def I5 (x0:List Int):Bool:=decide (wI x0>=0)
def Yp:=dR Yo (λ⟨x0,_⟩=>aJ2 x0) λ⟨x0,_⟩=>[⟨.bool,I5 x0⟩]
theorem aCm:c7 192 Yp:=dF aJ1 λ⟨x0,_⟩ h _ K q=>tv<|rt
noncomputable def aZo:dB:=⟨128,Tryz.f128,[.v (.sl (.int .i64))],[.bool],[],[(192,Yp)],false,[]⟩
theorem bId:FO aZo:=mo Tryz.func128 ⟨aCm,trivial⟩
def bIe (x0:List Int):Prop:=True
def qL (x0:List Int):Bool:=(if (decide ((x0.length:Int)>=1))=true then (if (decide ((x0.length:Int)<=60))=true then !I5 x0 else false) else false)
def aNz:=dR aZo (λ⟨x0,_⟩=>bIe x0) λ⟨x0,_⟩=>[⟨.bool,qL x0⟩]
theorem aCn:c7 128 aNz:=dF bId λ⟨x0,_⟩ h _ K q=>e1 (e1 (tv<|rt) (rt)) (tF<|rt)
noncomputable def aN0:dB:=⟨129,Tryz.f129,[.v (.sl (.int .i64))],[.str],[],[(128,aNz),(126,V0),(195,aJr)],false,[]⟩
theorem bIf:FO aN0:=mo Tryz.func129 ⟨aCn,DX,V5,trivial⟩
def aRU (v11:Int) (h0:List ByteArray) (x0:List Int):eD×bG:=([eW 3 0,eL 9 (.int .i64) x0,eI 10 (x0.length:Int),eI 11 v11],[jB .str h0])
mutual
def aN1:Nat->List Int->List aY->Prop
 | 0,_,_=>False
 | n+1,x0,ds=>(if (!qL x0)=true then (ds=[aP .str (aA #[])]) else (MR n (0) ([]) (x0) ds))
def MR:Nat->Int->List ByteArray->List Int->List aY->Prop
 | 0,_,_,_,_=>False
 | n+1,v11,h0,x0,ds=>(if (decide (v11<(x0.length:Int)))=true then ((0<=v11)/\(v11<(x0.length:Int))/\((BG (aD x0 (aE v11) 0))/\(((aN h0+1)*16<=140737488355328)/\((cC .i64 (v11+1))/\(MR n (v11+1) (h0++[dU (aD x0 (aE v11) 0)]) (x0) ds))))) else ((Sd h0 (aA #[43]))/\(ds=[aP .str (tE h0 (aA #[43]))])))
end
theorem aRV (ds:List aY) (K:jK) (q:Nat->Value):∀ n,(∀ {x0},aN1 n x0 ds->St aN0 (x0,()) ds [] K q)/\(∀ {v11 h0 x0},MR n v11 h0 x0 ds->Cu aN0 5 (aRU v11 h0 x0) ds [] K q):=by
 intro n
 induction n with
 | zero=>exact ⟨λh=>h.elim,λh=>h.elim⟩
 | succ n ih =>
 obtain ⟨i,i5⟩:=ih;exact ⟨λh=>tv<|bR h (λh=>rh h) λh=>jn [(3,.str)] (i5 h),
  λh=>bR h (λh=>c2 h λh=>c1 h λh=>c1 h λh=>c1 h λh=>jn [(3,.str)] (i5 h)) λh=>c1 h λh=>rh h⟩
def MS (x0:List Int):ByteArray:=if (!qL x0)=true then aA #[] else tE (x0.map dU) (aA #[43])
def aN2 (x0:List Int):Prop:=qL x0=true->x0.length<=64
theorem aRW (x:Int) (h:cC .i64 x):(dU x).size<=21:=by
 rw [aK] at h;exact wC x (by omega) (by omega)
theorem aN3 (x:Int):BG x:=⟨rfl,trivial⟩
theorem aFf:∀ (xs:List Int),(∀ x∈xs,cC .i64 x)->BB (xs.map λx=>(dU x).data.toList)<=21*xs.length
 | [],_=>by simp [BB]
 | x :: r,h=>by
  have ih:=aFf r λy hy=>h y (aM _ hy);have hx:=aRW x (h x (aQ ..));have e:(dU x).data.toList.length=(dU x).size:=rfl;unfold BB at ih ⊢;simp only [bP,TD,bA,e] at ih ⊢;omega
theorem aN4 (xs:List Int) (hx:∀ x∈xs,cC .i64 x) (hl:xs.length<=64):Sd (xs.map dU) (aA #[43]):=by
 refine ⟨by simp;omega,?_⟩;rw [zE];cases xs with
 | nil=>simp [Av,NF]
 | cons x r =>
  have h:=aFf (x :: r) hx;rw [bP] at h ⊢;rw [OW];have e:(aA #[43]).data.toList.length=1:=rfl;rw [e];simp only [eJ,bA] at *;have h':BB (((λx:ByteArray=>x.data.toList) ∘ dU) x :: Cs ((λx:ByteArray=>x.data.toList) ∘ dU) r)<=21*(r.length+1):=h;omega
theorem aRX (x0:List Int) (hx:∀ x∈x0,cC .i64 x) (hl:x0.length<=64):∀ (k i:Nat) (h0:List ByteArray),i+k=x0.length->h0=(x0.take i).map dU->MR (k+1) (i:Int) h0 x0 [⟨.str,tE (x0.map dU) (aA #[43])⟩]:=by
 intro k
 induction k with
 | zero =>
  intro i h0 hi hh;rw [fR (by omega)] at hh;subst hh;rw [MR,if_neg (by simp only [decide_eq_true_eq];omega)];exact ⟨aN4 x0 hx hl,rfl⟩
 | succ k ih =>
  intro i h0 hi hh;have hlt:i<x0.length:=by omega
  have e3:(i:Int)+1=((i+1:Nat):Int):=by omega
  have hle:h0.length<=64:=by rw [hh,eJ,cJ];omega
  rw [MR,if_pos (by simp only [decide_eq_true_eq];omega),e3,aF];refine ⟨by omega,by omega,aN3 _,by omega,by rw [aK];omega,ih (i+1) _ (by omega) ?_⟩;rw [hh,gY,bC hlt,iV x0 i 0 hlt,gQ];rfl
theorem aRY (x0:List Int) (hx:∀ x∈x0,cC .i64 x) (h:aN2 x0):∃ n,aN1 n x0 [⟨.str,MS x0⟩]:=by
 unfold MS;by_cases c:(!qL x0)=true
 ·exact ⟨1,by rw [aN1,if_pos c,if_pos c]⟩
 ·have hl:=h (by simpa using c);refine ⟨x0.length+1+1,?_⟩;rw [aN1,if_neg c,if_neg c];exact aRX x0 hx hl x0.length 0 [] (by omega) rfl
def aZp:=dR aN0 (λ⟨x0,_⟩=>aN2 x0) λ⟨x0,_⟩=>[⟨.str,MS x0⟩]
theorem aRZ:c7 129 aZp:=dF bIf (λ⟨x0,_⟩ h hwf K q =>
 let ⟨n,hn⟩:=aRY x0 hwf.1.2 h
 (aRV _ K q n).1 hn)
noncomputable def d75:dB:=⟨75,Tryz.f75,[.v (.str)],[.sl (.int .i64),.bool],[],[(55,S55),(73,S73),(128,aNz),(129,aZp)],false,[]⟩
theorem o75:FO d75:=mo Tryz.func75 ⟨QC,aFc,aCn,aRZ,trivial⟩
def aZq (v12:Int) (h0:List Int) (x0:ByteArray):eD×bG:=([eS 0 x0,eW 4 0,eW 10 1,eI 11 (↑(aN (bY x0 (aA #[43]))):Int),eI 12 v12],[jB (.int .i64) h0,jB .str (bY x0 (aA #[43]))])
mutual
def R75:Nat->ByteArray->List aY->Prop
 | 0,_,_=>False
 | n+1,x0,ds=>((P55 x0 (aA #[43]))/\(UB n (0) ([]) (x0) ds))
def UB:Nat->Int->List Int->ByteArray->List aY->Prop
 | 0,_,_,_,_=>False
 | n+1,v12,h0,x0,ds=>(if (decide (v12<(↑(aN (bY x0 (aA #[43]))):Int)))=true then ((0<=v12)/\(v12<(↑(aN (bY x0 (aA #[43]))):Int))/\((P73 (aD (bY x0 (aA #[43])) (aE v12) aC))/\(((aN h0+1)*8<=140737488355328)/\((cC .i64 (v12+1))/\(UB n (v12+1) (h0++[EW (aD (bY x0 (aA #[43])) (aE v12) aC)]) (x0) ds))))) else (if (!qL h0)=true then (ds=[aP (.sl (.int .i64)) [],aP .bool false]) else ((aN2 h0)/\(if (!aB (MS h0)==aB x0)=true then (ds=[aP (.sl (.int .i64)) [],aP .bool false]) else (ds=[aP (.sl (.int .i64)) h0,aP .bool true])))))
end
theorem aZr (ds:List aY) (K:jK) (q:Nat->Value):∀ n,(∀ {x0},R75 n x0 ds->St d75 (x0,()) ds [] K q)/\(∀ {v12 h0 x0},UB n v12 h0 x0 ds->Cu d75 3 (aZq v12 h0 x0) ds [] K q):=by
 intro n
 induction n with
 | zero=>exact ⟨λh=>h.elim,λh=>h.elim⟩
 | succ n ih =>
 obtain ⟨i,i3⟩:=ih;exact ⟨λh=>c1 h λh=>jn [(4,.int .i64)] (i3 h),
  λh=>bR h (λh=>c2 h λh=>c1 h λh=>c1 h λh=>c1 h λh=>jn [(4,.int .i64)] (i3 h)) λh=>tv<|bR h (λh=>tT<|rh h) λh=>c1 h λh=>bR h (λh=>rh h) λh=>rh h⟩
def OH (x0:ByteArray):List ByteArray:=bY x0 (aA #[43])
def AS (x0:ByteArray):List Int:=(OH x0).map EW
def Yq (x0:ByteArray):Option (List Int):=if qL (AS x0)=true/\MS (AS x0)=x0 then some (AS x0) else none
def FY (x0:ByteArray):List Int:=(Yq x0).getD []
def EX (x0:ByteArray):Bool:=(Yq x0).isSome
def P75 (x0:ByteArray):Prop:=x0.size<=1048576
theorem bIh {l:List Int} (h:qL l=true):l.length<=60:=by
 unfold qL at h;split at h
 ·split at h
  ·rename_i c;have:=of_decide_eq_true c;omega
  ·cases h
 ·cases h
theorem bIi (x0:ByteArray) (hp:P75 x0):(OH x0).length<=1048577:=by
 have hl:=vG (aA #[43]) (aT 1) 0 (gN x0 (aA #[43])) x0 rfl;have hc:=sQ (aA #[43]) (aT 1) x0.size x0 (aT _);have hp:x0.size<=1048576:=hp;have:(OH x0).length=gN x0 (aA #[43])+1:=hl;omega
theorem bIj (x0:ByteArray) (hp:P75 x0):∀ w∈OH x0,w.size<=1048576:=λw hw=>by
 have hp:x0.size<=1048576:=hp;have:=uE (aA #[43]) 0 _ _ w hw;omega
theorem aZs (x0:ByteArray) (hp:P75 x0):∀ (k i:Nat) (h0:List Int),i+k=(OH x0).length->h0=((OH x0).take i).map EW->UB (k+1) (i:Int) h0 x0 [⟨.sl (.int .i64),FY x0⟩,⟨.bool,EX x0⟩]:=by
 have ew:bY x0 (aA #[43])=OH x0:=rfl;have hl:=bIi x0 hp;have hz:=bIj x0 hp;intro k
 induction k with
 | zero =>
  intro i h0 hi hh;rw [fR (by omega)] at hh;have hh:h0=AS x0:=hh;subst hh;rw [UB,ew,if_neg (by simp only [decide_eq_true_eq];omega)];by_cases c:qL (AS x0)=true
  ·rw [if_neg (show ¬ (!qL (AS x0))=true by rw [c];decide)];refine ⟨(λ_=>by have:=bIh c;omega:aN2 (AS x0)),?_⟩;by_cases d:MS (AS x0)=x0
   ·have e:Yq x0=some (AS x0):=if_pos ⟨c,d⟩;have e0:FY x0=AS x0:=by unfold FY;rw [e];rfl
    have e1:EX x0=true:=by unfold EX;rw [e];rfl
    rw [e0,e1,if_neg (by rw [(eR _ _).2 d];simp)]
   ·have e:Yq x0=none:=if_neg (λh=>d h.2);have e0:FY x0=[]:=by unfold FY;rw [e];rfl
    have e1:EX x0=false:=by unfold EX;rw [e];rfl
    rw [e0,e1,if_pos (by rw [cW,bN];exact λhh=>d ((eR _ _).1 hh))]
  ·have e:Yq x0=none:=if_neg (λh=>c h.1);have e0:FY x0=[]:=by unfold FY;rw [e];rfl
   have e1:EX x0=false:=by unfold EX;rw [e];rfl
   rw [e0,e1,if_pos (show (!qL (AS x0))=true by rw [BE c];rfl)]
 | succ k ih =>
  intro i h0 hi hh;have hlt:i<(OH x0).length:=by omega
  have e3:(i:Int)+1=((i+1:Nat):Int):=by omega
  have hle:h0.length<=1048577:=by rw [hh,eJ,cJ];omega
  have hw:=hz _ (dN (OH x0) i aC hlt);rw [UB,ew,if_pos (by simp only [decide_eq_true_eq];omega),e3,aF];refine ⟨by omega,by omega,(show ((OH x0).getD i aC).size<=281474976710656 from by omega),by omega,by rw [aK];omega,ih (i+1) _ (by omega) ?_⟩;rw [hh,gY,bC hlt,iV (OH x0) i aC hlt,gQ];rfl
theorem aZt (x0:ByteArray) (hp:P75 x0):∃ n,R75 n x0 [⟨.sl (.int .i64),FY x0⟩,⟨.bool,EX x0⟩]:=by
 have hp':x0.size<=1048576:=hp;refine ⟨(OH x0).length+1+1,?_⟩;rw [R75];exact ⟨⟨by omega,aT 1⟩,aZs x0 hp _ 0 [] (by rw [cV]) rfl⟩
def S75:=dR d75 (λ⟨x0,_⟩=>P75 x0) λ⟨x0,_⟩=>[⟨.sl (.int .i64),FY x0⟩,⟨.bool,EX x0⟩]
theorem aZu:c7 75 S75:=dF o75 (λ⟨x0,_⟩ h hwf K q =>
 let ⟨n,hn⟩:=aZt x0 h
 (aZr _ K q n).1 hn)
noncomputable def d20:dB:=⟨20,Tryz.f20,[.v (.str)],[.cons .str (.cons .str (.cons (.sl (.int .i64)) (.cons (.sl (.int .i64)) .unit))),.bool],[.frz,.own],[(55,S55),(69,S69),(71,S71),(70,S70),(72,S72),(73,S73),(74,S74),(75,S75)],false,[]⟩
theorem o20:FO d20:=mo Tryz.func20 ⟨QC,aPU,aPV,aYW,aFb,aFc,aJx,aZu,trivial⟩
def aSa (v56:Int) (h3:List Int) (h4:List Int) (x0:ByteArray):eD×bG:=([eP 2 0 0 Gl,eP 5 1 0 Gl,eS 6 (jD (aD (bY x0 (aA #[32])) 0 aC)),(54,.a (.osl 2 (some (1,0+aE (↑(aN (bY x0 (aA #[32])) - 0):Int))))),eI 55 (↑(0+aE (↑(aN (bY x0 (aA #[32])) - 0):Int) - 1):Int),eI 56 v56],[hB_ Gl [GR (gM aC),GR (gM aC),GR (GJ none 0 0),GR (GJ none 0 0)],hB_ Gl [GR (gM (aD (bY x0 (aA #[32])) 0 aC)),GR (gM aC),vI 3,vI 4],jB .str (bY x0 (aA #[32])),jB (.int .i64) h3,jB (.int .i64) h4])
mutual
def R20:Nat->ByteArray->List aY->Prop
 | 0,_,_=>False
 | n+1,x0,ds=>((P55 x0 (aA #[32]))/\((0<(↑(aN (bY x0 (aA #[32]))):Int))/\(if (decide ((↑(aH x0):Int)>400))=true then (ds=[aP Gl (aC,aC,[],[],()),aP .bool false]) else (if (!Yg N4 (aD (bY x0 (aA #[32])) 0 aC))=true then (ds=[aP Gl (aC,aC,[],[],()),aP .bool false]) else (if (aB (jD (aD (bY x0 (aA #[32])) 0 aC))==aB (aA #[116]))=true then ((P72 x0 (aA #[32]))/\(ds=[aP Gl (aD (bY x0 (aA #[32])) 0 aC,iR x0 (aA #[32]),[],[],()),aP .bool (aJl x0 (aA #[32]))])) else ((cC .i64 ((↑(aH (jD (aD (bY x0 (aA #[32])) 0 aC))):Int)+1))/\(if ((↑(aN (bY x0 (aA #[32]))):Int) != (↑(aH (jD (aD (bY x0 (aA #[32])) 0 aC))):Int)+1)=true then (ds=[aP Gl (aC,aC,[],[],()),aP .bool false]) else ((1<=(↑(aN (bY x0 (aA #[32])) - 0):Int))/\(FZ n (0) ([]) ([]) (x0) ds)))))))))
def FZ:Nat->Int->List Int->List Int->ByteArray->List aY->Prop
 | 0,_,_,_,_,_=>False
 | n+1,v56,h3,h4,x0,ds=>(if (decide (v56<(↑(0+aE (↑(aN (bY x0 (aA #[32])) - 0):Int) - 1):Int)))=true then ((0<=v56)/\(v56<(↑(0+aE (↑(aN (bY x0 (aA #[32])) - 0):Int) - 1):Int))/\((0<=v56)/\(v56<(↑(aH (jD (aD (bY x0 (aA #[32])) 0 aC))):Int))/\(if ((↑(uK (aD (rI (rA (jD (aD (bY x0 (aA #[32])) 0 aC)))) (aE v56) 0)):Int)==110)=true then ((P73 (aD (bY x0 (aA #[32])) (1+aE v56) aC))/\(((aN h3+1)*8<=140737488355328)/\(if (!Yj (aD (bY x0 (aA #[32])) (1+aE v56) aC))=true then (ds=[aP Gl (aC,aC,[],[],()),aP .bool false]) else ((cC .i64 (v56+1))/\(FZ n (v56+1) (h3++[EW (aD (bY x0 (aA #[32])) (1+aE v56) aC)]) (h4) (x0) ds))))) else (if ((↑(uK (aD (rI (rA (jD (aD (bY x0 (aA #[32])) 0 aC)))) (aE v56) 0)):Int)==108)=true then ((P74 (aD (bY x0 (aA #[32])) (1+aE v56) aC))/\(if (!UA (aD (bY x0 (aA #[32])) (1+aE v56) aC))=true then (ds=[aP Gl (aC,aC,[],[],()),aP .bool false]) else ((cC .i64 (v56+1))/\(FZ n (v56+1) (h3) (uX (aD (bY x0 (aA #[32])) (1+aE v56) aC)) (x0) ds)))) else ((P75 (aD (bY x0 (aA #[32])) (1+aE v56) aC))/\(if (!EX (aD (bY x0 (aA #[32])) (1+aE v56) aC))=true then (ds=[aP Gl (aC,aC,[],[],()),aP .bool false]) else ((cC .i64 (v56+1))/\(FZ n (v56+1) (h3) (FY (aD (bY x0 (aA #[32])) (1+aE v56) aC)) (x0) ds)))))))) else (ds=[aP Gl (aD (bY x0 (aA #[32])) 0 aC,aC,h3,h4,()),aP .bool true]))
end
theorem aZv (ds:List aY) (K:jK) (q:Nat->Value):∀ n,(∀ {x0},R20 n x0 ds->St d20 (x0,()) ds [] K q)/\(∀ {v56 h3 h4 x0},FZ n v56 h3 h4 x0 ds->Cu d20 13 (aSa v56 h3 h4 x0) ds [] K q):=by
 intro n
 induction n with
 | zero=>exact ⟨λh=>h.elim,λh=>h.elim⟩
 | succ n ih =>
 obtain ⟨i,i13⟩:=ih;exact ⟨λ{x0} h=>c1 h λh=>tP ((by decide):(0:Int)<=(0:Int))<|c1 h λh=>tv<|bR h (λh=>tT<|rh h) λh=>tv<|tv<|bR h (λh=>rh h) λh=>bR h (λh=>c1 h λh=>rh h) λh=>c1 h λh=>bR h (λh=>rh h) λh=>tP ((by decide):(0:Int)<=(1:Int))<|c1 h λh=>jn [(3000005,.int .i64),(4000005,.int .i64)] (i13 h),
  λh=>bR h (λh=>c2 h λh=>c2 h λh=>bR h (λh=>c1 h λh=>c1 h λh=>bR h (λh=>rh h) λh=>c1 h λh=>jn [(3000005,.int .i64),(4000005,.int .i64)] (i13 h)) λh=>bR h (λh=>c1 h λh=>bR h (λh=>rh h) λh=>c1 h λh=>jn [(3000005,.int .i64),(4000005,.int .i64)] (i13 h)) λh=>c1 h λh=>bR h (λh=>rh h) λh=>c1 h λh=>jn [(3000005,.int .i64),(4000005,.int .i64)] (i13 h)) λh=>rh h⟩
abbrev C20:=ByteArray×ByteArray×List Int×List Int×Unit
def y6 (x0:ByteArray):List ByteArray:=bY x0 (aA #[32])
def Bs (x0:ByteArray):ByteArray:=jD ((y6 x0).getD 0 aC)
def Yr (x0:ByteArray) (i:Nat):Int:=(((Bs x0).data.toList.getD i 0).toNat:Int)
def Se (x0:ByteArray):Nat->Nat->List Int->List Int->Option (List Int×List Int)
 | 0,_,n,l=>some (n,l)
 | k+1,i,n,l =>
  if (Yr x0 i==110)=true then
   if Yj ((y6 x0).getD (1+i) aC)=true then Se x0 k (i+1) (n++[EW ((y6 x0).getD (1+i) aC)]) l else none
  else if (Yr x0 i==108)=true then
   if UA ((y6 x0).getD (1+i) aC)=true then Se x0 k (i+1) n (uX ((y6 x0).getD (1+i) aC)) else none
  else
   if EX ((y6 x0).getD (1+i) aC)=true then Se x0 k (i+1) n (FY ((y6 x0).getD (1+i) aC)) else none
def aN5:C20×Bool:=((ByteArray.empty,ByteArray.empty,[],[],()),false)
def aPY (x0:ByteArray):Option (List Int×List Int)->C20×Bool
 | some (n,l)=>(((y6 x0).getD 0 aC,aC,n,l,()),true)
 | none=>aN5
def Ys (x0:ByteArray):C20×Bool :=
 if 400<x0.size then aN5
 else if Yg N4 ((y6 x0).getD 0 aC)=false then aN5
 else if Bs x0=aA #[116] then (((y6 x0).getD 0 aC,iR x0 (aA #[32]),[],[],()),aJl x0 (aA #[32]))
 else if (y6 x0).length=(Bs x0).size+1 then aPY x0 (Se x0 (Bs x0).size 0 [] [])
 else aN5
def iN (x0:ByteArray):C20:=(Ys x0).1
def KE (x0:ByteArray):Bool:=(Ys x0).2
def P20 (x0:ByteArray):Prop:=x0.size<=1048576
def aPZ (c:C20×Bool):List aY:=[aP Gl c.1,aP .bool c.2]
theorem aZx (w:ByteArray):(jD w).size<=5:=by
 have h:∀ {c:Prop} [Decidable c] {a b:ByteArray},a.size<=5->b.size<=5->(if c then a else b).size<=5:=λha hb=>by split <;> assumption
 unfold jD
 repeat refine h (aZ rfl) ?_
 exact aZ rfl
theorem bIl (x0:ByteArray) (i:Nat):((y6 x0).getD i aC).size<=x0.size:=by
 by_cases c:i<(y6 x0).length
 ·exact uE (aA #[32]) 0 _ _ _ (dN (y6 x0) i aC c)
 ·rw [bL,eV (by omega)];exact bW _
theorem aZy (x0:ByteArray) (hp:P20 x0) (hl:(y6 x0).length=(Bs x0).size+1):∀ (k i:Nat) (n l:List Int),i+k=(Bs x0).size->n.length<=i->FZ (k+1) (i:Int) n l x0 (aPZ (aPY x0 (Se x0 k i n l))):=by
 have hp:x0.size<=1048576:=hp;have ew:bY x0 (aA #[32])=y6 x0:=rfl;have ek:jD ((y6 x0).getD 0 aC)=Bs x0:=rfl;have h5:(Bs x0).size<=5:=aZx _;intro k
 induction k with
 | zero =>
  intro i n l hi hn;rw [FZ,ew,ek,if_neg (by simp only [decide_eq_true_eq];omega)];rfl
 | succ k ih =>
  intro i n l hi hn;have e3:(i:Int)+1=((i+1:Nat):Int):=by omega
  have hz:=bIl x0 (1+i);have e0:(i:Int).toNat=i:=aF i;have ek2:((((Bs x0).data.toList.getD i 0).toNat:Nat):Int)=Yr x0 i:=rfl;rw [FZ,ew,ek,if_pos (by simp only [decide_eq_true_eq];omega),e3,e0,ek2,Se];generalize (y6 x0).getD (1+i) aC=w at *;refine ⟨by omega,by omega,by omega,by omega,?_⟩;have hr:cC .i64 ((i+1:Nat):Int):=by rw [aK];omega
  by_cases c:(Yr x0 i==110)=true
  ·rw [if_pos c,if_pos c];refine ⟨show w.size<=281474976710656 by omega,by omega,?_⟩;by_cases d:Yj w=true
   ·rw [if_pos d,if_neg (by rw [d];decide)];exact ⟨hr,ih (i+1) _ _ (by omega) (by rw [aO,cP];omega)⟩
   ·rw [if_neg d,if_pos (by rw [BE d];rfl)];rfl
  ·rw [if_neg c,if_neg c];by_cases c2:(Yr x0 i==108)=true
   ·rw [if_pos c2,if_pos c2];refine ⟨show w.size<=1048576 by omega,?_⟩;by_cases d:UA w=true
    ·rw [if_pos d,if_neg (by rw [d];decide)];exact ⟨hr,ih (i+1) _ _ (by omega) (by omega)⟩
    ·rw [if_neg d,if_pos (by rw [BE d];rfl)];rfl
   ·rw [if_neg c2,if_neg c2];refine ⟨show w.size<=1048576 by omega,?_⟩;by_cases d:EX w=true
    ·rw [if_pos d,if_neg (by rw [d];decide)];exact ⟨hr,ih (i+1) _ _ (by omega) (by omega)⟩
    ·rw [if_neg d,if_pos (by rw [BE d];rfl)];rfl
theorem aZz (x0:ByteArray) (hp:P20 x0):∃ n,R20 n x0 (aPZ (Ys x0)):=by
 have hp':x0.size<=1048576:=hp;have ew:bY x0 (aA #[32])=y6 x0:=rfl;have ek:jD ((y6 x0).getD 0 aC)=Bs x0:=rfl;have h5:(Bs x0).size<=5:=aZx _;have hl:(y6 x0).length=gN x0 (aA #[32])+1:=vG (aA #[32]) (aT 1) 0 (gN x0 (aA #[32])) x0 rfl;have hc:=sQ (aA #[32]) (aT 1) x0.size x0 (aT _);refine ⟨(Bs x0).size+1+1,?_⟩;unfold Ys;rw [R20,ew,ek];refine ⟨⟨by omega,aT 1⟩,by omega,?_⟩;by_cases c:400<x0.size
 ·rw [if_pos c,if_pos (by simp only [decide_eq_true_eq];omega)];rfl
 rw [if_neg c,if_neg (by simp only [decide_eq_true_eq];omega)];by_cases d:Yg N4 ((y6 x0).getD 0 aC)=false
 ·rw [if_pos d,if_pos (by rw [d];rfl)];rfl
 rw [if_neg d,if_neg (by intro h;exact d (by cases hh:Yg N4 ((y6 x0).getD 0 aC) with | false=>rfl | true=>rw [hh] at h;cases h))];by_cases e:Bs x0=aA #[116]
 ·rw [if_pos e,if_pos ((eR _ _).2 e)];exact ⟨show x0.size<4294967281 by omega,rfl⟩
 rw [if_neg e,if_neg (λh=>e ((eR _ _).1 h))];refine ⟨by rw [aK];omega,?_⟩;by_cases f:(y6 x0).length=(Bs x0).size+1
 ·rw [if_pos f,if_neg (by rw [f];simp)];exact ⟨by omega,aZy x0 hp f _ 0 [] [] (cV _) (aT _)⟩
 ·rw [if_neg f,if_pos (by rw [bne_iff_ne];omega)];rfl
def S20:=dR d20 (λ⟨x0,_⟩=>P20 x0) λ⟨x0,_⟩=>[aP Gl (iN x0),aP .bool (KE x0)]
theorem aZ0:c7 20 S20:=dF o20 (λ⟨x0,_⟩ h hwf K q =>
 let ⟨n,hn⟩:=aZz x0 h
 (aZv _ K q n).1 hn)
end
end Go.Proofs.YtmhpnodnljbnjaaGreatDoor
namespace Go.Am
open Go.RowKit
theorem aZ1 {P:Program} (w:World) {o:Oper} {a:Act} {K:Act->World->Prop} {Q:Exit->Act->World->Prop} (d s:Operand) (t t':TypeId)
  (ho:o.op = .call { callee := .builtin .copy,args := #[d,s],argTypes := #[t,t'] }) (v u:Value) (hd:a.eval d=v) (hs:a.eval s=u) {v':Value} {w':World}
  (hr:(jS #[t,t'] o.type #[v,u]).run P w = .ok v' w') (h:K (a.put o.dst v') w'):o.wp P a w K Q:=by
 unfold nY execOp;simp only [ho,resolve,invoke,builtin,Sem.run_bind,Sem.run_pure,Result.andThen_ok,List.map_toArray,bP,List.map_nil,hd,hs,hr];exact h
theorem lcp {P:Program} (w:World) {ops:Array Oper} {rest:List Oper} {o:Oper} {a:Act} {Q:Exit->Act->World->Prop} (hgd:o.guard=none) (d s:Operand) (t t':TypeId)
  (ho:o.op = .call { callee := .builtin .copy,args := #[d,s],argTypes := #[t,t'] }) (v u:Value) (hd:a.eval d=v) (hs:a.eval s=u) {v':Value} {w':World}
  (hr:(jS #[t,t'] o.type #[v,u]).run P w = .ok v' w') (h:wpList P ops Q rest (a.put o.dst v') w'):wpList P ops Q (o :: rest) a w :=
 wpList_plain hgd λ_ hK=>aZ1 w d s t t' ho v u hd hs hr (hK _ _ h)
theorem scp {P:Program} {ops:Array Oper} {o:Oper} {a:Act} {w:World} {K:Act->World->Prop} {Q:Exit->Act->World->Prop} {E:Prop}
  (hg:o.guard=none) (d x:Operand) (dT sT:TypeId) (hop:o.op=Op.call { callee:=Callee.builtin Builtin.copy,args := #[d,x],argTypes := #[dT,sT] })
  (v u:Value) (hd:a.eval d=v) (hx:a.eval x=u) {v':Value} {w':World} (hr:(jS #[dT,sT] o.type #[v,u]).run P w = .ok v' w') (hK:K (a.put o.dst v') w') :
  if Region.wanted o (yielded ops a.tmps)=true then nY P o a w K Q else E:=by
 have hw:Region.wanted o (yielded ops a.tmps)=true:=by simp [Region.wanted,hg]
 rw [if_pos hw];exact aZ1 w d x dT sT hop v u hd hx hr hK
structure KF (P:Program) (t:Ty) (s e ov:Nat) (k:Nat):Prop where
 flat:t.flat=true
 sz:t.size=k
 pos:0<k
 one:k≠1
 und:P.underlying s=some (.slice e)
 int:P.underlying 3=some (.int .i64)
 info:∃ i0 z,P.info? e=some i0/\i0.size=k/\i0.zero=some z/\z.cells=(eF t).toArray/\i0.bytes*1048577<=140737488355328
 ovl : ∃ fn, P.funcs[ov]? = some fn /\ (fn.name == "runtime.NumGoroutine") = false /\ fn.body.isNone = true /\ Extern.findNext fn = none /\ Extern.find fn = some (xA #[s, s] #[4])
theorem KF.of {P:Program} {t:Ty} {s e ov k:Nat} {bt:Nat} (h:Ea P s (.slice e t bt)) (hf:t.flat=true) (hs:t.size=k) (hp:0<k) (h1:k≠1) (hb:bt*1048577<=140737488355328) (h3:P.underlying 3=some (.int .i64))
  {fn : Func} (f1 : P.funcs[ov]? = some fn) (f2 : (fn.name == "runtime.NumGoroutine") = false) (f3 : fn.body.isNone = true) (f4 : Extern.findNext fn = none) (f5 : Extern.find fn = some (xA #[s, s] #[4])) : KF P t s e ov k := by
 obtain ⟨_,hu,⟨_,⟨i0,hi0,hz1,z,hz0,hzs,hzv⟩⟩,hby⟩:=h;rw [hi0] at hby
 simp only [Option.map_some,fF] at hby
 exact ⟨hf,hs,hp,h1,hu,h3,⟨i0,z,hi0,by rw [hz1,hs],hz0,Array.toList_inj.1 (by rw [hzs]),by rw [hby];exact hb⟩,⟨fn,f1,f2,f3,f4,f5⟩⟩
def aCo (P:Program) (n:FuncId) (s e k:Nat):Prop:=∀ (w:World) (m b off cap vb voff vcap:Nat) (i0:TypeInfo) (vs:List Value),P.underlying s=some (.slice e)->P.info? e=some i0->i0.size=k->cap<=maxLen->m+1<=cap->Src P i0.size s (.slice (some ⟨vb,voff,none⟩) 1 vcap) 1 vs w ->
  Aside (∀ j,j<vs.length->(w.cell? ⟨b,off+m*i0.size+j,none⟩).isSome=true)->Aside (∀ j,j<vs.length->w.frozen? ⟨b,off+m*i0.size+j,none⟩=false) ->
  Calls P n #[.slice (some ⟨b,off,none⟩) m cap,.int .i64 m,.slice (some ⟨vb,voff,none⟩) 1 vcap] w λr w'=>r = .returned (.slice (some ⟨b,off,none⟩) (m+1) cap)/\∃ q,w'=(w.drewN q).setCells b (off+m*k) vs
def QL (P:Program) (n:FuncId) (s e:Nat):Prop:=∀ (w:World) (m:Nat) (ad:Option Addr) (cap vb voff vcap G:Nat) (ROW:Array Value),(ad=none->m=0)->m<=cap->cap<m+1->m<=1048576->m+1<=G->G<=maxLen ->
  (∀ ty,(gD #[s,s] ty #[.slice ad m cap,.slice (some ⟨vb,voff,none⟩) 1 vcap]).run P w = .ok (.slice (some ⟨w.heap.size,0,none⟩) (m+1) G) (w.drew.alloc (.cells ROW e))) ->
  Calls P n #[.slice ad m cap,.int .i64 m,.slice (some ⟨vb,voff,none⟩) 1 vcap] w λr w'=>r = .returned (.slice (some ⟨w.heap.size,0,none⟩) (m+1) G)/\w'=w.drew.alloc (.cells ROW e)
def I6 (P:Program) (n:FuncId) (s ov k:Nat):Prop:=∀ (w:World) (m b off cap vb voff vcap i:Nat) (vs ds:List Value) (W1:World),i<m->m+1<=cap->cap<=maxLen->Aside (W1=w.drew.setCells b (off+(i+1)*k) ds) ->
  (∀ lb cb,(callFunc ov #[.slice (some ⟨vb,voff,none⟩) 1 vcap,.slice (some ⟨b,off+(i+1)*k,none⟩) lb cb]).run P w = .ok (.value (.bool false)) w) ->
  (∀ ty dc sc,(jS #[s,s] ty #[.slice (some ⟨b,off+(i+1)*k,none⟩) (m - i) dc,.slice (some ⟨b,off+i*k,none⟩) (m+1 - i) sc]).run P w.drew = .ok (goInt (EB (m+1 - i) (m - i))) W1) ->
  (∀ (W:World),(∀ x,W.cell? x=W1.cell? x)->(∀ x,W.frozen? x=W1.frozen? x)->∀ ty dc,(jS #[s,s] ty #[.slice (some ⟨b,off+i*k,none⟩) (m+1 - i) dc,.slice (some ⟨vb,voff,none⟩) 1 vcap]).run P W = .ok (goInt (EB 1 (m+1 - i))) (W.setCells b (off+i*k) vs)) ->
  Calls P n #[.slice (some ⟨b,off,none⟩) m cap,.int .i64 i,.slice (some ⟨vb,voff,none⟩) 1 vcap] w λr w'=>r = .returned (.slice (some ⟨b,off,none⟩) (m+1) cap)/\∃ q,w'=((w.drewN q).setCells b (off+(i+1)*k) ds).setCells b (off+i*k) vs
def QM (P:Program) (n:FuncId) (s e k:Nat):Prop:=∀ (w:World) (m b off cap vb voff vcap i:Nat) (vs ds:List Value) (ROW:Array Value) (G:Nat),i<m->cap<m+1->m<=cap->cap<=maxLen->m+1<=G->G<=maxLen ->
  (∀ ty,(gD #[s,3] ty #[.slice (some ⟨b,off,none⟩) i cap,.int .i64 ((m:Int)+1 - (i:Int))]).run P w = .ok (.slice (some ⟨w.heap.size,0,none⟩) (m+1) G) (w.drew.alloc (.cells ROW e))) ->
  (∀ ty dc,(jS #[s,s] ty #[.slice (some ⟨w.heap.size,i*k,none⟩) (m+1 - i) dc,.slice (some ⟨vb,voff,none⟩) 1 vcap]).run P (w.alloc (.cells ROW e)).drew = .ok (goInt (EB 1 (m+1 - i))) ((w.alloc (.cells ROW e)).drew.setCells w.heap.size (i*k) vs)) ->
  (∀ ty dc sc,(jS #[s,s] ty #[.slice (some ⟨w.heap.size,(i+1)*k,none⟩) (m - i) dc,.slice (some ⟨b,off+i*k,none⟩) (m - i) sc]).run P ((w.alloc (.cells ROW e)).drew.setCells w.heap.size (i*k) vs).drew = .ok (goInt (EB (m - i) (m - i))) (((w.alloc (.cells ROW e)).drew.setCells w.heap.size (i*k) vs).drew.setCells w.heap.size ((i+1)*k) ds)) ->
  Calls P n #[.slice (some ⟨b,off,none⟩) m cap,.int .i64 i,.slice (some ⟨vb,voff,none⟩) 1 vcap] w λr w'=>r = .returned (.slice (some ⟨w.heap.size,0,none⟩) (m+1) G)/\w'=((w.alloc (.cells ROW e)).drew.setCells w.heap.size (i*k) vs).drew.setCells w.heap.size ((i+1)*k) ds
section
variable {P:Program} {t:Ty} {s e ov k:Nat} (I:KF P t s e ov k) {w:World} {xs ys:List t.den} {b off cap:Nat} {cur:Array Value} {ty:TypeId} {fz:Nat×Nat} {vb voff vcap:Nat} {vcur:Array Value} {vty:TypeId} {vfz:Nat×Nat}
include I
theorem Ob (hB:vN w t ys vb voff vcap vcur vty vfz) (h1:ys.length=1):(pG t ys).length=1*t.size/\(∀ (j:Nat) (u:Value),(pG t ys)[j]? = some u->w.cell? ⟨vb,voff+j,none⟩=some u)/\(∀ u∈pG t ys,u.oneCell'=true) /\
  Src P t.size s (.slice (some ⟨vb,voff,none⟩) 1 vcap) 1 (pG t ys) w:=by
 have hl:(pG t ys).length=1*t.size:=by rw [lY I.flat hB.wf,h1]
 have hc:=hB.cell;have ho:∀ u∈pG t ys,u.oneCell'=true:=FP I.flat _;exact ⟨hl,hc,ho,Src.ofSlice w I.und ⟨vb,voff,none⟩ 1 vcap _ hl (λj u hj=>by rw [fH];exact hc j u hj) ho⟩
theorem aN6 {n:FuncId} (H:aCo P n s e k):aX0 P n t:=by
 intro w xs ys b off cap cur ty fz vb voff vcap vcur vty vfz hA hB h1 _ hroom;obtain ⟨i0,z,hi0,hz1, -⟩:=I.info;have hk:=I.sz;subst hk;obtain ⟨hl,hc,ho,hs⟩:=Ob I hB h1;have hle:(xs.length+1)*t.size<=cap*t.size:=dA _ hroom;rw [rJ] at hle;refine H w xs.length b off cap vb voff vcap i0 _ I.und hi0 hz1 hA.capm hroom (by rw [hz1];exact hs) (λj hj => ?_) (λj hj => ?_)
 ·rw [hz1,dV];exact hA.some' _ (by omega)
 ·rw [hz1,dV];exact hA.unfrozen _ (by omega)
theorem aJ3 {n:FuncId} (H:QL P n s e):aPG P n t e:=by
 intro w xs ys ad cap vb voff vcap vcur vty vfz hw hlen hnil hcs hB h1 hroom hmax;obtain ⟨i0,z,hi0,hz1,hz0,hzc,hb⟩:=I.info;have hk:=I.sz;subst hk;obtain ⟨hvl,hvc,s2,hsrc⟩:=Ob I hB h1;have hcl:(pG t xs).length=xs.length*t.size:=lY I.flat hw;rw [qH];obtain ⟨vs,hvs⟩:∃ vs,vs=pG t ys:=⟨_,rfl⟩;obtain ⟨cs,hcss⟩:∃ cs,cs=pG t xs:=⟨_,rfl⟩;rw [<- hvs] at hvl hsrc;rw [<- hcss] at hcl hcs;rw [<- hvs, <- hcss];have hold:(dZ i0.size xs.length (.slice ad xs.length cap)).run P w.drew = .ok cs.toArray w.drew:=by
  rw [hz1];cases ad with
  | none =>
   have h0:=hnil rfl;subst h0;rw [List.length_eq_zero_iff.1 (show cs.length=0 by rw [hcl];simp)];exact run_firstCells_none w.drew t.size 0 0 cap
  | some a=>exact run_firstCells_some w.drew t.size xs.length a xs.length cap cs hcl (λj v hj=>hcs a rfl j v hj)
 have hbig:(xs.length+1)*i0.bytes<=140737488355328:=by
  have:(xs.length+1)*i0.bytes<=1048577*i0.bytes:=dA _ (by omega);rw [L3 1048577] at this;omega
 have hrun:=λty=>run_append_grow_src w s s ty e i0 z I.und hi0 hz0 ad xs.length cap cs hold _ 1 vs (by rw [hz1];exact hsrc) hroom (by omega) (growslice_fits hroom hbig);have hge:=grownCap_ge w (xs.length+1) cap e;have hgm:=grownCap_le_maxLen w (xs.length+1) cap e (by unfold maxLen;omega);refine (H w xs.length ad cap vb voff vcap _ _ (λh=>by rw [hnil h];rfl) hlen hroom hmax hge hgm hrun).mono ?_;rintro _ _ ⟨rfl,rfl⟩;refine ⟨_,rfl,?_⟩;generalize grownCap w (xs.length+1) cap e=G at hge hgm;have el:(cs++vs).length=(xs.length+1)*t.size:=by rw [aO,hcl,hvl,dL]
 refine ⟨⟨el,.inr ⟨w.heap.size,G,_,rfl,aT _,heap_alloc_new w.drew _,hge,hgm,?_,?_⟩⟩,((JJ w.heap.size w).drew).alloc (aT _) _⟩
 ·have hz:(gG z.cells (G - (xs.length+1))).size=(G - (xs.length+1))*t.size:=by
   rw [<- cT,hzc,N0];simp [(iK default (Good default []) t).length]
  rw [nA,dK,el,hz, <- dL];congr 1;omega
 ·rw [Array.toList_append];have:((cs++vs).toArray.toList++(gG z.cells (G - (xs.length+1))).toList).take ((cs++vs).length)=cs++vs:=List.take_left;rw [el] at this;exact this
theorem aG1 {n:FuncId} (H:I6 P n s ov k):aIg P n t:=by
 intro w xs ys b off cap cur ty fz vb voff vcap vcur vty vfz i hA hB h1 hvb hi hroom;obtain ⟨i0,z,hi0,hz1,hz0,hzc,hb⟩:=I.info;have hk:=I.sz;subst hk;have hzm:(P.info? e).map (·.size)=some t.size:=by rw [hi0];exact congrArg some hz1
 obtain ⟨hvl,hvc,s2, -⟩:=Ob I hB h1;have hdl:(pG t (xs.drop i)).length=(xs.length - i)*t.size:=by
  rw [lY I.flat (λx hx=>hA.wf x (iB hx)),fD]
 have hdc:∀ (k:Nat) (u:Value),(pG t (xs.drop i))[k]? = some u->w.cell? ⟨b,off+i*t.size+k,none⟩=some u:=λk u hk=>by
  have:=hA.cell _ _ (Y0 I.flat hA.wf i (by omega) k u hk)
  rwa [dV]
 have s1:∀ u∈pG t (xs.drop i),u.oneCell'=true:=FP I.flat _;generalize pG t ys=vs at *;generalize pG t (xs.drop i)=ds at *;have A0:∀ k,k<cap*t.size->(w.cell? ⟨b,off+k,none⟩).isSome=true/\w.frozen? ⟨b,off+k,none⟩=false:=λk hk=>⟨hA.some' k hk,hA.unfrozen k hk⟩;have hle:(xs.length+1)*t.size<=cap*t.size:=dA _ hroom;rw [rJ] at hle;have e2:(i+1)*t.size=i*t.size+t.size:=rJ _ _;have e1:i*t.size+(xs.length - i)*t.size=xs.length*t.size:=by rw [<- dL];congr 1;omega
 have e3:t.size<=(xs.length - i)*t.size:=Nat.le_mul_of_pos_left _ (by omega);have hc0:0<cap*t.size:=aAU (by omega) I.pos;have hv0:0<vcap*t.size:=aAU (by have:=hB.len;omega) I.pos;have hov:∀ lb cb,(callFunc ov #[.slice (some ⟨vb,voff,none⟩) 1 vcap,.slice (some ⟨b,off+(i+1)*t.size,none⟩) lb cb]).run P w = .ok (.value (.bool false)) w:=λlb cb=>by
  obtain ⟨fn,f1,f2,f3,f4,f5⟩:=I.ovl;have hfe:w.frozen? ⟨vb,vcur.size,none⟩=false:=by
   have h2:=(hB.free.2.resolve_left I.one) vcur.size (by omega);simp only [CE, hB.blk];rw [bN];intro hh;simp only [aJ,decide_eq_true_eq] at hh;exact h2 hh
  rw [run_callFunc_extern f1 f2 f3 f4 f5,
   Lib.run_overlaps_apart w s 4 e I.und t.size (λw=>by simp [Go.sizeOf,typeInfo,hi0,hz1]) ⟨vb,voff,none⟩ ⟨b,off+(i+1)*t.size,none⟩ 1 vcap lb cb hvb vty ty vcur.size cur.size (by simp only [zD, hB.blk]) (by simp only [zD, hA.blk]) (by have:=hA.fit;omega) (hB.unfrozen 0 hv0) hfe]
  rfl
 refine H w xs.length b off cap vb voff vcap i vs ds _ hi hroom hA.capm rfl hov (λty dc sc => ?_) (λW hWc hWf ty dc => ?_)
 ·exact DT w.drew _ _ ty e t.size b (off+(i+1)*t.size) (xs.length - i) dc ⟨b,off+i*t.size,none⟩ (xs.length+1 - i) sc ds I.und hzm (by rw [hdl];congr 1;simp only [GS];split <;> omega)
   (λj v hj=>by rw [fH];exact hdc j v hj)
   (λj hj=>by rw [dV];exact (A0 _ (by omega)).1) (λj hj=>by rw [dV];exact (A0 _ (by omega)).2) s1
 ·exact DT W _ _ ty e t.size b (off+i*t.size) (xs.length+1 - i) dc ⟨vb,voff,none⟩ 1 vcap vs I.und hzm (by rw [hvl];congr 1;simp only [GS];split <;> omega)
   (λj v hj=>by
    rw [fH,hWc,CK b _ _ _ _ (λh _=>absurd h hvb)];exact hvc j v hj)
   (λj hj=>by rw [hWc];exact IU _ _ _ _ _ (by rw [dV];exact (A0 _ (by omega)).1)) (λj hj=>by rw [hWf,EI,dV];exact (A0 _ (by omega)).2) s2
theorem aJ4 {n:FuncId} (H:QM P n s e k):aPF P n t e:=by
 intro w xs ys b off cap cur ty fz vb voff vcap vcur vty vfz i hA hB h1 hvb hi hroom hmax;obtain ⟨i0,z,hi0,hz1,hz0,hzc,hb⟩:=I.info;have hk:=I.sz;subst hk;have hzm:(P.info? e).map (·.size)=some t.size:=by rw [hi0];exact congrArg some hz1
 obtain ⟨hvl,hvc,s2, -⟩:=Ob I hB h1;have hdl:(pG t (xs.drop i)).length=(xs.length - i)*t.size:=by
  rw [lY I.flat (λx hx=>hA.wf x (iB hx)),fD]
 have htl:(pG t (xs.take i)).length=i*t.size:=by
  rw [lY I.flat (λx hx=>hA.wf x (List.mem_of_mem_take hx)),cJ,Nat.min_eq_left (by omega)]
 have hdc:∀ (k:Nat) (u:Value),(pG t (xs.drop i))[k]? = some u->w.cell? ⟨b,off+i*t.size+k,none⟩=some u:=λk u hk=>by
  have:=hA.cell _ _ (Y0 I.flat hA.wf i (by omega) k u hk)
  rwa [dV]
 have htc:∀ (k:Nat) (u:Value),(pG t (xs.take i))[k]? = some u->w.cell? ⟨b,off+k,none⟩=some u:=λk u hk=>hA.cell _ _ (Y1 I.flat hA.wf i k u hk);have hbw:=hA.lt;have hvw:=hB.lt;have s1:∀ u∈pG t (xs.drop i),u.oneCell'=true:=FP I.flat _;rw [qH,qH];generalize pG t ys=vs at *;generalize pG t (xs.drop i)=ds at *;generalize pG t (xs.take i)=ts at *;have hbig:(xs.length+1)*i0.bytes<=140737488355328:=by
  have:(xs.length+1)*i0.bytes<=1048577*i0.bytes:=dA _ (by omega);rw [L3 1048577] at this;omega
 have hkk:(xs.length:Int)+1 - (i:Int)=((xs.length+1 - i:Nat):Int):=by omega
 have hik:i+(xs.length+1 - i)=xs.length+1:=by omega
 have hold:(dZ i0.size i (.slice (some ⟨b,off,none⟩) i cap)).run P w.drew = .ok ts.toArray w.drew:=by
  rw [hz1];exact run_firstCells_some w.drew t.size i ⟨b,off,none⟩ i cap ts htl (λj v hj=>by rw [fH];exact htc j v hj)
 have h48:(xs.length+1 - i)*i0.bytes<=281474976710656:=by
  have:(xs.length+1 - i)*i0.bytes<=(xs.length+1)*i0.bytes:=dA _ (by omega);omega
 have hrz:∀ ty,(gD #[s,3] ty #[.slice (some ⟨b,off,none⟩) i cap,.int .i64 ((xs.length:Int)+1 - (i:Int))]).run P w =
   .ok (.slice (some ⟨w.heap.size,0,none⟩) (xs.length+1) (grownCap w (xs.length+1) cap e)) (w.drew.alloc (.cells (ts.toArray++gG z.cells (xs.length+1 - i)++gG z.cells (grownCap w (xs.length+1) cap e - (xs.length+1))) e)):=λty=>by
  have h:=Lib.run_append_grow_zeros w s 3 ty e i0 z .i64 .i64 I.und I.int hi0 hz0 (some ⟨b,off,none⟩) i cap ts hold (xs.length+1 - i) (by omega) (by rw [hz1];exact I.pos) (by omega) (by omega) h48 (by rw [hik];exact growslice_fits hroom hbig);rw [hik] at h;rw [hkk];exact h
 have hge:=grownCap_ge w (xs.length+1) cap e;have hgm:=grownCap_le_maxLen w (xs.length+1) cap e (by unfold maxLen;omega);obtain ⟨G,hG⟩:∃ G,G=grownCap w (xs.length+1) cap e:=⟨_,rfl⟩;rw [<- hG] at hrz hge hgm;obtain ⟨ROW,hROW⟩:∃ ROW:Array Value,ROW=ts.toArray++gG z.cells (xs.length+1 - i)++gG z.cells (G - (xs.length+1)):=⟨_,rfl⟩;rw [<- hROW] at hrz;have hzs:∀ k,(gG z.cells k).size=k*t.size:=λk=>by
  rw [<- cT,hzc,N0];simp [(iK default (Good default []) t).length]
 have hRs:ROW.size=G*t.size:=by
  rw [hROW,nA,nA,dK,htl,hzs,hzs, <- dL,hik, <- dL]
  congr 1;omega
 have hRt:∀ (k:Nat) (u:Value),ts[k]? = some u->ROW[k]? = some u:=λk u hk=>by
  have hlt:=(List.getElem?_eq_some_iff.1 hk).1;rw [hROW,Array.append_assoc,Array.getElem?_append_left (by simpa using hlt)];simpa using hk
 have hmul:(xs.length+1)*t.size<=G*t.size:=dA _ hge;obtain ⟨W1,hW1⟩:∃ W1,W1=w.drew.alloc (.cells ROW e):=⟨_,rfl⟩;have hblk:W1.heap[w.heap.size]? = some (.cells ROW e (0,0)):=by rw [hW1];exact heap_alloc_new w.drew _
 have hN:∀ j,j<G*t.size->(W1.cell? ⟨w.heap.size,j,none⟩).isSome=true:=λj hj=>by
  simp only [fQ, hblk];rw [Array.getElem?_eq_getElem (by omega)];rfl
 have hNf:∀ j,W1.frozen? ⟨w.heap.size,j,none⟩=false:=λj=>by
  simp only [CE, hblk];simp
 have hOld:∀ k,k<w.heap.size->W1.heap[k]? = w.heap[k]? := λk hk=>by rw [hW1];exact heap_alloc_old w.drew _ hk
 have hO:∀ b,b<w.heap.size->∀ j v,w.cell? ⟨b,j,none⟩=some v->W1.cell? ⟨b,j,none⟩=some v:=λb hb j v h=>by simp only [fQ] at h ⊢;rw [hOld b hb];exact h
 have hbN:b≠w.heap.size:=by omega
 have e2:(i+1)*t.size=i*t.size+t.size:=rJ _ _;have e1:(i+1)*t.size+(xs.length - i)*t.size=(xs.length+1)*t.size:=by rw [<- dL];congr 1;omega
 have cA:∀ (W:World),(∀ x,W.cell? x=W1.cell? x)->(∀ x,W.frozen? x=W1.frozen? x)->∀ ty dc,(jS #[s,s] ty #[.slice (some ⟨w.heap.size,i*t.size,none⟩) (xs.length+1 - i) dc,.slice (some ⟨vb,voff,none⟩) 1 vcap]).run P W = .ok (goInt (EB 1 (xs.length+1 - i))) (W.setCells w.heap.size (i*t.size) vs):=λW hWc hWf ty dc =>
  DT W _ _ ty e t.size w.heap.size (i*t.size) (xs.length+1 - i) dc ⟨vb,voff,none⟩ 1 vcap vs I.und hzm (by rw [hvl];congr 1;simp only [GS];split <;> omega)
   (λj v hj=>by rw [fH,hWc];exact hO _ hvw _ v (hvc j v hj))
   (λj hj=>by rw [hWc];exact hN _ (by omega)) (λj hj=>by rw [hWf];exact hNf _) s2
 have cB:∀ (W:World),(∀ x,W.cell? x=(W1.setCells w.heap.size (i*t.size) vs).cell? x)->(∀ x,W.frozen? x=(W1.setCells w.heap.size (i*t.size) vs).frozen? x)->∀ ty dc sc,(jS #[s,s] ty #[.slice (some ⟨w.heap.size,(i+1)*t.size,none⟩) (xs.length - i) dc,.slice (some ⟨b,off+i*t.size,none⟩) (xs.length - i) sc]).run P W = .ok (goInt (EB (xs.length - i) (xs.length - i))) (W.setCells w.heap.size ((i+1)*t.size) ds):=λW hWc hWf ty dc sc =>
  DT W _ _ ty e t.size w.heap.size ((i+1)*t.size) (xs.length - i) dc ⟨b,off+i*t.size,none⟩ (xs.length - i) sc ds I.und hzm (by rw [hdl];congr 1;simp only [GS];split <;> omega)
   (λj v hj=>by
    rw [fH,hWc,CK _ _ _ _ _ (λh _=>absurd h hbN)];exact hO _ hbw _ v (hdc j v hj))
   (λj hj=>by rw [hWc];exact IU _ _ _ _ _ (hN _ (by omega)))
   (λj hj=>by rw [hWf,EI];exact hNf _) s1
 have fin:∀ q1 q2:Nat,(((W1.drewN q1).setCells w.heap.size (i*t.size) vs).drewN q2 |>.setCells w.heap.size ((i+1)*t.size) ds).ownsRow w.heap.size e t.size (.slice (some ⟨w.heap.size,0,none⟩) (xs.length+1) G) (xs.length+1) (ts++(vs++ds)) /\
   Below w.heap.size w (((W1.drewN q1).setCells w.heap.size (i*t.size) vs).drewN q2 |>.setCells w.heap.size ((i+1)*t.size) ds):=λq1 q2=>by
  have el:(ts++(vs++ds)).length=(xs.length+1)*t.size:=by
   rw [aO,aO,htl,hvl,hdl, <- dL, <- dL];congr 1;omega
  have l1:i*t.size+vs.length<=ROW.size:=by rw [hvl,hRs];omega
  obtain ⟨c1,g1,g2,g3,g4,g5,g6⟩:=lZ vs (show (W1.drewN q1).heap[w.heap.size]? = some (.cells ROW e (0,0)) from hblk) l1;have l2:(i+1)*t.size+ds.length<=c1.size:=by rw [hdl,g2,hRs];omega
  have g1':(((W1.drewN q1).setCells w.heap.size (i*t.size) vs).drewN q2).heap[w.heap.size]? = some (.cells c1 e (0,0)):=g1;obtain ⟨c2,k1,k2,k3,k4,k5,k6⟩:=lZ ds g1' l2;have kA:=sK vs (show (W1.drewN q1).heap[w.heap.size]? = some (.cells ROW e (0,0)) from hblk) l1;have kB:=sK ds g1' l2;have kAll:cE [w.heap.size] w (((W1.drewN q1).setCells w.heap.size (i*t.size) vs).drewN q2 |>.setCells w.heap.size ((i+1)*t.size) ds):=by
   have k0:cE [w.heap.size] w W1:=by rw [hW1];exact ((cI _ w).drew).alloc _
   have k1:∀ (W:World) q,cE [w.heap.size] W (W.drewN q):=λ_ _=>⟨rfl,rfl,rfl,aT _,λ_ _ _=>rfl⟩;exact ((k0.trans (k1 _ _)).trans (kA.trans (k1 _ _))).trans kB
  refine ⟨⟨el,.inr ⟨w.heap.size,G,c2,rfl,aT _,k1,hge,hgm,by rw [k2,g2,hRs],?_⟩⟩,⟨kAll.os,kAll.tape,kAll.output,kAll.size,λk hk=>kAll.block k hk (by simp;omega)⟩⟩;apply List.ext_getElem?;intro k;rw [List.getElem?_take];by_cases hk:k<(xs.length+1)*t.size
  ·rw [if_pos hk,cX];have hk':k<(ts++(vs++ds)).length:=by rw [el];exact hk
   obtain ⟨u,hu⟩:∃ u,(ts++(vs++ds))[k]? = some u:=⟨_,bC hk'⟩;rw [hu];by_cases h1:k<i*t.size
   ·rw [bV (by omega)] at hu;rw [k4 _ (.inl (by omega)),g4 _ (.inl (by omega))];exact hRt k u hu
   ·rw [cH (by omega),htl] at hu;by_cases h2:k<i*t.size+t.size
    ·rw [bV (by omega)] at hu;have:=g3 _ u hu;rw [k4 _ (.inl (by omega))]
     rwa [show i*t.size+(k - i*t.size)=k by omega] at this
    ·rw [cH (by omega),hvl] at hu;have:=k3 _ u hu
     rwa [show (i+1)*t.size+(k - i*t.size - 1*t.size)=k by omega] at this
  ·rw [if_neg hk,eV (by rw [el];omega)]
 subst hW1;refine (H w xs.length b off cap vb voff vcap i vs ds ROW G hi hroom hA.len hA.capm hge hgm hrz (cA _ (λ_=>rfl) (λ_=>rfl)) (cB _ (λ_=>rfl) (λ_=>rfl))).mono ?_;rintro _ _ ⟨rfl,rfl⟩;exact ⟨_,rfl,fin 0 1⟩
theorem KF.contract {n:FuncId} (h1:I6 P n s ov k) (h2:QM P n s e k) (h3:aCo P n s e k) (h4:QL P n s e):jC P n (Pt t) :=
 OE I.flat (aG1 I h1) (aJ4 I h2) (aN6 I h3) (aJ3 I h4)
end
def Sf (P:Program) (n:FuncId) (s:Nat):Prop:=∀ w:World,(∀ (w:World) (a:Option Addr) (n c n' c':Nat),(binOp .eql s (.slice a n c) (.slice none n' c')).run P w = .ok (.bool a.isNone) w)->Calls P n #[.slice none 0 0] w λe w'=>e = .returned (.slice none 0 0)/\w'=w
def Hj (P:Program) (f:FuncId) (s e k:Nat):Prop:=∀ (w:World) (a:Addr) (n c:Nat) (news:List Value) (i0:TypeInfo) (z:Value),(∀ (w:World) (a:Option Addr) (n c n' c':Nat),(binOp .eql s (.slice a n c) (.slice none n' c')).run P w = .ok (.bool a.isNone) w) ->
  P.underlying s=some (.slice e)->P.info? e=some i0->i0.zero=some z->i0.size=k->z.cells.size=k->0<k->news.length=n*k->Aside (∀ (j:Nat) (u:Value),news[j]? = some u->w.cell? (a.add j)=some u)->(∀ u∈news,u.oneCell'=true)->0+n<=maxLen->(0+n)*i0.bytes<=140737488355328 ->
  Calls P f #[.slice (some a) n c] w λr w'=>∃ v',r = .returned v'/\w'.ownsRow w.heap.size e k v' n news/\Below w.heap.size w w'
theorem o6 {P:Program} {f:FuncId} {t:Ty} {s e k bt:Nat} (h:Ea P s (.slice e t bt)) (hf:t.flat=true) (hs:t.size=k) (hp:0<k) (hb:1048576*bt<=140737488355328) (h1:Sf P f s) (h2:Hj P f s e k):jC P f (Tp t):=by
 subst hs;obtain ⟨_,hu,⟨_,⟨i0,hi0,hz1,z,hz0,hzs,_⟩⟩,hby⟩:=h;rw [hi0] at hby
 simp only [Option.map_some,fF] at hby
 have q:∀ (w:World) (a:Option Addr) (n c n' c':Nat),(binOp .eql s (.slice a n c) (.slice none n' c')).run P w = .ok (.bool a.isNone) w:=λw a n c n' c'=>Lib.run_eql_slice_nil w _ _ a n c n' c' hu;refine Ps (e:=e) hf (λw=>h1 w q) λw a n c news hl hn hc ho=>h2 w a n c news i0 z q hu hi0 hz0 hz1 (by rw [<- cT,hzs,(iK default (Good default []) t).length]) hp hl hc ho (by unfold maxLen;omega) ?_;rw [hby,cV];exact cO (dA _ hn) hb
end Go.Am
set_option maxRecDepth 100000
namespace Go.Proofs.YtmhpnodnljbnjaaGreatDoor
open Go Go.Am Go.Proofs
set_option maxHeartbeats 4000000 in
theorem uY : Sf aL 76 27 /\ Sf aL 77 30 /\ Sf aL 78 31 /\ Sf aL 79 36 /\ Sf aL 80 39 /\ Sf aL 81 40 /\ Sf aL 82 41 /\ Sf aL 83 42 /\ Sf aL 367 57 := by
  refine ⟨?_, ?_, ?_, ?_, ?_, ?_, ?_, ?_, ?_⟩ <;>
  (intro w q22
   have mixed := mixed
   first | go_enter Ns, XI | go_enter Nt, XJ | go_enter Nu, XK | go_enter Nv, XL | go_enter Nw, XM | go_enter Nx, XN | go_enter Ny, XO | go_enter Nz, XP | go_enter L5, TE
   go_wp2
   go_ret
   exact ⟨rfl, rfl⟩)
set_option maxHeartbeats 4000000 in
theorem rG : Hj aL 76 27 80 4 /\ Hj aL 77 30 83 3 /\ Hj aL 78 31 86 3 /\ Hj aL 79 36 89 3 /\ Hj aL 80 39 92 4 /\ Hj aL 81 40 95 3 /\ Hj aL 82 41 98 3 /\ Hj aL 83 42 101 3 /\ Hj aL 367 57 2 1 := by
  refine ⟨?_, ?_, ?_, ?_, ?_, ?_, ?_, ?_, ?_⟩ <;>
  (intro w a n c news i0 z q22 hu hi0 hz0 hz1 hzs hp hl A h1 hn hb
   have mixed := mixed
   first | go_enter Ns, XI | go_enter Nt, XJ | go_enter Nu, XK | go_enter Nv, XL | go_enter Nw, XM | go_enter Nx, XN | go_enter Ny, XO | go_enter Nz, XP | go_enter L5, TE
   go_wp2_with (at_builtin; refine wpList_append_own _ rfl _ _ _ rfl w.heap.size _ i0 z _ i0.bytes hu hi0 hz0 hz1 rfl hzs hp _ _ _ rfl (World.ownsRow_made w #[] 0 (aT _) (bW _) (by simp)) a n c news rfl hl (λj u hj => Lib.cell?_alloc_some _ (A j u hj)) h1 hn hb (by simp) ?_)
   intro v' w1 hown hgrow hnil
   go_wp2
   go_ret
   exact ⟨v', rfl, by simpa using hown, ((JJ _ w).alloc (aT _) _).grown hgrow (by simp) (by intro k hk; simp [Value.ownBlock] at hk; omega)⟩)
def aZ2:List AT:=[AT.v (p6 gT)]
def Yt (x0:List dG):List dG:=x0
def P76 (x0:List dG):Prop:=x0.length<=1048576
def S76:Am.Spec:={ sig:=aZ2,pre:=λ⟨x0,_⟩=>P76 x0,res:=λ⟨x0,_⟩=>[⟨p6 gT,Yt x0⟩] }
theorem aQa:c7 76 S76:=yB Ns<|o6 (vO 27) rfl rfl (by decide) (by decide) uY.1 rG.1
def aZ3:List AT:=[AT.v (p6 fL)]
def Yu (x0:List cU):List cU:=x0
def P77 (x0:List cU):Prop:=x0.length<=1048576
def S77:Am.Spec:={ sig:=aZ3,pre:=λ⟨x0,_⟩=>P77 x0,res:=λ⟨x0,_⟩=>[⟨p6 fL,Yu x0⟩] }
theorem aQb:c7 77 S77:=yB Nt<|o6 (vO 30) rfl rfl (by decide) (by decide) uY.2.1 rG.2.1
def aZ4:List AT:=[AT.v (p6 fL)]
def Yv (x0:List cU):List cU:=x0
def P78 (x0:List cU):Prop:=x0.length<=1048576
def S78:Am.Spec:={ sig:=aZ4,pre:=λ⟨x0,_⟩=>P78 x0,res:=λ⟨x0,_⟩=>[⟨p6 fL,Yv x0⟩] }
theorem aQc:c7 78 S78:=yB Nu<|o6 (vO 31) rfl rfl (by decide) (by decide) uY.2.2.1 rG.2.2.1
end Go.Proofs.YtmhpnodnljbnjaaGreatDoor
